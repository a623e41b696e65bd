/-
  OWN WORK, A PART: an abstract machine for the program's text that the kernel can run, and the proof that it is sound: what it answers is what the program answers; contracts of functions by it. No condition.
-/
import Derived.KernelRfl
import Derived.Test.YtidmijpfoodkoaaRows
import Derived.Test.YtidmijpfoodkoaaWaF
import Derived.Test.YtidmijpfoodkoaaWgC
section
section
open Go Go.Ax Go.Proofs.Ytidmijpfoodkoaa
namespace Go.Proofs.Ytidmijpfoodkoaa.utr
set_option linter.unusedVariables false
noncomputable def fns : List (Nat × Func) := [(8, Try.f8), (29, Try.f29), (30, Try.f30), (31, Try.f31), (34, Try.f34), (35, Try.f35), (36, Try.f36), (37, Try.f37), (38, Try.f38), (44, Try.f44), (52, Try.f52), (54, Try.f54), (57, Try.f57), (58, Try.f58)]
noncomputable def E : Env := envEx Try.prog (List.range 119) fns []
def fl0 : Fl := ⟨[], [], [], []⟩
theorem fnsOk : AllFn Try.prog fns :=
  ⟨⟨Try.func8, Try.call8⟩, ⟨Try.func29, Try.call29⟩, ⟨Try.func30, Try.call30⟩, ⟨Try.func31, Try.call31⟩, ⟨Try.func34, Try.call34⟩, ⟨Try.func35, Try.call35⟩, ⟨Try.func36, Try.call36⟩, ⟨Try.func37, Try.call37⟩, ⟨Try.func38, Try.call38⟩, ⟨Try.func44, Try.call44⟩, ⟨Try.func52, Try.call52⟩, ⟨Try.func54, Try.call54⟩, ⟨Try.func57, Try.call57⟩, ⟨Try.func58, Try.call58⟩, trivial⟩
theorem mixed : Try.prog.follows .mixedOrders = true := by kernel_rfl
theorem Eok : Env.Ok Try.prog E := envEx_ok (xs := []) fnsOk trivial mixed
noncomputable def c44 : Code := Option.getD Try.f44.body .skip
def row (l : List Int) : List AV := l.map fun z => .int .u64 z
def memI (x : Int) : List Int → Bool
  | [] => false
  | e :: es => bif eqF x e then true else memI x es
noncomputable def F44 (s : AV) (x : Int) : AFr := { m := putArgs [s, .int .u64 x] 0 .e, n := 9, defs := [] }
def flsC : List (Nat × Fl) := [(54, ⟨[], [], [16], []⟩)]
def flC : Fl := ⟨[], [7], [], []⟩
noncomputable def tC0 (x : Int) : Tr (Exit × AFr × ASt) := (TM E noSum flsC fl0 30).ex flC none c44 (F44 (.slice none 0 (.known 0)) x) (mkSt [] 0)
noncomputable def tC1 (c : Cap) (x e1 : Int) : Tr (Exit × AFr × ASt) := (TM E noSum flsC fl0 30).ex flC none c44 (F44 (.slice (some (0, 0)) 1 c) x) (mkSt [(0, .cells (row [e1]) false)] 1)
noncomputable def tC2 (c : Cap) (x e1 e2 : Int) : Tr (Exit × AFr × ASt) := (TM E noSum flsC fl0 30).ex flC none c44 (F44 (.slice (some (0, 0)) 2 c) x) (mkSt [(0, .cells (row [e1, e2]) false)] 1)
noncomputable def tC3 (c : Cap) (x e1 e2 e3 : Int) : Tr (Exit × AFr × ASt) := (TM E noSum flsC fl0 30).ex flC none c44 (F44 (.slice (some (0, 0)) 3 c) x) (mkSt [(0, .cells (row [e1, e2, e3]) false)] 1)
theorem vcC0 (x : Int) (Q : Exit × Option AV → Prop) : Q (.ret, some (.bool false)) = (tC0 x).allY (fun r => Q (r.1, ans (leaveA E Try.f44 r.2.1 r.2.2))) .nil := by kernel_rfl
theorem vcC1 (c : Cap) (x e1 : Int) (Q : Exit × Option AV → Prop) : ifB (eqF x e1) (Q (.ret, some (.bool true))) (Q (.ret, some (.bool false))) = (tC1 c x e1).allY (fun r => Q (r.1, ans (leaveA E Try.f44 r.2.1 r.2.2))) (.b .nil .nil) := by kernel_rfl
theorem vcC2 (c : Cap) (x e1 e2 : Int) (Q : Exit × Option AV → Prop) : ifB (eqF x e1) (Q (.ret, some (.bool true))) (ifB (eqF x e2) (Q (.ret, some (.bool true))) (Q (.ret, some (.bool false)))) = (tC2 c x e1 e2).allY (fun r => Q (r.1, ans (leaveA E Try.f44 r.2.1 r.2.2))) (.b .nil (.b .nil .nil)) := by kernel_rfl
theorem vcC3 (c : Cap) (x e1 e2 e3 : Int) (Q : Exit × Option AV → Prop) : ifB (eqF x e1) (Q (.ret, some (.bool true))) (ifB (eqF x e2) (Q (.ret, some (.bool true))) (ifB (eqF x e3) (Q (.ret, some (.bool true))) (Q (.ret, some (.bool false))))) = (tC3 c x e1 e2 e3).allY (fun r => Q (r.1, ans (leaveA E Try.f44 r.2.1 r.2.2))) (.b .nil (.b .nil (.b .nil .nil))) := by kernel_rfl
end Go.Proofs.Ytidmijpfoodkoaa.utr
end
section
open Go Go.Ax Go.Proofs.Ytidmijpfoodkoaa
namespace Go.Proofs.Ytidmijpfoodkoaa.utr
set_option linter.unusedVariables false
theorem view0 (st : ASt) : View [] st (mkSt [] 0) := ⟨rfl, fun j x hj => by
  have : (mkSt [] 0).h.get j = none := by show (T.e : T AO).get j = none; rw [T.get_e]
  rw [this] at hj; cases hj⟩
theorem view1 {st : ASt} {i : Nat} {cs cs' : List AV} {a : Bool} (hi : st.h.get i = some (.cells cs a)) (hr : renVs [i] cs = some cs') : View [i] st (mkSt [(0, .cells cs' false)] 1) := ⟨rfl, fun j x hj => by
  have hg : (mkSt [(0, .cells cs' false)] 1).h.get j = if j = 0 then some (.cells cs' false) else none := by
    show ((T.e : T AO).set D 0 _).get j = _
    rw [T.get_set, T.get_e]
  rw [hg] at hj
  by_cases e0 : j = 0
  · subst e0
    simp at hj; subst hj
    exact ⟨i, a, cs, cs', rfl, rfl, hi, hr⟩
  · simp [e0] at hj⟩
theorem renVs_row (ids : List Nat) : ∀ l : List Int, renVs ids (row l) = some (row l)
  | [] => rfl
  | x :: xs => by
    show renVs ids (.int .u64 x :: row xs) = _
    simp only [renVs, renV, renVs_row ids xs]
    rfl
def ints : List AV → Option (List Int)
  | [] => some []
  | .int .u64 z :: cs => (match ints cs with | some l => some (z :: l) | none => none)
  | _ => none
theorem ints_row : ∀ {cs : List AV} {l : List Int}, ints cs = some l → cs = row l
  | [], l, h => by simp [ints] at h; subst h; rfl
  | c :: cs, l, h => by
    unfold ints at h
    split at h
    · rename_i h0; cases h0
    · rename_i z cs' h0
      cases h0
      split at h
      · rename_i l' h1
        simp at h; subst h
        rw [ints_row h1]; rfl
      · cases h
    · cases h
theorem ct_at0 (x : Int) : AtMem Try.prog 44 [.slice none 0 (.known 0), .int .u64 x] (mkSt [] 0) (.bool false) := by
  refine AtMem.of_trip Eok (fn := Try.f44) (by kernel_rfl) (c := c44) (by kernel_rfl) (by kernel_rfl) ?_
  exact Trip.runY Eok noSum_ok (Eq.mp (vcC0 x fun q => (q.1 = .normal ∨ q.1 = .ret) ∧ q.2 = some (.bool false)) ⟨.inr rfl, rfl⟩)
theorem ct_at {es : List Int} (c : Cap) (x : Int) (h1 : 1 ≤ es.length) (h3 : es.length ≤ 3) : AtMem Try.prog 44 [.slice (some (0, 0)) es.length c, .int .u64 x] (mkSt [(0, .cells (row es) false)] 1) (.bool (memI x es)) := by
  refine AtMem.of_trip Eok (fn := Try.f44) (by kernel_rfl) (c := c44) (by kernel_rfl) (by kernel_rfl) ?_
  match es, h1, h3 with
  | [e1], _, _ =>
    refine Trip.runY Eok noSum_ok (Eq.mp (vcC1 c x e1 fun q => (q.1 = .normal ∨ q.1 = .ret) ∧ q.2 = some (.bool (memI x [e1]))) ?_)
    exact ifB_mk (fun h => ⟨.inr rfl, by simp [memI, h]⟩) (fun h => ⟨.inr rfl, by simp [memI, h]⟩)
  | [e1, e2], _, _ =>
    refine Trip.runY Eok noSum_ok (Eq.mp (vcC2 c x e1 e2 fun q => (q.1 = .normal ∨ q.1 = .ret) ∧ q.2 = some (.bool (memI x [e1, e2]))) ?_)
    exact ifB_mk (fun h => ⟨.inr rfl, by simp [memI, h]⟩) (fun h => ifB_mk (fun g => ⟨.inr rfl, by simp [memI, h, g]⟩) (fun g => ⟨.inr rfl, by simp [memI, h, g]⟩))
  | [e1, e2, e3], _, _ =>
    refine Trip.runY Eok noSum_ok (Eq.mp (vcC3 c x e1 e2 e3 fun q => (q.1 = .normal ∨ q.1 = .ret) ∧ q.2 = some (.bool (memI x [e1, e2, e3]))) ?_)
    exact ifB_mk (fun h => ⟨.inr rfl, by simp [memI, h]⟩) (fun h => ifB_mk (fun g => ⟨.inr rfl, by simp [memI, h, g]⟩) (fun g => ifB_mk (fun k => ⟨.inr rfl, by simp [memI, h, g, k]⟩) (fun k => ⟨.inr rfl, by simp [memI, h, g, k]⟩)))
  | _ :: _ :: _ :: _ :: _, _, h => simp at h
noncomputable def sumCt : CallT := fun f args st => bif Nat.beq 44 f then (match args with
  | [.slice none 0 (.known 0), .int .u64 x] => some (.bool false, st)
  | [.slice (some (i, 0)) n c, .int .u64 x] => (match st.h.get i with
    | some (.cells cs _) => (match ints cs with
      | some l => bif Nat.beq l.length n then (bif Nat.ble 1 l.length then (bif Nat.ble l.length 3 then some (.bool (memI x l), st) else none) else none) else none
      | none => none)
    | _ => none)
  | _ => none) else none
theorem sumCt_ok : CallsOK Try.prog sumCt := by
  intro B w0 f args st r h ι w args' hsr hv
  unfold sumCt at h
  cases hf : Nat.beq 44 f
  · simp [hf] at h
  simp only [hf, cond_true] at h
  have := nbeq hf
  subst this
  split at h
  · rename_i x
    simp only [Option.some.injEq] at h
    subst h
    exact local_ro (ct_at0 x) rfl hsr (ids := []) (view0 st) (by simp [renVs, renV]) hv
  · rename_i i n c x
    split at h
    rotate_left
    · cases h
    rename_i cs a hi
    split at h
    rotate_left
    · cases h
    rename_i l hl
    cases g1 : Nat.beq l.length n
    · simp [g1] at h
    cases g2 : Nat.ble 1 l.length
    · simp [g1, g2] at h
    cases g3 : Nat.ble l.length 3
    · simp [g1, g2, g3] at h
    simp only [g1, g2, g3, cond_true, Option.some.injEq] at h
    subst h
    have e1 := nbeq g1
    subst e1
    have e2 := ints_row hl
    subst e2
    exact local_ro (ct_at c x (Nat.le_of_ble_eq_true g2) (Nat.le_of_ble_eq_true g3)) rfl hsr (ids := [i]) (view1 hi (renVs_row _ _)) (by simp [renVs, renV, idxN]) hv
  · cases h
end Go.Proofs.Ytidmijpfoodkoaa.utr
end
section
open Go Go.Ax Go.Proofs.Ytidmijpfoodkoaa
namespace Go.Proofs.Ytidmijpfoodkoaa.utr
set_option linter.unusedVariables false
inductive Hs where
  | z
  | o (x : Nat)
  | t (x y : Nat)
structure Ln where
  c : Nat
  b : Option Nat
  h : Hs
def bI : Option Nat → Int
  | none => .ofNat 0
  | some x => .ofNat (x + 1)
def Hs.i0 : Hs → Int
  | .z => .ofNat 0
  | .o x => .ofNat (x + 1)
  | .t x _ => .ofNat (x + 1)
def Hs.i1 : Hs → Int
  | .z => .ofNat 0
  | .o _ => .ofNat 0
  | .t _ y => .ofNat (y + 1)
def lv (l : Ln) : List AV := [.int .u64 (.ofNat (l.c + 1)), .int .u64 (bI l.b), .int .u64 l.h.i0, .int .u64 l.h.i1]
noncomputable def c34 : Code := Option.getD Try.f34.body .skip
noncomputable def F34 (a b : Ln) : AFr := { m := putArgs [.agg (lv a), .agg (lv b)] 0 .e, n := 41, defs := [] }
def flsM : List (Nat × Fl) := [(52, ⟨[], [11], [], []⟩), (57, ⟨[], [], [16], []⟩)]
def flM : Fl := ⟨[], [39], [23, 24, 30], []⟩
noncomputable def tM (a b : Ln) : Tr (Exit × AFr × ASt) := (TM E sumCt flsM fl0 80).ex flM none c34 (F34 a b) (mkSt [] 0)
end Go.Proofs.Ytidmijpfoodkoaa.utr
end
section
open Go Go.Ax Go.Proofs.Ytidmijpfoodkoaa
namespace Go.Proofs.Ytidmijpfoodkoaa.utr
set_option linter.unusedVariables false
def Hs.es : Hs → List Int
  | .z => []
  | .o x => [.ofNat (x + 1)]
  | .t x y => [.ofNat (x + 1), .ofNat (y + 1)]
def eldB : Option Nat → List Int → List Int
  | none, l => l
  | some x, l => .ofNat (x + 1) :: l
def eld (l : Ln) : List Int := eldB l.b l.h.es
def cur (l : Ln) : Int := .ofNat (l.c + 1)
def okV (z : Int) : Prop := holdsO [(some (AV.int IntKind.u64 z), AV.int IntKind.u64 z)]
def vd (n : Nat) : Exit × Option AV := (.ret, some (.int .i64 (.ofNat n)))
def bothQ (Q : Exit × Option AV → Prop) (fs : List Int) : List Int → Prop
  | [] => Q (vd 8)
  | e :: es => ifB (memI e fs) (Q (vd 7)) (bothQ Q fs es)
def bothA : List Int → An
  | [] => .nil
  | _ :: es => .b .nil (bothA es)
def cmpQ (Q : Exit × Option AV → Prop) (a b : Ln) : Prop :=
  ifB (eqF (cur a) (cur b)) (Q (vd 4)) (ifB (memI (cur a) (eld b)) (okV (cur a) ∧ Q (vd 5)) (okV (cur a) ∧ ifB (memI (cur b) (eld a)) (okV (cur b) ∧ Q (vd 6)) (okV (cur b) ∧ bothQ Q (eld b) (eld a))))
theorem vcM (a b : Ln) (Q : Exit × Option AV → Prop) : cmpQ Q a b = (tM a b).allY (fun r => Q (r.1, ans (leaveA E Try.f34 r.2.1 r.2.2))) (.b .nil (.b .nil (.b .nil (bothA (eld a))))) := by
  obtain ⟨a, ab, ah⟩ := a
  obtain ⟨b, bb, bh⟩ := b
  cases ab <;> cases bb <;> cases ah <;> cases bh <;> kernel_rfl
end Go.Proofs.Ytidmijpfoodkoaa.utr
end
section
open Go Go.Ax Go.Proofs.Ytidmijpfoodkoaa
namespace Go.Proofs.Ytidmijpfoodkoaa.utr
set_option linter.unusedVariables false
theorem okV_ok (z : Int) : okV z := ⟨⟨rfl, by simp [avEq]⟩, trivial⟩
def anyI (fs : List Int) : List Int → Bool
  | [] => false
  | e :: es => bif memI e fs then true else anyI fs es
def cmpN (a b : Ln) : Nat :=
  bif eqF (cur a) (cur b) then 4 else bif memI (cur a) (eld b) then 5 else bif memI (cur b) (eld a) then 6 else bif anyI (eld b) (eld a) then 7 else 8
theorem bothQ_ok {Q : Exit × Option AV → Prop} {fs : List Int} : ∀ es, (anyI fs es = true → Q (vd 7)) → (anyI fs es = false → Q (vd 8)) → bothQ Q fs es
  | [], h7, h8 => h8 rfl
  | e :: es, h7, h8 => ifB_mk (fun h => h7 (by simp [anyI, h])) (fun h => bothQ_ok es (fun g => h7 (by simp [anyI, h, g])) (fun g => h8 (by simp [anyI, h, g])))
theorem cmp_at (a b : Ln) : AtMem Try.prog 34 [.agg (lv a), .agg (lv b)] (mkSt [] 0) (.int .i64 (.ofNat (cmpN a b))) := by
  refine AtMem.of_trip Eok (fn := Try.f34) (by kernel_rfl) (c := c34) (by kernel_rfl) (by kernel_rfl) ?_
  have e : ({ m := putArgs [.agg (lv a), .agg (lv b)] 0 .e, n := Try.f34.ntmps, defs := [] } : AFr) = F34 a b := by kernel_rfl
  rw [e]
  refine Trip.runY Eok sumCt_ok (Eq.mp (vcM a b fun q => (q.1 = .normal ∨ q.1 = .ret) ∧ q.2 = some (.int .i64 (.ofNat (cmpN a b)))) ?_)
  refine ifB_mk (fun h => ⟨.inr rfl, by simp [vd, cmpN, h]⟩) (fun h1 => ifB_mk (fun h => ⟨okV_ok _, .inr rfl, by simp [vd, cmpN, h, h1]⟩) (fun h2 => ⟨okV_ok _, ifB_mk (fun h => ⟨okV_ok _, .inr rfl, by simp [vd, cmpN, h, h1, h2]⟩) (fun h3 => ⟨okV_ok _, ?_⟩)⟩))
  exact bothQ_ok _ (fun h => ⟨.inr rfl, by simp [vd, cmpN, h, h1, h2, h3]⟩) (fun h => ⟨.inr rfl, by simp [vd, cmpN, h, h1, h2, h3]⟩)
end Go.Proofs.Ytidmijpfoodkoaa.utr
end
end

section
open Go Go.Ax Go.Proofs
namespace Go.Proofs.Ytidmijpfoodkoaa.gho
set_option linter.unusedVariables false
noncomputable def EF : Env := envEx Try.prog [0, 3, 4, 48, 51, 56, 57, 63, 65, 75, 89, 91, 99] [(25, Try.f25), (29, Try.f29), (32, Try.f32), (34, Try.f34), (46, Try.f46), (48, Try.f48)] []
-- Equal
noncomputable def c48 : Code := Option.getD Try.f48.body .skip
noncomputable def L48 : Code := lopB (blkB (seqR (seqL (dropC 1 c48))))
noncomputable def fr48 (n i : Nat) : AFr := xFr [(0, sU 0 n), (1, sU 1 n), (4, .bool false), (12, nI n), (13, nI i)] 26
noncomputable def tEa (n : Nat) (R R1 : AO) : Tr (Exit × AFr × ASt) := (TM EF noSum [] fl0 60).ex ⟨[10], [], [], []⟩ none (preC 1 c48) { m := putArgs [sU 0 n, sU 1 n] 0 .e, n := 26, defs := [] } (M2 R R1)
noncomputable def tEr (n i : Nat) (a : Int) (R R1 : AO) : Tr (Exit × AFr × ASt) := (TM EF noSum [] fl0 60).ex ⟨[18, 19, 22, 23, 24], [], [14], []⟩ none L48 (fr48 n i) (M2 R R1)
noncomputable def tEz (n : Nat) (R R1 : AO) : Tr (Exit × AFr × ASt) := (TM EF noSum [] fl0 60).ex fl0 none (dropC 2 c48) (fr48 n n) (M2 R R1)
-- Fits
def flF : List (Nat × Fl) := [(32, ⟨[21, 23, 24], [6, 10, 13, 17], [], []⟩), (29, ⟨[5], [], [], []⟩), (46, fl0), (25, ⟨[16], [8], [], []⟩)]
noncomputable def tFb (V : AV) (M R : AO) (a a1 a2 a3 : Int) : Tr (AV × ASt) := (TM EF noSum flF fl0 60).call 32 [pO 0, ln a a1 a2 a3] (mkSt [(0, tO V), (1, M), (2, R)] 3)
noncomputable def tFn (q : CallT) (V : AV) (M R : AO) (a a1 a2 a3 p : Int) (W We : AV) (X Xe : AO) : Tr (AV × ASt) := (TM EF (onlyC [37, 48, 49] q) flF fl0 60).call 32 [pO 0, ln a a1 a2 a3] (mkSt [(0, tO V), (1, M), (2, R)] 3)
noncomputable def tP1 (a a1 a2 a3 b b1 b2 b3 : Int) : Tr (AV × ASt) := (TM EF noSum [(34, ⟨[], [7, 10, 14, 17], [], []⟩), (29, ⟨[5], [], [], []⟩)] fl0 60).call 34 [ln a a1 a2 a3, ln b b1 b2 b3] (mkSt [] 0)
noncomputable def tP2 (a a1 a2 a3 b b1 b2 b3 : Int) : Tr (AV × ASt) := (TM EF noSum [(34, ⟨[], [7, 10, 14, 17], [], []⟩), (29, ⟨[5], [], [], []⟩)] fl0 60).call 34 [ln a a1 a2 a3, ln b b1 b2 b3] (mkSt [] 0)
noncomputable def tP3 (a a1 a2 a3 b b1 b2 b3 : Int) : Tr (AV × ASt) := (TM EF noSum [(34, ⟨[], [7, 10, 14, 17], [], []⟩), (29, ⟨[5], [], [], []⟩)] fl0 60).call 34 [ln a a1 a2 a3, ln b b1 b2 b3] (mkSt [] 0)
noncomputable def vcEa_s0 (R : AO) (R1 : AO) : ASt := mkSt [(0, R), (1, R1)] 2
theorem vcEa (n : Nat) (R : AO) (R1 : AO) (Q : Exit × AFr × ASt → Prop) (Q2 : Exit × Option AV → Prop) :
  (still (vcEa_s0 R R1) (aBin EF .neq 3 (.tmp 7) (.tmp 9) (.int .i64 (.ofNat n)) (.int .i64 (.ofNat n))) = some (.bool false, vcEa_s0 R R1) ∧ Q (.normal, xFr [(0, .slice (some (0, 0)) n (.atl n)), (1, .slice (some (1, 0)) n (.atl n)), (4, .bool false)] 26, vcEa_s0 R R1)) =
  (tEa n R R1).allY (mixQ EF Try.f48 [0, 1, 4] KO460 Q Q2) (.v (.bool false, vcEa_s0 R R1) .nil) := by kernel_rfl
noncomputable def vcEr_s0 (R : AO) (R1 : AO) : ASt := mkSt [(0, R), (1, R1)] 11
noncomputable def vcEr_s1 (R : AO) (R1 : AO) : ASt := mkSt [(0, R), (1, R1)] 2
theorem vcEr (n : Nat) (i : Nat) (a : Int) (R : AO) (R1 : AO) (Q : Exit × AFr × ASt → Prop) :
  (ifB (ltF (.ofNat i) (.ofNat n)) (still (vcEr_s0 R R1) (aIndexAddr EF 57 (.slice (some (0, 0)) n (.atl n)) (.int .i64 (.ofNat i))) = some (.ptr (some (0, i)), vcEr_s0 R R1) ∧ aLoad EF 48 (.ptr (some (0, i))) (vcEr_s0 R R1) = some (.int .u64 a, vcEr_s0 R R1) ∧ still (vcEr_s0 R R1) (aIndexAddr EF 57 (.slice (some (1, 0)) n (.atl n)) (.int .i64 (.ofNat i))) = some (.ptr (some (1, i)), vcEr_s0 R R1) ∧ aLoad EF 48 (.ptr (some (1, i))) (vcEr_s0 R R1) = some (.int .u64 a, vcEr_s0 R R1) ∧ still (vcEr_s0 R R1) (aBin EF .neq 48 (.tmp 19) (.tmp 23) (.int .u64 a) (.int .u64 a)) = some (.bool false, vcEr_s0 R R1) ∧ Q (.normal, xFr [(0, .slice (some (0, 0)) n (.atl n)), (1, .slice (some (1, 0)) n (.atl n)), (4, .bool false), (12, .int .i64 (.ofNat n)), (13, .int .i64 (wrapF .i64 (.ofNat i + .ofNat 1)))] 26, vcEr_s0 R R1)) (Q (.exit 0, xFr [(0, .slice (some (0, 0)) n (.atl n)), (1, .slice (some (1, 0)) n (.atl n)), (4, .bool false), (12, .int .i64 (.ofNat n)), (13, .int .i64 (.ofNat i))] 26, vcEr_s1 R R1))) =
  (tEr n i a R R1).allY (fun r => Q (canR [0, 1, 4, 12, 13] KO460 r)) (.b (.v (.ptr (some (0, i)), vcEr_s0 R R1) (.v (.int .u64 a, vcEr_s0 R R1) (.v (.ptr (some (1, i)), vcEr_s0 R R1) (.v (.int .u64 a, vcEr_s0 R R1) (.v (.bool false, vcEr_s0 R R1) .nil))))) .nil) := by kernel_rfl
theorem vcEz (n : Nat) (R : AO) (R1 : AO) (Q : Exit × Option AV → Prop) :
  (Q (.ret, some (.bool true))) =
  (tEz n R R1).allY (fun r => Q (r.1, ans (leaveA EF Try.f48 r.2.1 r.2.2))) (.nil) := by kernel_rfl
noncomputable def vcFb_s0 (V : AV) (M : AO) (R : AO) (a : Int) (a1 : Int) (a2 : Int) (a3 : Int) : ASt := mkSt [(0, .cells [.map (some 1), V] true), (1, M), (2, R), (3, .cells [.int .u64 a, .int .u64 a1, .int .u64 a2, .int .u64 a3] true), (4, .cells [.int .u64 a, .int .u64 a1, .int .u64 a2, .int .u64 a3] true)] 5
theorem vcFb (V : AV) (M : AO) (R : AO) (a : Int) (a1 : Int) (a2 : Int) (a3 : Int) (Q : AV × ASt → Prop) :
  (still (vcFb_s0 V M R a a1 a2 a3) (aBin EF .eql 48 (.tmp 4) (.const (.int .u64 0)) (.int .u64 a) (.int .u64 (.ofNat 0))) = some (.bool true, vcFb_s0 V M R a a1 a2 a3) ∧ Q (.bool true, vcFb_s0 V M R a a1 a2 a3)) =
  (tFb V M R a a1 a2 a3).allY (fun r => Q (r.1, canS KO460 r.2)) (.v (.bool true, vcFb_s0 V M R a a1 a2 a3) .nil) := by kernel_rfl
noncomputable def vcFn_s0 (V : AV) (M : AO) (R : AO) (a : Int) (a1 : Int) (a2 : Int) (a3 : Int) : ASt := mkSt [(0, .cells [.map (some 1), V] true), (1, M), (2, R), (3, .cells [.int .u64 a, .int .u64 a1, .int .u64 a2, .int .u64 a3] true), (4, .cells [.int .u64 a, .int .u64 a1, .int .u64 a2, .int .u64 a3] true)] 5
noncomputable def vcFn_s1 (V : AV) (M : AO) (R : AO) (a : Int) (a1 : Int) (a2 : Int) (a3 : Int) : ASt := mkSt [(0, .cells [.map (some 1), V] true), (1, M), (2, R), (3, .cells [.int .u64 a, .int .u64 a1, .int .u64 a2, .int .u64 a3] true), (4, .cells [.int .u64 a, .int .u64 a1, .int .u64 a2, .int .u64 a3] true)] 18
noncomputable def vcFn_s2 (V : AV) (M : AO) (R : AO) (a : Int) (a1 : Int) (a2 : Int) (a3 : Int) (X : AO) : ASt := mkSt [(0, .cells [.map (some 1), V] true), (1, M), (2, R), (3, .cells [.int .u64 a, .int .u64 a1, .int .u64 a2, .int .u64 a3] true), (4, .cells [.int .u64 a, .int .u64 a1, .int .u64 a2, .int .u64 a3] true), (35, X)] 218
noncomputable def vcFn_s3 (V : AV) (M : AO) (R : AO) (a : Int) (a1 : Int) (a2 : Int) (a3 : Int) (X : AO) (Xe : AO) : ASt := mkSt [(0, .cells [.map (some 1), V] true), (1, M), (2, R), (3, .cells [.int .u64 a, .int .u64 a1, .int .u64 a2, .int .u64 a3] true), (4, .cells [.int .u64 a, .int .u64 a1, .int .u64 a2, .int .u64 a3] true), (35, X), (218, Xe)] 268
theorem vcFn (q : CallT) (V : AV) (M : AO) (R : AO) (a : Int) (a1 : Int) (a2 : Int) (a3 : Int) (p : Int) (W : AV) (We : AV) (X : AO) (Xe : AO) (Q : AV × ASt → Prop) :
  (still (vcFn_s0 V M R a a1 a2 a3) (aBin EF .eql 48 (.tmp 4) (.const (.int .u64 0)) (.int .u64 a) (.int .u64 (.ofNat 0))) = some (.bool false, vcFn_s0 V M R a a1 a2 a3) ∧ still (vcFn_s1 V M R a a1 a2 a3) (aLookup EF 89 (.map (some 1)) (.int .u64 a) true (vcFn_s1 V M R a a1 a2 a3)) = some (.tuple [.int .u64 p, .bool true], vcFn_s1 V M R a a1 a2 a3) ∧ (Ax.M EF (drawA EF) (onlyC [37, 48, 49] q) 55).call 49 [.ptr (some (0, 0)), .agg [.int .u64 a, .int .u64 a1, .int .u64 a2, .int .u64 a3]] (vcFn_s1 V M R a a1 a2 a3) = some (W, vcFn_s2 V M R a a1 a2 a3 X) ∧ (Ax.M EF (drawA EF) (onlyC [37, 48, 49] q) 55).call 37 [.agg [.int .u64 a, .int .u64 a1, .int .u64 a2, .int .u64 a3]] (vcFn_s2 V M R a a1 a2 a3 X) = some (We, vcFn_s3 V M R a a1 a2 a3 X Xe) ∧ (Ax.M EF (drawA EF) (onlyC [37, 48, 49] q) 55).call 48 [W, We] (vcFn_s3 V M R a a1 a2 a3 X Xe) = some (.bool true, vcFn_s3 V M R a a1 a2 a3 X Xe) ∧ holdsO [(some (.agg [.int .u64 a, .int .u64 a1, .int .u64 a2, .int .u64 a3]), .agg [.int .u64 a, .int .u64 a1, .int .u64 a2, .int .u64 a3])] ∧ Q (.bool true, vcFn_s3 V M R a a1 a2 a3 X Xe)) =
  (tFn q V M R a a1 a2 a3 p W We X Xe).allY (fun r => Q (r.1, canS KO460 r.2)) (.v (.bool false, vcFn_s0 V M R a a1 a2 a3) (.v (.tuple [.int .u64 p, .bool true], vcFn_s1 V M R a a1 a2 a3) (.v (W, vcFn_s2 V M R a a1 a2 a3 X) (.v (We, vcFn_s3 V M R a a1 a2 a3 X Xe) (.v (.bool true, vcFn_s3 V M R a a1 a2 a3 X Xe) .nil))))) := by kernel_rfl
noncomputable def vcP1_s0 (a : Int) (a1 : Int) (a2 : Int) (a3 : Int) (b : Int) (b1 : Int) (b2 : Int) (b3 : Int) : ASt := mkSt [(0, .cells [.int .u64 a, .int .u64 a1, .int .u64 a2, .int .u64 a3] true), (1, .cells [.int .u64 b, .int .u64 b1, .int .u64 b2, .int .u64 b3] true), (2, .cells [.int .u64 a, .int .u64 a1, .int .u64 a2, .int .u64 a3] true)] 3
noncomputable def vcP1_s1 (a : Int) (a1 : Int) (a2 : Int) (a3 : Int) (b : Int) (b1 : Int) (b2 : Int) (b3 : Int) : ASt := mkSt [(0, .cells [.int .u64 a, .int .u64 a1, .int .u64 a2, .int .u64 a3] true), (1, .cells [.int .u64 b, .int .u64 b1, .int .u64 b2, .int .u64 b3] true), (2, .cells [.int .u64 a, .int .u64 a1, .int .u64 a2, .int .u64 a3] true), (3, .cells [.int .u64 b, .int .u64 b1, .int .u64 b2, .int .u64 b3] true)] 4
theorem vcP1 (a : Int) (a1 : Int) (a2 : Int) (a3 : Int) (b : Int) (b1 : Int) (b2 : Int) (b3 : Int) (Q : AV × ASt → Prop) :
  (still (vcP1_s0 a a1 a2 a3 b b1 b2 b3) (aBin EF .eql 48 (.tmp 4) (.const (.int .u64 0)) (.int .u64 a) (.int .u64 (.ofNat 0))) = some (.bool true, vcP1_s0 a a1 a2 a3 b b1 b2 b3) ∧ still (vcP1_s1 a a1 a2 a3 b b1 b2 b3) (aBin EF .eql 48 (.tmp 4) (.const (.int .u64 0)) (.int .u64 b) (.int .u64 (.ofNat 0))) = some (.bool true, vcP1_s1 a a1 a2 a3 b b1 b2 b3) ∧ Q (.int .i64 (.ofNat 1), vcP1_s1 a a1 a2 a3 b b1 b2 b3)) =
  (tP1 a a1 a2 a3 b b1 b2 b3).allY (fun r => Q (r.1, canS KO460 r.2)) (.v (.bool true, vcP1_s0 a a1 a2 a3 b b1 b2 b3) (.v (.bool true, vcP1_s1 a a1 a2 a3 b b1 b2 b3) .nil)) := by kernel_rfl
noncomputable def vcP2_s0 (a : Int) (a1 : Int) (a2 : Int) (a3 : Int) (b : Int) (b1 : Int) (b2 : Int) (b3 : Int) : ASt := mkSt [(0, .cells [.int .u64 a, .int .u64 a1, .int .u64 a2, .int .u64 a3] true), (1, .cells [.int .u64 b, .int .u64 b1, .int .u64 b2, .int .u64 b3] true), (2, .cells [.int .u64 a, .int .u64 a1, .int .u64 a2, .int .u64 a3] true)] 3
noncomputable def vcP2_s1 (a : Int) (a1 : Int) (a2 : Int) (a3 : Int) (b : Int) (b1 : Int) (b2 : Int) (b3 : Int) : ASt := mkSt [(0, .cells [.int .u64 a, .int .u64 a1, .int .u64 a2, .int .u64 a3] true), (1, .cells [.int .u64 b, .int .u64 b1, .int .u64 b2, .int .u64 b3] true), (2, .cells [.int .u64 a, .int .u64 a1, .int .u64 a2, .int .u64 a3] true), (3, .cells [.int .u64 b, .int .u64 b1, .int .u64 b2, .int .u64 b3] true)] 4
noncomputable def vcP2_s2 (a : Int) (a1 : Int) (a2 : Int) (a3 : Int) (b : Int) (b1 : Int) (b2 : Int) (b3 : Int) : ASt := mkSt [(0, .cells [.int .u64 a, .int .u64 a1, .int .u64 a2, .int .u64 a3] true), (1, .cells [.int .u64 b, .int .u64 b1, .int .u64 b2, .int .u64 b3] true), (2, .cells [.int .u64 a, .int .u64 a1, .int .u64 a2, .int .u64 a3] true), (3, .cells [.int .u64 b, .int .u64 b1, .int .u64 b2, .int .u64 b3] true), (4, .cells [.int .u64 a, .int .u64 a1, .int .u64 a2, .int .u64 a3] true)] 5
theorem vcP2 (a : Int) (a1 : Int) (a2 : Int) (a3 : Int) (b : Int) (b1 : Int) (b2 : Int) (b3 : Int) (Q : AV × ASt → Prop) :
  (still (vcP2_s0 a a1 a2 a3 b b1 b2 b3) (aBin EF .eql 48 (.tmp 4) (.const (.int .u64 0)) (.int .u64 a) (.int .u64 (.ofNat 0))) = some (.bool true, vcP2_s0 a a1 a2 a3 b b1 b2 b3) ∧ still (vcP2_s1 a a1 a2 a3 b b1 b2 b3) (aBin EF .eql 48 (.tmp 4) (.const (.int .u64 0)) (.int .u64 b) (.int .u64 (.ofNat 0))) = some (.bool false, vcP2_s1 a a1 a2 a3 b b1 b2 b3) ∧ still (vcP2_s2 a a1 a2 a3 b b1 b2 b3) (aBin EF .eql 48 (.tmp 4) (.const (.int .u64 0)) (.int .u64 a) (.int .u64 (.ofNat 0))) = some (.bool true, vcP2_s2 a a1 a2 a3 b b1 b2 b3) ∧ Q (.int .i64 (.ofNat 2), vcP2_s2 a a1 a2 a3 b b1 b2 b3)) =
  (tP2 a a1 a2 a3 b b1 b2 b3).allY (fun r => Q (r.1, canS KO460 r.2)) (.v (.bool true, vcP2_s0 a a1 a2 a3 b b1 b2 b3) (.v (.bool false, vcP2_s1 a a1 a2 a3 b b1 b2 b3) (.v (.bool true, vcP2_s2 a a1 a2 a3 b b1 b2 b3) .nil))) := by kernel_rfl
noncomputable def vcP3_s0 (a : Int) (a1 : Int) (a2 : Int) (a3 : Int) (b : Int) (b1 : Int) (b2 : Int) (b3 : Int) : ASt := mkSt [(0, .cells [.int .u64 a, .int .u64 a1, .int .u64 a2, .int .u64 a3] true), (1, .cells [.int .u64 b, .int .u64 b1, .int .u64 b2, .int .u64 b3] true), (2, .cells [.int .u64 a, .int .u64 a1, .int .u64 a2, .int .u64 a3] true)] 3
noncomputable def vcP3_s1 (a : Int) (a1 : Int) (a2 : Int) (a3 : Int) (b : Int) (b1 : Int) (b2 : Int) (b3 : Int) : ASt := mkSt [(0, .cells [.int .u64 a, .int .u64 a1, .int .u64 a2, .int .u64 a3] true), (1, .cells [.int .u64 b, .int .u64 b1, .int .u64 b2, .int .u64 b3] true), (2, .cells [.int .u64 a, .int .u64 a1, .int .u64 a2, .int .u64 a3] true), (3, .cells [.int .u64 a, .int .u64 a1, .int .u64 a2, .int .u64 a3] true)] 4
noncomputable def vcP3_s2 (a : Int) (a1 : Int) (a2 : Int) (a3 : Int) (b : Int) (b1 : Int) (b2 : Int) (b3 : Int) : ASt := mkSt [(0, .cells [.int .u64 a, .int .u64 a1, .int .u64 a2, .int .u64 a3] true), (1, .cells [.int .u64 b, .int .u64 b1, .int .u64 b2, .int .u64 b3] true), (2, .cells [.int .u64 a, .int .u64 a1, .int .u64 a2, .int .u64 a3] true), (3, .cells [.int .u64 a, .int .u64 a1, .int .u64 a2, .int .u64 a3] true), (4, .cells [.int .u64 b, .int .u64 b1, .int .u64 b2, .int .u64 b3] true)] 5
theorem vcP3 (a : Int) (a1 : Int) (a2 : Int) (a3 : Int) (b : Int) (b1 : Int) (b2 : Int) (b3 : Int) (Q : AV × ASt → Prop) :
  (still (vcP3_s0 a a1 a2 a3 b b1 b2 b3) (aBin EF .eql 48 (.tmp 4) (.const (.int .u64 0)) (.int .u64 a) (.int .u64 (.ofNat 0))) = some (.bool false, vcP3_s0 a a1 a2 a3 b b1 b2 b3) ∧ still (vcP3_s1 a a1 a2 a3 b b1 b2 b3) (aBin EF .eql 48 (.tmp 4) (.const (.int .u64 0)) (.int .u64 a) (.int .u64 (.ofNat 0))) = some (.bool false, vcP3_s1 a a1 a2 a3 b b1 b2 b3) ∧ still (vcP3_s2 a a1 a2 a3 b b1 b2 b3) (aBin EF .eql 48 (.tmp 4) (.const (.int .u64 0)) (.int .u64 b) (.int .u64 (.ofNat 0))) = some (.bool true, vcP3_s2 a a1 a2 a3 b b1 b2 b3) ∧ Q (.int .i64 (.ofNat 3), vcP3_s2 a a1 a2 a3 b b1 b2 b3)) =
  (tP3 a a1 a2 a3 b b1 b2 b3).allY (fun r => Q (r.1, canS KO460 r.2)) (.v (.bool false, vcP3_s0 a a1 a2 a3 b b1 b2 b3) (.v (.bool false, vcP3_s1 a a1 a2 a3 b b1 b2 b3) (.v (.bool true, vcP3_s2 a a1 a2 a3 b b1 b2 b3) .nil))) := by kernel_rfl
end Go.Proofs.Ytidmijpfoodkoaa.gho
end

section
open Go Go.Ax Go.Proofs
namespace Go.Proofs.Ytidmijpfoodkoaa.gho
set_option linter.unusedVariables false
theorem EFok : Env.Ok Try.prog EF := envEx_ok (xs := []) ⟨⟨Try.func25, Try.call25⟩, ⟨Try.func29, Try.call29⟩, ⟨Try.func32, Try.call32⟩, ⟨Try.func34, Try.call34⟩, ⟨Try.func46, Try.call46⟩, ⟨Try.func48, Try.call48⟩, trivial⟩ trivial (by kernel_rfl)
theorem isF57 : sliceT EF 57 = some 1 := by kernel_rfl
theorem icF48 : cellT EF 48 = true := by kernel_rfl
section
variable {x y : List Int} {i n k : Nat} {a g : Int} {S : ASt} {c : Cap} {V V' : AV}
def QEq (x : List Int) (i : Nat) (q : Exit × AFr × ASt) : Prop := (i < x.length ∧ Stops 2 .normal (fr48 x.length (i + 1)) (m2 x) q) ∨ (i = x.length ∧ Stops 2 (.exit 0) (fr48 x.length i) (m2 x) q)
theorem roundEq (hl : x.length < 4611686018427387904) (hi : i ≤ x.length) : Trip Try.prog 2 none L48 (fr48 x.length i) (m2 x) (QEq x i) := by
  have fin : ∀ {a : Int} {ys}, (tEr x.length i a (rowU x) (rowU x)).allY (fun r => QEq x i (canR [0, 1, 4, 12, 13] KO460 r)) ys → Trip Try.prog 2 none L48 (fr48 x.length i) (m2 x) (QEq x i) := fun h =>
    (Trip.runY EFok noSum_ok h).mono fun r hr => hr.imp (fun h => ⟨h.1, h.2.can⟩) (fun h => ⟨h.1, h.2.can⟩)
  by_cases e : i < x.length
  · obtain ⟨a, ha⟩ : ∃ a, x[i]? = some a := ⟨_, List.getElem?_eq_getElem e⟩
    refine fin (a := a) (Eq.mp (vcEr x.length i a (rowU x) (rowU x) (QEq x i)) (ifB_mk (fun _ => ⟨uidx isF57 e, uload (rw := false) icF48 (by kernel_rfl) (urow ha), uidx isF57 e, uload (rw := false) icF48 (by kernel_rfl) (urow ha), une (fun z => by kernel_rfl) a, .inl ⟨e, rfl, ?_⟩⟩) fun h => nlt' e h))
    rw [wI e hl]
    have hs : StP [0, 1] (vcEr_s0 (rowU x) (rowU x)) [(0, rowU x), (1, rowU x)] := .came rowU_came rfl (by kernel_rfl) (.came rowU_came rfl (by kernel_rfl) .nil)
    exact Wk.heldX (kb := 2) [0, 1] (by kernel_rfl) (by kernel_rfl) [0, 1, 4, 12, 13] (by kernel_rfl) hs
  · have ek : i = x.length := by omega
    refine fin (a := 0) (Eq.mp (vcEr x.length i 0 (rowU x) (rowU x) (QEq x i)) (ifB_mk (fun h => ?_) fun _ => .inr ⟨ek, rfl, Wk.refl _ _ _⟩))
    rw [ltF_nn] at h
    exact absurd (of_decide_eq_true h) e
theorem shape48 : dropC 1 c48 = .seq (.seq (seqL (seqL (dropC 1 c48))) (.block 0 (.loop L48))) (dropC 2 c48) := by kernel_rfl
theorem at48 (hl : x.length < 4611686018427387904) : AtMem Try.prog 48 [sU 0 x.length, sU 1 x.length] (m2 x) (.bool true) := by
  refine AtMem.of_trip EFok (fn := Try.f48) (by kernel_rfl) (c := c48) (by kernel_rfl) (by kernel_rfl) ?_
  have hfr : ({ m := putArgs [sU 0 x.length, sU 1 x.length] 0 .e, n := Try.f48.ntmps, defs := [] } : AFr) = { m := putArgs [sU 0 x.length, sU 1 x.length] 0 .e, n := 26, defs := [] } := by kernel_rfl
  rw [hfr]
  refine Trip.preM EFok noSum_ok (fn := Try.f48) (k := 1) (kf := [0, 1, 4]) (ko := KO460) (Q1 := fun q => q = (.normal, xFr [(0, sU 0 x.length), (1, sU 1 x.length), (4, .bool false)] 26, m2 x)) (Q2 := fun _ => False) (by kernel_rfl)
    (Eq.mp (vcEa x.length (rowU x) (rowU x) (fun q => q = (.normal, xFr [(0, sU 0 x.length), (1, sU 1 x.length), (4, .bool false)] 26, m2 x)) (fun _ => False)) ⟨une (fun z => by kernel_rfl) _, by kernel_rfl⟩) ?_ (fun r _ h => h.elim) (fun r h1 _ h => absurd (congrArg Prod.fst h) h1)
  rintro F' S' h
  cases h
  rw [shape48]
  refine Trip.seq (R := Stops 2 .normal (fr48 x.length x.length) (m2 x)) (Trip.seqC EFok noSum_ok (n := 60) [0, 1, 4, 12, 13] KO460 (F := fr48 x.length 0) (S := m2 x) (by kernel_rfl) (Trip.block (Trip.loop (fun μ fr st => ∃ k, k ≤ x.length ∧ μ = x.length - k ∧ fr = fr48 x.length k ∧ st = m2 x) ?_ x.length ⟨0, by omega, by omega, rfl, rfl⟩))) (fun fr' st' hq => ?_) (fun e fr' st' hne hq => absurd hq.1 hne)
  · rintro μ fr st ⟨k, hk, rfl, rfl, rfl⟩
    refine (roundEq hl hk).mono ?_
    rintro ⟨e, fr', st'⟩ (⟨h2, h4, h5⟩ | ⟨h2, h4, h5⟩)
    · simp only at h4
      subst h4
      exact ⟨x.length - (k + 1), _, _, by omega, h5, k + 1, by omega, rfl, rfl, rfl⟩
    · simp only at h4
      subst h4
      subst h2
      exact ⟨fun _ => ⟨rfl, h5⟩, fun h => absurd rfl h⟩
  · exact Trip.less hq.2 ((Trip.runY EFok noSum_ok (Eq.mp (vcEz x.length (rowU x) (rowU x) (fun q => q = (.ret, some (.bool true)))) rfl)).mono fun q hq => ⟨.inr (congrArg Prod.fst hq), congrArg Prod.snd hq⟩)
theorem equal_any (hV : SlV S V x) (hV' : SlV S V' x) (hl : x.length < 4611686018427387904) : Call1 Try.prog 48 [V, V'] S (.bool true, S) := by
  by_cases hx : x = []
  · subst hx
    obtain ⟨A, hA, hA2⟩ := hV.empty
    obtain ⟨B, hB, hB2⟩ := hV'.empty
    have hrun : AtMem Try.prog 48 [A, B] (mkSt [] 0) (.bool true) := by
      rcases hA with rfl | rfl <;> rcases hB with rfl | rfl <;> exact AtMem.of_run EFok noSum_ok (n := 60) (by kernel_rfl)
    exact Call1.read hrun (by simp [refsV]) (l := []) rfl (fun j x hj => by
      have : (mkSt [] 0).h.get j = Option.none := T.get_e j
      rw [this] at hj; cases hj) (fun j q hq => by simp at hq) fun ι args' hv => ⟨hv.size, fun k y y' hy hy' => by
      match k, hy with
      | 0, hy => simp at hy; subst hy; exact hA2 ι _ _ (hv.at_ 0 _ y' rfl hy')
      | 1, hy => simp at hy; subst hy; exact hB2 ι _ _ (hv.at_ 1 _ y' rfl hy')
      | k + 2, hy => simp at hy⟩
  · cases hV with
    | nil => exact absurd rfl hx
    | zero => exact absurd rfl hx
    | @row k o cp cs rw x h ht =>
      cases hV' with
      | nil => exact absurd rfl hx
      | zero => exact absurd rfl hx
      | @row k' o' cp' cs' rw' x h' ht' =>
        refine Call1.read (at48 hl) (by simp [refsV]) (l := [(k, o, x.map gU), (k', o', x.map gU)]) rfl (fun j y hj => ?_) (fun j q hq => ?_) fun ι args' hv => ⟨hv.size, fun i y y' hy hy' => ?_⟩
        · rcases get2 hj with ⟨rfl, rfl⟩ | ⟨rfl, rfl⟩ <;> exact ⟨_, rfl, rfl⟩
        · match j, hq with
          | 0, hq => simp at hq; subst hq; exact ⟨by simpa using hx, gU_refs, cs, rw, h, by rw [List.length_map]; exact ht⟩
          | 1, hq => simp at hq; subst hq; exact ⟨by simpa using hx, gU_refs, cs', rw', h', by rw [List.length_map]; exact ht'⟩
          | j + 2, hq => simp at hq
        · match i, hy with
          | 0, hy => simp at hy; subst hy; exact VR.rowR (l := [(k, o, x.map gU), (k', o', x.map gU)]) rfl rfl rfl (hv.at_ 0 _ y' rfl hy')
          | 1, hy => simp at hy; subst hy; exact VR.rowR (l := [(k, o, x.map gU), (k', o', x.map gU)]) (j := 1) rfl rfl rfl (hv.at_ 1 _ y' rfl hy')
          | i + 2, hy => simp at hy
end
theorem Uv_slv' {S : ASt} {k : Nat} {e : List Int} (h : S.h.get k = some (Ux e)) : SlV S (Uv k e) e := by
  cases e with
  | nil => exact .nil
  | cons u e => exact .row (x := u :: e) h (by rw [← List.length_map (f := gU)]; exact takeL_all)
section
variable {t : List (Int × Int)} {x y : Ln} {S : ASt} {p k : Int} {l : List (Int × Int)}
def FitL (t : List (Int × Int)) (x : Ln) : Prop := eqF x.now (.ofNat 0) = true ∨ (eqF x.now (.ofNat 0) = false ∧ hasK t x.now = true ∧ (up t x.now).take x.eld.length = x.eld)
theorem eqF_b {t ty : Nat} {x : Operand} {kd : IntKind} {w : Bool} (h : ∀ z : Int, aBin EF .eql ty (.tmp t) x (.int kd z) (.int kd (.ofNat 0)) = some (.bool (eqF z (.ofNat 0)))) (hw : eqF p (.ofNat 0) = w) : still S (aBin EF .eql ty (.tmp t) x (.int kd p) (.int kd (.ofNat 0))) = some (.bool w, S) := by
  rw [h, hw]; rfl
theorem lkF_t {st : ASt} (hS : st.h.get 1 = some (mO l)) (h : hasK l p = true) : still st (aLookup EF 89 (.map (some 1)) (.int .u64 p) true st) = some (.tuple [.int .u64 (parK l p), .bool true], st) := by
  rw [lookup_at (by kernel_rfl) hS, h]; rfl
def QF (t : List (Int × Int)) (w : AV × ASt) : Prop := w.1 = .bool true ∧ w.2.next ≤ 400 ∧ w.2.h.get 0 = some (tO (vR t.length (capT t))) ∧ w.2.h.get 1 = some (mO t) ∧ w.2.h.get 2 = some (rT t)
theorem fitsB_at (hS : TreeB S t) (hT : TreeOk t) (hl : (up t x.now).length < 90000) (hx : FitL t x) :
    Call1 Try.prog 32 [pO 1, x.av] S (.bool true, outS (gA 1 3 S.next) [(0, tA (vT 3 t)), (1, mO t), (2, rT t)] S (S.next + 400)) := by
  refine treeB_sameN 400 (by decide) (args1 := [pO 0, x.av]) (ot := []) (Q1 := QF t) hS (fun B w0 ι W args' hB hsr hv => ?_) rfl fun q hq => ?_
  · rcases hx with hb | ⟨hb, hk, he⟩
    · exact run_of_tm EFok noSum_ok (Eq.mp (vcFb (vR t.length (capT t)) (mO t) (rT t) x.now x.bef x.o0 x.o1 (QF t)) ⟨eqF_b (fun z => by kernel_rfl) hb, rfl, Nat.le_of_ble_eq_true (by kernel_rfl), by kernel_rfl, by kernel_rfl, by kernel_rfl⟩) B w0 ι W args' hsr hv
    · have c1 : Call1 Try.prog 49 [.ptr (some (0, 0)), x.av] (vcFn_s1 (vR t.length (capT t)) (mO t) (rT t) x.now x.bef x.o0 x.o1) (sgV 35 (up t x.now) x.eld.length, vcFn_s2 (vR t.length (capT t)) (mO t) (rT t) x.now x.bef x.o0 x.o1 (Ux (up t x.now))) :=
        Call1.mem (by kernel_rfl) (sight_at (n := t.length) (c := capT t) (cs := (t.map Prod.fst).map gU) (S := vcFn_s1 (vR t.length (capT t)) (mO t) (rT t) x.now x.bef x.o0 x.o1) (a := x.now) (p := x.bef) (q := x.o0) (r := x.o1) ⟨by kernel_rfl, by kernel_rfl, by kernel_rfl, gU_refs⟩ hT hl)
      have c2 : Call1 Try.prog 37 [x.av] (vcFn_s2 (vR t.length (capT t)) (mO t) (rT t) x.now x.bef x.o0 x.o1 (Ux (up t x.now))) (Uv 218 x.eld, vcFn_s3 (vR t.length (capT t)) (mO t) (rT t) x.now x.bef x.o0 x.o1 (Ux (up t x.now)) (Ux x.eld)) :=
        Call1.mem (by kernel_rfl) (elder_at (S := vcFn_s2 (vR t.length (capT t)) (mO t) (rT t) x.now x.bef x.o0 x.o1 (Ux (up t x.now))) (a := x.now) (p := x.bef) (q := x.o0) (r := x.o1))
      have hel : x.eld.length < 90000 := by
        have := congrArg List.length he
        rw [List.length_take] at this; omega
      have v1 : SlV (vcFn_s3 (vR t.length (capT t)) (mO t) (rT t) x.now x.bef x.o0 x.o1 (Ux (up t x.now)) (Ux x.eld)) (sgV 35 (up t x.now) x.eld.length) x.eld := by
        have := sgV_row (m := x.eld.length) (row_of (S := vcFn_s3 (vR t.length (capT t)) (mO t) (rT t) x.now x.bef x.o0 x.o1 (Ux (up t x.now)) (Ux x.eld)) (k := 35) (u := up t x.now) (by kernel_rfl))
        rw [he] at this; exact this
      have v2 : SlV (vcFn_s3 (vR t.length (capT t)) (mO t) (rT t) x.now x.bef x.o0 x.o1 (Ux (up t x.now)) (Ux x.eld)) (Uv 218 x.eld) x.eld := Uv_slv' (by kernel_rfl)
      exact run_of_tm EFok (sum := onlyC [37, 48, 49] (tabC [_, _, _])) (onlyC_ok (tabC_ok fun w he => by
        simp only [List.mem_cons, List.not_mem_nil, or_false] at he
        rcases he with rfl | rfl | rfl
        · exact c1
        · exact c2
        · exact equal_any v1 v2 (by omega))) (Eq.mp (vcFn (tabC [_, _, _]) (vR t.length (capT t)) (mO t) (rT t) x.now x.bef x.o0 x.o1 (parK t x.now) (sgV 35 (up t x.now) x.eld.length) (Uv 218 x.eld) (Ux (up t x.now)) (Ux x.eld) (QF t))
        ⟨eqF_b (fun z => by kernel_rfl) hb, lkF_t (by kernel_rfl) hk, call_at (onlyC_at rfl (tabC_hd ..)), call_at (onlyC_at rfl ((tabC_tlf rfl).trans (tabC_hd ..))), call_at (onlyC_at rfl ((tabC_tlf rfl).trans ((tabC_tlf rfl).trans (tabC_hd ..)))), ⟨⟨rfl, ln_self⟩, trivial⟩, rfl, Nat.le_of_ble_eq_true (by kernel_rfl), by kernel_rfl, by kernel_rfl, by kernel_rfl⟩) B w0 ι W args' hsr hv
  · obtain ⟨h1, h2, h3, h4, h5⟩ := hq
    exact ⟨by rw [h1]; exact .keep (by simp [refsV]), h2, h3, h4, h5, fun p hp => by cases hp⟩
end
section
variable {t : List (Int × Int)} {x y : Ln} {u v : utr.Ln} {S : ASt}
def ofU (u : utr.Ln) : Ln := ⟨.ofNat (u.c + 1), utr.bI u.b, u.h.i0, u.h.i1⟩
theorem ofU_av : (ofU u).av = .agg (utr.lv u) := rfl
def OkL (x : Ln) : Prop := eqF x.now (.ofNat 0) = true ∨ ∃ u, x = ofU u
def cmpV (x y : Ln) : Nat :=
  bif eqF x.now (.ofNat 0) then (bif eqF y.now (.ofNat 0) then 1 else 2) else bif eqF y.now (.ofNat 0) then 3 else bif eqF x.now y.now then 4 else
  bif y.eld.any (eqF x.now) then 5 else bif x.eld.any (eqF y.now) then 6 else bif x.eld.any (fun r => y.eld.any (eqF r)) then 7 else 8
theorem memI_any (z : Int) : ∀ l : List Int, utr.memI z l = l.any (eqF z)
  | [] => rfl
  | e :: l => by
    unfold utr.memI
    rw [memI_any z l, List.any_cons]
    cases eqF z e <;> rfl
theorem anyI_any (f : List Int) : ∀ l : List Int, utr.anyI f l = l.any fun r => f.any (eqF r)
  | [] => rfl
  | e :: l => by
    unfold utr.anyI
    rw [anyI_any f l, List.any_cons, memI_any]
    cases f.any (eqF e) <;> rfl
theorem ofU_eld : (ofU u).eld = utr.eld u := by
  obtain ⟨c, b, h⟩ := u
  cases b <;> cases h <;> rfl
theorem ofU_now : eqF (ofU u).now (.ofNat 0) = false := rfl
theorem cmpN_V : utr.cmpN u v = cmpV (ofU u) (ofU v) := by
  unfold utr.cmpN cmpV
  rw [ofU_now, ofU_now, memI_any, memI_any, anyI_any, ofU_eld, ofU_eld]
  rfl
theorem cmp_mem (hx : OkL x) (hy : OkL y) : AtMem Try.prog 34 [x.av, y.av] (mkSt [] 0) (.int .i64 (.ofNat (cmpV x y))) := by
  rcases hx with hx | ⟨u, rfl⟩
  · cases hb : eqF y.now (.ofNat 0) with
    | true =>
      rw [show cmpV x y = 1 by unfold cmpV; rw [hx, hb]; rfl]
      exact AtMem.of_tm EFok noSum_ok (Eq.mp (vcP1 x.now x.bef x.o0 x.o1 y.now y.bef y.o0 y.o1 (fun q => q.1 = .int .i64 (.ofNat 1))) ⟨eqF_b (fun z => by kernel_rfl) hx, eqF_b (fun z => by kernel_rfl) hb, rfl⟩)
    | false =>
      rw [show cmpV x y = 2 by unfold cmpV; rw [hx, hb]; rfl]
      exact AtMem.of_tm EFok noSum_ok (Eq.mp (vcP2 x.now x.bef x.o0 x.o1 y.now y.bef y.o0 y.o1 (fun q => q.1 = .int .i64 (.ofNat 2))) ⟨eqF_b (fun z => by kernel_rfl) hx, eqF_b (fun z => by kernel_rfl) hb, eqF_b (fun z => by kernel_rfl) hx, rfl⟩)
  · rcases hy with hy | ⟨v, rfl⟩
    · rw [show cmpV (ofU u) y = 3 by unfold cmpV; rw [hy, ofU_now]; rfl]
      exact AtMem.of_tm EFok noSum_ok (Eq.mp (vcP3 (ofU u).now (ofU u).bef (ofU u).o0 (ofU u).o1 y.now y.bef y.o0 y.o1 (fun q => q.1 = .int .i64 (.ofNat 3))) ⟨eqF_b (fun z => by kernel_rfl) ofU_now, eqF_b (fun z => by kernel_rfl) ofU_now, eqF_b (fun z => by kernel_rfl) hy, rfl⟩)
    · rw [← cmpN_V]
      exact utr.cmp_at u v
theorem cmp_any (hx : OkL x) (hy : OkL y) : Call1 Try.prog 34 [x.av, y.av] S (.int .i64 (.ofNat (cmpV x y)), S) :=
  Call1.read (cmp_mem hx hy) (by simp [refsV]) (l := []) rfl (fun j x hj => by
      have : (mkSt [] 0).h.get j = Option.none := T.get_e j
      rw [this] at hj; cases hj) (fun j q hq => by simp at hq) fun ι args' hv => ⟨hv.size, fun i z z' h h' => by
      match i, h with
      | 0, h => simp at h; subst h; exact (hv.at_ 0 _ z' rfl h').noRef (by simp [refsV, Ln.av, ln, gU])
      | 1, h => simp at h; subst h; exact (hv.at_ 1 _ z' rfl h').noRef (by simp [refsV, Ln.av, ln, gU])
      | i + 2, h => simp at h⟩
theorem says_cmp (hx : FitL t x) (hy : FitL t y) : saysV t x y = cmpV x y := by
  unfold saysV cmpV
  rcases hx with hx | ⟨hx, _, ex⟩
  · rw [hx]; rfl
  · rcases hy with hy | ⟨hy, _, ey⟩
    · rw [hx, hy]; rfl
    · unfold sgt
      have h1 : ∀ r, inT (up t y.now) y.eld.length r = y.eld.any (eqF r) := fun r => by unfold inT; rw [ey]
      have h2 : ∀ r, inT (up t x.now) x.eld.length r = x.eld.any (eqF r) := fun r => by unfold inT; rw [ex]
      rw [hx, hy, h1, h2, ex, show inT (up t y.now) y.eld.length = fun r => y.eld.any (eqF r) from funext h1]
end
end Go.Proofs.Ytidmijpfoodkoaa.gho
end

section
open Go Go.Ax Go.Proofs
namespace Go.Proofs.Ytidmijpfoodkoaa.gho.gl
set_option linter.unusedVariables false
def fstO (x : Option (AV × ASt)) : Option AV := match x with | some (v, _) => some v | none => none
noncomputable def EG : Env := envEx Try.prog [0, 3, 4, 28, 48, 49, 51, 52, 57, 62, 63, 65, 66, 68, 70, 73, 75, 89] [(7, Try.f7), (23, Try.f23), (29, Try.f29), (30, Try.f30), (31, Try.f31)] []
noncomputable def c7 : Code := Option.getD Try.f7.body .skip
noncomputable def LD : Code := lopB (blkB (seqR (seqL (dropC 5 c7))))
noncomputable def LO : Code := lopB (blkB (seqR (seqL (dropC 8 c7))))
noncomputable def HO : Code := seqL LO
noncomputable def BX : Code := blkB (seqL (seqR LO))
noncomputable def RO : Code := seqR (seqR LO)
noncomputable def LI : Code := lopB (blkB (seqR BX))
def flG : List (Nat × Fl) := [(29, ⟨[5], [], [], []⟩), (30, ⟨[8], [], [], []⟩), (31, ⟨[5], [], [], []⟩), (23, fl0)]
def flR : Fl := ⟨[30, 36, 38, 39, 42, 44, 45, 48, 50, 52, 54, 55, 58, 60, 62, 65, 66, 73, 80, 82, 85, 86, 88, 90, 93, 94, 95, 97, 100, 4095], [56, 68, 87], [31], []⟩
noncomputable def F7 (A : AV) : AFr := { m := putArgs [A] 0 .e, n := 146, defs := [] }
noncomputable def frD (A V : AV) (d i : Nat) : AFr := xFr [(0, A), (2, .bool false), (3, pO 1), (5, gU (.ofNat d)), (6, V), (7, nI i)] 146
noncomputable def SD (O L X : AO) : ASt := mkSt [(0, O), (1, L), (2, X)] 3
noncomputable def frT (i : Nat) : AFr := xFr [(2, .bool false), (3, pO 4), (13, pO 1), (15, nI i)] 146
noncomputable def frK (i k : Nat) : AFr := xFr [(2, .bool false), (3, pO 4), (13, pO 1), (15, nI i), (16, nI k)] 146
noncomputable def SG (O V M R L : AO) : ASt := mkSt [(0, O), (1, V), (2, M), (3, R), (4, L)] 5
noncomputable def tL1 (q : CallT) (A : AV) (O : AO) (n : Nat) : Tr (Exit × AFr × ASt) := (TM EG (onlyC [21] q) flG fl0 60).ex ⟨[18, 19, 20], [], [], []⟩ none (preC 1 c7) (F7 A) (S0 O)
noncomputable def tL2 (q : CallT) (A : AV) (O : AO) (n : Nat) : Tr (Exit × AFr × ASt) := (TM EG (onlyC [21] q) flG fl0 60).ex ⟨[18, 19, 20], [], [], []⟩ none (preC 5 c7) (F7 A) (S0 O)
noncomputable def tOf (q : CallT) (A V0 V : AV) (d i : Nat) (O L X M R : AO) : Tr (Exit × AFr × ASt) := (TM EG (onlyC [22] q) flG fl0 60).ex ⟨[103], [110], [], []⟩ none (preC 1 (dropC 6 c7)) (frD A V0 d i) (SD O L X)
noncomputable def tO1 (i : Nat) (O V M R L : AO) : Tr (Exit × AFr × ASt) := (TM EG noSum flG fl0 60).ex ⟨[], [], [114], []⟩ none HO (frT i) (SG O V M R L)
noncomputable def tO2 (i k : Nat) (O V M R L : AO) : Tr (Exit × AFr × ASt) := (TM EG noSum flG fl0 60).ex fl0 none RO (frK i k) (SG O V M R L)
noncomputable def tI (q : CallT) (i k v : Nat) (x y : Ln) (O V M R L : AO) : Tr (Exit × AFr × ASt) := (TM EG (onlyC [32, 33, 34] q) flG fl0 60).ex ⟨[123, 124, 125, 130, 131, 133, 134, 135, 137, 138, 140, 141, 142, 143], [], [118], []⟩ none LI (frK i k) (SG O V M R L)
noncomputable def tZ (q : CallT) (i k : Nat) (O V M R L : AO) : Tr (Exit × AFr × ASt) := (TM EG (onlyC [21] q) flG fl0 60).ex ⟨[145], [], [], []⟩ none (dropC 9 c7) (frT i) (SG O V M R L)
noncomputable def tRb (q : CallT) (A V : AV) (O L X W L2 : AO) (n i d w v e m : Nat) (z1 z2 kd : Int) (x y : Ln) : Tr (Exit × AFr × ASt) := (TM EG (onlyC [21] q) flG fl0 60).ex flR none LD (frD A V d i) (SD O L X)
noncomputable def tRn (q : CallT) (A V : AV) (O L X W L2 : AO) (n i d w v e m : Nat) (z1 z2 kd : Int) (x y : Ln) : Tr (Exit × AFr × ASt) := (TM EG (onlyC [21] q) flG fl0 60).ex flR none LD (frD A V d i) (SD O L X)
noncomputable def tRu (q : CallT) (A V : AV) (O L X W L2 : AO) (n i d w v e m : Nat) (z1 z2 kd : Int) (x y : Ln) : Tr (Exit × AFr × ASt) := (TM EG (onlyC [21] q) flG fl0 60).ex flR none LD (frD A V d i) (SD O L X)
noncomputable def tRe (q : CallT) (A V : AV) (O L X W L2 : AO) (n i d w v e m : Nat) (z1 z2 kd : Int) (x y : Ln) : Tr (Exit × AFr × ASt) := (TM EG (onlyC [21] q) flG fl0 60).ex flR none LD (frD A V d i) (SD O L X)
noncomputable def tRf (q : CallT) (A V : AV) (O L X W L2 : AO) (n i d w v e m : Nat) (z1 z2 kd : Int) (x y : Ln) : Tr (Exit × AFr × ASt) := (TM EG (onlyC [21] q) flG fl0 60).ex flR none LD (frD A V d i) (SD O L X)
noncomputable def tRg (q : CallT) (A V : AV) (O L X W L2 : AO) (n i d w v e m : Nat) (z1 z2 kd : Int) (x y : Ln) : Tr (Exit × AFr × ASt) := (TM EG (onlyC [21] q) flG fl0 60).ex flR none LD (frD A V d i) (SD O L X)
noncomputable def tRh (q : CallT) (A V : AV) (O L X W L2 : AO) (n i d w v e m : Nat) (z1 z2 kd : Int) (x y : Ln) : Tr (Exit × AFr × ASt) := (TM EG (onlyC [21] q) flG fl0 60).ex flR none LD (frD A V d i) (SD O L X)
noncomputable def tRj (q : CallT) (A V : AV) (O L X W L2 : AO) (n i d w v e m : Nat) (z1 z2 kd : Int) (x y : Ln) : Tr (Exit × AFr × ASt) := (TM EG (onlyC [21] q) flG fl0 60).ex flR none LD (frD A V d i) (SD O L X)
noncomputable def vcL1_s0 (O : AO) : ASt := mkSt [(0, O)] 1
theorem vcL1 (q : CallT) (A : AV) (O : AO) (n : Nat) (Q : Exit × Option AV → Prop) :
  (aBuiltinM EG .len [62] [A] (vcL1_s0 O) = some (.int .i64 (.ofNat n), vcL1_s0 O) ∧ still (vcL1_s0 O) (aBin EG .gtr 3 (.tmp 18) (.const (.int .i64 60)) (.int .i64 (.ofNat n)) (.int .i64 (.ofNat 60))) = some (.bool true, vcL1_s0 O) ∧ (M EG (drawA EG) (onlyC [21] q) 55).call 21 [] (vcL1_s0 O) = some (.bool true, vcL1_s0 O) ∧ Q (.ret, some (.bool true))) =
  (tL1 q A O n).allY (fun r => Q (r.1, ans (leaveA EG Try.f7 r.2.1 r.2.2))) (.v (.int .i64 (.ofNat n), vcL1_s0 O) (.v (.bool true, vcL1_s0 O) (.v (.bool true, vcL1_s0 O) .nil))) := by kernel_rfl
noncomputable def vcL2_s0 (O : AO) : ASt := mkSt [(0, O)] 1
noncomputable def vcL2_s1 (O : AO) : ASt := mkSt [(0, O), (1, .cells [.int .u64 (.ofNat 1), .int .u64 (.ofNat 0), .int .u64 (.ofNat 0), .int .u64 (.ofNat 0), .int .u64 (.ofNat 1), .int .u64 (.ofNat 0), .int .u64 (.ofNat 0), .int .u64 (.ofNat 0), .int .u64 (.ofNat 1), .int .u64 (.ofNat 0), .int .u64 (.ofNat 0), .int .u64 (.ofNat 0), .int .u64 (.ofNat 1), .int .u64 (.ofNat 0), .int .u64 (.ofNat 0), .int .u64 (.ofNat 0)] true)] 2
theorem vcL2 (q : CallT) (A : AV) (O : AO) (n : Nat) (Q : Exit × AFr × ASt → Prop) :
  (aBuiltinM EG .len [62] [A] (vcL2_s0 O) = some (.int .i64 (.ofNat n), vcL2_s0 O) ∧ still (vcL2_s0 O) (aBin EG .gtr 3 (.tmp 18) (.const (.int .i64 60)) (.int .i64 (.ofNat n)) (.int .i64 (.ofNat 60))) = some (.bool false, vcL2_s0 O) ∧ Q (.normal, xFr [(0, A), (2, .bool false), (3, .ptr (some (1, 0))), (5, .int .u64 (.ofNat 1)), (6, .slice none 0 (.known 0))] 146, vcL2_s1 O)) =
  (tL2 q A O n).allY (fun r => Q (canR [0, 2, 3, 5, 6] KO130 r)) (.v (.int .i64 (.ofNat n), vcL2_s0 O) (.v (.bool false, vcL2_s0 O) .nil)) := by kernel_rfl
noncomputable def vcOf_s0 (O : AO) (L : AO) (X : AO) : ASt := mkSt [(0, O), (1, L), (2, X)] 3
noncomputable def vcOf_s1 (V : AV) (O : AO) (L : AO) (X : AO) (M : AO) (R : AO) : ASt := mkSt [(0, O), (1, L), (2, X), (4, .cells [.map (some 5), V] true), (5, M), (6, R)] 103
theorem vcOf (q : CallT) (A : AV) (V0 : AV) (V : AV) (d : Nat) (i : Nat) (O : AO) (L : AO) (X : AO) (M : AO) (R : AO) (Q : Exit × AFr × ASt → Prop) :
  ((Ax.M EG (drawA EG) (onlyC [22] q) 58).call 22 [.int .u64 (.ofNat 1), V0] (vcOf_s0 O L X) = some (.tuple [.ptr (some (4, 0)), .int .i64 (.ofNat 0)], vcOf_s1 V O L X M R) ∧ Q (.normal, xFr [(2, .bool false), (3, .ptr (some (1, 0))), (13, .ptr (some (4, 0)))] 146, vcOf_s1 V O L X M R)) =
  (tOf q A V0 V d i O L X M R).allY (fun r => Q (canR [2, 3, 13] KO130 r)) (.v (.tuple [.ptr (some (4, 0)), .int .i64 (.ofNat 0)], vcOf_s1 V O L X M R) .nil) := by kernel_rfl
noncomputable def vcO1_s0 (O : AO) (V : AO) (M : AO) (R : AO) (L : AO) : ASt := mkSt [(0, O), (1, V), (2, M), (3, R), (4, L)] 5
theorem vcO1 (i : Nat) (O : AO) (V : AO) (M : AO) (R : AO) (L : AO) (Q : Exit × AFr × ASt → Prop) :
  (ifB (ltF (.ofNat i) (.ofNat 4)) (Q (.normal, xFr [(2, .bool false), (3, .ptr (some (4, 0))), (13, .ptr (some (1, 0))), (15, .int .i64 (.ofNat i))] 146, vcO1_s0 O V M R L)) (Q (.exit 5, xFr [(2, .bool false), (3, .ptr (some (4, 0))), (13, .ptr (some (1, 0))), (15, .int .i64 (.ofNat i))] 146, vcO1_s0 O V M R L))) =
  (tO1 i O V M R L).allY (fun r => Q (canR [2, 3, 13, 15] KO130 r)) (.b .nil .nil) := by kernel_rfl
noncomputable def vcO2_s0 (O : AO) (V : AO) (M : AO) (R : AO) (L : AO) : ASt := mkSt [(0, O), (1, V), (2, M), (3, R), (4, L)] 5
theorem vcO2 (i : Nat) (k : Nat) (O : AO) (V : AO) (M : AO) (R : AO) (L : AO) (Q : Exit × AFr × ASt → Prop) :
  (Q (.normal, xFr [(2, .bool false), (3, .ptr (some (4, 0))), (13, .ptr (some (1, 0))), (15, .int .i64 (wrapF .i64 (.ofNat i + .ofNat 1)))] 146, vcO2_s0 O V M R L)) =
  (tO2 i k O V M R L).allY (fun r => Q (canR [2, 3, 13, 15] KO130 r)) (.nil) := by kernel_rfl
noncomputable def vcI_s0 (O : AO) (V : AO) (M : AO) (R : AO) (L : AO) : ASt := mkSt [(0, O), (1, V), (2, M), (3, R), (4, L)] 29
noncomputable def vcI_s1 (O : AO) (V : AO) (M : AO) (R : AO) (L : AO) : ASt := mkSt [(0, O), (1, V), (2, M), (3, R), (4, L)] 429
noncomputable def vcI_s2 (O : AO) (V : AO) (M : AO) (R : AO) (L : AO) : ASt := mkSt [(0, O), (1, V), (2, M), (3, R), (4, L)] 939
noncomputable def vcI_s3 (O : AO) (V : AO) (M : AO) (R : AO) (L : AO) : ASt := mkSt [(0, O), (1, V), (2, M), (3, R), (4, L)] 5
theorem vcI (q : CallT) (i : Nat) (k : Nat) (v : Nat) (x : Ln) (y : Ln) (O : AO) (V : AO) (M : AO) (R : AO) (L : AO) (Q : Exit × AFr × ASt → Prop) :
  (ifB (ltF (.ofNat k) (.ofNat 4)) (still (vcI_s0 O V M R L) (aIndexAddr EG 66 (.ptr (some (4, 0))) (.int .i64 (.ofNat i))) = some (.ptr (some (4, i * 4)), vcI_s0 O V M R L) ∧ aLoad EG 65 (.ptr (some (4, i * 4))) (vcI_s0 O V M R L) = some (.agg [.int .u64 x.now, .int .u64 x.bef, .int .u64 x.o0, .int .u64 x.o1], vcI_s0 O V M R L) ∧ (Ax.M EG (drawA EG) (onlyC [32, 33, 34] q) 55).call 32 [.ptr (some (1, 0)), .agg [.int .u64 x.now, .int .u64 x.bef, .int .u64 x.o0, .int .u64 x.o1]] (vcI_s0 O V M R L) = some (.bool true, vcI_s1 O V M R L) ∧ still (vcI_s1 O V M R L) (aIndexAddr EG 66 (.ptr (some (4, 0))) (.int .i64 (.ofNat i))) = some (.ptr (some (4, i * 4)), vcI_s1 O V M R L) ∧ aLoad EG 65 (.ptr (some (4, i * 4))) (vcI_s1 O V M R L) = some (.agg [.int .u64 x.now, .int .u64 x.bef, .int .u64 x.o0, .int .u64 x.o1], vcI_s1 O V M R L) ∧ still (vcI_s1 O V M R L) (aIndexAddr EG 66 (.ptr (some (4, 0))) (.int .i64 (.ofNat k))) = some (.ptr (some (4, k * 4)), vcI_s1 O V M R L) ∧ aLoad EG 65 (.ptr (some (4, k * 4))) (vcI_s1 O V M R L) = some (.agg [.int .u64 y.now, .int .u64 y.bef, .int .u64 y.o0, .int .u64 y.o1], vcI_s1 O V M R L) ∧ (Ax.M EG (drawA EG) (onlyC [32, 33, 34] q) 55).call 33 [.ptr (some (1, 0)), .agg [.int .u64 x.now, .int .u64 x.bef, .int .u64 x.o0, .int .u64 x.o1], .agg [.int .u64 y.now, .int .u64 y.bef, .int .u64 y.o0, .int .u64 y.o1]] (vcI_s1 O V M R L) = some (.int .i64 (.ofNat v), vcI_s2 O V M R L) ∧ still (vcI_s2 O V M R L) (aIndexAddr EG 66 (.ptr (some (4, 0))) (.int .i64 (.ofNat i))) = some (.ptr (some (4, i * 4)), vcI_s2 O V M R L) ∧ aLoad EG 65 (.ptr (some (4, i * 4))) (vcI_s2 O V M R L) = some (.agg [.int .u64 x.now, .int .u64 x.bef, .int .u64 x.o0, .int .u64 x.o1], vcI_s2 O V M R L) ∧ still (vcI_s2 O V M R L) (aIndexAddr EG 66 (.ptr (some (4, 0))) (.int .i64 (.ofNat k))) = some (.ptr (some (4, k * 4)), vcI_s2 O V M R L) ∧ aLoad EG 65 (.ptr (some (4, k * 4))) (vcI_s2 O V M R L) = some (.agg [.int .u64 y.now, .int .u64 y.bef, .int .u64 y.o0, .int .u64 y.o1], vcI_s2 O V M R L) ∧ (Ax.M EG (drawA EG) (onlyC [32, 33, 34] q) 55).call 34 [.agg [.int .u64 x.now, .int .u64 x.bef, .int .u64 x.o0, .int .u64 x.o1], .agg [.int .u64 y.now, .int .u64 y.bef, .int .u64 y.o0, .int .u64 y.o1]] (vcI_s2 O V M R L) = some (.int .i64 (.ofNat v), vcI_s2 O V M R L) ∧ still (vcI_s2 O V M R L) (aBin EG .neq 75 (.tmp 135) (.tmp 142) (.int .i64 (.ofNat v)) (.int .i64 (.ofNat v))) = some (.bool false, vcI_s2 O V M R L) ∧ holdsO [(fstO (aLoad EG 65 (.ptr (some (4, i * 4))) (vcI_s1 O V M R L)), .agg [.int .u64 x.now, .int .u64 x.bef, .int .u64 x.o0, .int .u64 x.o1]), (fstO (aLoad EG 65 (.ptr (some (4, k * 4))) (vcI_s1 O V M R L)), .agg [.int .u64 y.now, .int .u64 y.bef, .int .u64 y.o0, .int .u64 y.o1])] ∧ Q (.normal, xFr [(2, .bool false), (3, .ptr (some (4, 0))), (13, .ptr (some (1, 0))), (15, .int .i64 (.ofNat i)), (16, .int .i64 (wrapF .i64 (.ofNat k + .ofNat 1)))] 146, vcI_s2 O V M R L)) (Q (.exit 7, xFr [(2, .bool false), (3, .ptr (some (4, 0))), (13, .ptr (some (1, 0))), (15, .int .i64 (.ofNat i)), (16, .int .i64 (.ofNat k))] 146, vcI_s3 O V M R L))) =
  (tI q i k v x y O V M R L).allY (fun r => Q (canR [2, 3, 13, 15, 16] KO130 r)) (.b (.v (.ptr (some (4, i * 4)), vcI_s0 O V M R L) (.v (.agg [.int .u64 x.now, .int .u64 x.bef, .int .u64 x.o0, .int .u64 x.o1], vcI_s0 O V M R L) (.v (.bool true, vcI_s1 O V M R L) (.v (.ptr (some (4, i * 4)), vcI_s1 O V M R L) (.v (.agg [.int .u64 x.now, .int .u64 x.bef, .int .u64 x.o0, .int .u64 x.o1], vcI_s1 O V M R L) (.v (.ptr (some (4, k * 4)), vcI_s1 O V M R L) (.v (.agg [.int .u64 y.now, .int .u64 y.bef, .int .u64 y.o0, .int .u64 y.o1], vcI_s1 O V M R L) (.v (.int .i64 (.ofNat v), vcI_s2 O V M R L) (.v (.ptr (some (4, i * 4)), vcI_s2 O V M R L) (.v (.agg [.int .u64 x.now, .int .u64 x.bef, .int .u64 x.o0, .int .u64 x.o1], vcI_s2 O V M R L) (.v (.ptr (some (4, k * 4)), vcI_s2 O V M R L) (.v (.agg [.int .u64 y.now, .int .u64 y.bef, .int .u64 y.o0, .int .u64 y.o1], vcI_s2 O V M R L) (.v (.int .i64 (.ofNat v), vcI_s2 O V M R L) (.v (.bool false, vcI_s2 O V M R L) .nil)))))))))))))) .nil) := by kernel_rfl
noncomputable def vcZ_s0 (O : AO) (V : AO) (M : AO) (R : AO) (L : AO) : ASt := mkSt [(0, O), (1, V), (2, M), (3, R), (4, L)] 5
theorem vcZ (q : CallT) (i : Nat) (k : Nat) (O : AO) (V : AO) (M : AO) (R : AO) (L : AO) (Q : Exit × Option AV → Prop) :
  ((Ax.M EG (drawA EG) (onlyC [21] q) 58).call 21 [] (vcZ_s0 O V M R L) = some (.bool true, vcZ_s0 O V M R L) ∧ Q (.ret, some (.bool true))) =
  (tZ q i k O V M R L).allY (fun r => Q (r.1, ans (leaveA EG Try.f7 r.2.1 r.2.2))) (.v (.bool true, vcZ_s0 O V M R L) .nil) := by kernel_rfl
noncomputable def vcRb_s0 (O : AO) (L : AO) (X : AO) : ASt := mkSt [(0, O), (1, L), (2, X)] 3
noncomputable def vcRb_s1 (O : AO) (L : AO) (X : AO) : ASt := mkSt [(0, O), (1, L), (2, X)] 17
noncomputable def vcRb_s2 (O : AO) (L : AO) (X : AO) (x : Ln) : ASt := mkSt [(0, O), (1, L), (2, X), (17, .cells [.int .u64 x.now, .int .u64 x.bef, .int .u64 x.o0, .int .u64 x.o1] true)] 18
theorem vcRb (q : CallT) (A : AV) (V : AV) (O : AO) (L : AO) (X : AO) (W : AO) (L2 : AO) (n : Nat) (i : Nat) (d : Nat) (w : Nat) (v : Nat) (e : Nat) (m : Nat) (z1 : Int) (z2 : Int) (kd : Int) (x : Ln) (y : Ln) (Q : Exit × AFr × ASt → Prop) :
  (aBuiltinM EG .len [62] [A] (vcRb_s0 O L X) = some (.int .i64 (.ofNat n), vcRb_s0 O L X) ∧ ifB (ltF (.ofNat i) (.ofNat n)) (still (vcRb_s1 O L X) (aIndexAddr EG 62 A (.int .i64 (.ofNat i))) = some (.ptr (some (0, i * 3)), vcRb_s1 O L X) ∧ aLoad EG 3 (.ptr (some (0, i * 3 + 1))) (vcRb_s1 O L X) = some (.int .i64 z1, vcRb_s1 O L X) ∧ still (vcRb_s1 O L X) (aBin EG .and 3 (.tmp 38) (.const (.int .i64 3)) (.int .i64 z1) (.int .i64 (.ofNat 3))) = some (.int .i64 (.ofNat w), vcRb_s1 O L X) ∧ still (vcRb_s1 O L X) (aIndexAddr EG 62 A (.int .i64 (.ofNat i))) = some (.ptr (some (0, i * 3)), vcRb_s1 O L X) ∧ aLoad EG 3 (.ptr (some (0, i * 3 + 2))) (vcRb_s1 O L X) = some (.int .i64 z2, vcRb_s1 O L X) ∧ still (vcRb_s1 O L X) (aBin EG .and 3 (.tmp 44) (.const (.int .i64 3)) (.int .i64 z2) (.int .i64 (.ofNat 3))) = some (.int .i64 (.ofNat v), vcRb_s1 O L X) ∧ still (vcRb_s1 O L X) (aIndexAddr EG 62 A (.int .i64 (.ofNat i))) = some (.ptr (some (0, i * 3)), vcRb_s1 O L X) ∧ aLoad EG 3 (.ptr (some (0, i * 3 + 0))) (vcRb_s1 O L X) = some (.int .i64 kd, vcRb_s1 O L X) ∧ still (vcRb_s1 O L X) (aBin EG .eql 3 (.tmp 50) (.const (.int .i64 1)) (.int .i64 kd) (.int .i64 (.ofNat 1))) = some (.bool true, vcRb_s1 O L X) ∧ still (vcRb_s1 O L X) (aIndexAddr EG 66 (.ptr (some (1, 0))) (.int .i64 (.ofNat w))) = some (.ptr (some (1, w * 4)), vcRb_s1 O L X) ∧ aLoad EG 65 (.ptr (some (1, w * 4))) (vcRb_s1 O L X) = some (.agg [.int .u64 x.now, .int .u64 x.bef, .int .u64 x.o0, .int .u64 x.o1], vcRb_s1 O L X) ∧ still (vcRb_s2 O L X x) (aBin EG .eql 48 (.tmp 4) (.const (.int .u64 0)) (.int .u64 x.now) (.int .u64 (.ofNat 0))) = some (.bool true, vcRb_s2 O L X x) ∧ Q (.normal, xFr [(0, A), (2, .bool false), (3, .ptr (some (1, 0))), (5, .int .u64 (.ofNat d)), (6, V), (7, .int .i64 (wrapF .i64 (.ofNat i + .ofNat 1)))] 146, vcRb_s2 O L X x)) (Q (.exit 2, xFr [(0, A), (2, .bool false), (3, .ptr (some (1, 0))), (5, .int .u64 (.ofNat d)), (6, V), (7, .int .i64 (.ofNat i))] 146, vcRb_s0 O L X))) =
  (tRb q A V O L X W L2 n i d w v e m z1 z2 kd x y).allY (fun r => Q (canR [0, 2, 3, 5, 6, 7] KO130 r)) (.v (.int .i64 (.ofNat n), vcRb_s0 O L X) (.b (.v (.ptr (some (0, i * 3)), vcRb_s1 O L X) (.v (.int .i64 z1, vcRb_s1 O L X) (.v (.int .i64 (.ofNat w), vcRb_s1 O L X) (.v (.ptr (some (0, i * 3)), vcRb_s1 O L X) (.v (.int .i64 z2, vcRb_s1 O L X) (.v (.int .i64 (.ofNat v), vcRb_s1 O L X) (.v (.ptr (some (0, i * 3)), vcRb_s1 O L X) (.v (.int .i64 kd, vcRb_s1 O L X) (.v (.bool true, vcRb_s1 O L X) (.v (.ptr (some (1, w * 4)), vcRb_s1 O L X) (.v (.agg [.int .u64 x.now, .int .u64 x.bef, .int .u64 x.o0, .int .u64 x.o1], vcRb_s1 O L X) (.v (.bool true, vcRb_s2 O L X x) .nil)))))))))))) .nil)) := by kernel_rfl
noncomputable def vcRn_s0 (O : AO) (L : AO) (X : AO) : ASt := mkSt [(0, O), (1, L), (2, X)] 3
noncomputable def vcRn_s1 (O : AO) (L : AO) (X : AO) : ASt := mkSt [(0, O), (1, L), (2, X)] 17
noncomputable def vcRn_s2 (O : AO) (L : AO) (X : AO) (x : Ln) : ASt := mkSt [(0, O), (1, L), (2, X), (17, .cells [.int .u64 x.now, .int .u64 x.bef, .int .u64 x.o0, .int .u64 x.o1] true)] 18
noncomputable def vcRn_s3 (O : AO) (L : AO) (X : AO) (x : Ln) : ASt := mkSt [(0, O), (1, L), (2, X), (17, .cells [.int .u64 x.now, .int .u64 x.bef, .int .u64 x.o0, .int .u64 x.o1] true), (18, .cells [.int .u64 x.now, .int .u64 x.bef, .int .u64 x.o0, .int .u64 x.o1] true), (19, .cells [.int .u64 (.ofNat 0), .int .u64 (.ofNat 0), .int .u64 (.ofNat 0), .int .u64 (.ofNat 0)] true)] 20
noncomputable def vcRn_s4 (O : AO) (L : AO) (X : AO) (x : Ln) : ASt := mkSt [(0, O), (1, L), (2, X), (17, .cells [.int .u64 x.now, .int .u64 x.bef, .int .u64 x.o0, .int .u64 x.o1] true), (18, .cells [.int .u64 x.now, .int .u64 x.bef, .int .u64 x.o0, .int .u64 x.o1] true), (19, .cells [.int .u64 x.now, .int .u64 x.bef, .int .u64 x.o0, .int .u64 x.o1] true), (20, .cells [.int .u64 (.ofNat 0), .int .u64 (.ofNat 0), .int .u64 (.ofNat 0), .int .u64 (.ofNat 0)] true)] 21
noncomputable def vcRn_s5 (O : AO) (L : AO) (X : AO) (x : Ln) : ASt := mkSt [(0, O), (1, L), (2, X), (17, .cells [.int .u64 x.now, .int .u64 x.bef, .int .u64 x.o0, .int .u64 x.o1] true), (18, .cells [.int .u64 x.now, .int .u64 x.bef, .int .u64 x.o0, .int .u64 x.o1] true), (19, .cells [.int .u64 x.now, .int .u64 x.bef, .int .u64 x.o0, .int .u64 x.o1] true), (20, .cells [.int .u64 x.now, .int .u64 x.bef, .int .u64 x.o0, .int .u64 x.o1] true)] 21
noncomputable def vcRn_s6 (O : AO) (X : AO) (L2 : AO) (x : Ln) : ASt := mkSt [(0, O), (1, L2), (2, X), (17, .cells [.int .u64 x.now, .int .u64 x.bef, .int .u64 x.o0, .int .u64 x.o1] true), (18, .cells [.int .u64 x.now, .int .u64 x.bef, .int .u64 x.o0, .int .u64 x.o1] true), (19, .cells [.int .u64 x.now, .int .u64 x.bef, .int .u64 x.o0, .int .u64 x.o1] true), (20, .cells [.int .u64 x.now, .int .u64 x.bef, .int .u64 x.o0, .int .u64 x.o1] true)] 21
theorem vcRn (q : CallT) (A : AV) (V : AV) (O : AO) (L : AO) (X : AO) (W : AO) (L2 : AO) (n : Nat) (i : Nat) (d : Nat) (w : Nat) (v : Nat) (e : Nat) (m : Nat) (z1 : Int) (z2 : Int) (kd : Int) (x : Ln) (y : Ln) (Q : Exit × AFr × ASt → Prop) :
  (aBuiltinM EG .len [62] [A] (vcRn_s0 O L X) = some (.int .i64 (.ofNat n), vcRn_s0 O L X) ∧ ifB (ltF (.ofNat i) (.ofNat n)) (still (vcRn_s1 O L X) (aIndexAddr EG 62 A (.int .i64 (.ofNat i))) = some (.ptr (some (0, i * 3)), vcRn_s1 O L X) ∧ aLoad EG 3 (.ptr (some (0, i * 3 + 1))) (vcRn_s1 O L X) = some (.int .i64 z1, vcRn_s1 O L X) ∧ still (vcRn_s1 O L X) (aBin EG .and 3 (.tmp 38) (.const (.int .i64 3)) (.int .i64 z1) (.int .i64 (.ofNat 3))) = some (.int .i64 (.ofNat w), vcRn_s1 O L X) ∧ still (vcRn_s1 O L X) (aIndexAddr EG 62 A (.int .i64 (.ofNat i))) = some (.ptr (some (0, i * 3)), vcRn_s1 O L X) ∧ aLoad EG 3 (.ptr (some (0, i * 3 + 2))) (vcRn_s1 O L X) = some (.int .i64 z2, vcRn_s1 O L X) ∧ still (vcRn_s1 O L X) (aBin EG .and 3 (.tmp 44) (.const (.int .i64 3)) (.int .i64 z2) (.int .i64 (.ofNat 3))) = some (.int .i64 (.ofNat v), vcRn_s1 O L X) ∧ still (vcRn_s1 O L X) (aIndexAddr EG 62 A (.int .i64 (.ofNat i))) = some (.ptr (some (0, i * 3)), vcRn_s1 O L X) ∧ aLoad EG 3 (.ptr (some (0, i * 3 + 0))) (vcRn_s1 O L X) = some (.int .i64 kd, vcRn_s1 O L X) ∧ still (vcRn_s1 O L X) (aBin EG .eql 3 (.tmp 50) (.const (.int .i64 1)) (.int .i64 kd) (.int .i64 (.ofNat 1))) = some (.bool true, vcRn_s1 O L X) ∧ still (vcRn_s1 O L X) (aIndexAddr EG 66 (.ptr (some (1, 0))) (.int .i64 (.ofNat w))) = some (.ptr (some (1, w * 4)), vcRn_s1 O L X) ∧ aLoad EG 65 (.ptr (some (1, w * 4))) (vcRn_s1 O L X) = some (.agg [.int .u64 x.now, .int .u64 x.bef, .int .u64 x.o0, .int .u64 x.o1], vcRn_s1 O L X) ∧ still (vcRn_s2 O L X x) (aBin EG .eql 48 (.tmp 4) (.const (.int .u64 0)) (.int .u64 x.now) (.int .u64 (.ofNat 0))) = some (.bool false, vcRn_s2 O L X x) ∧ still (vcRn_s2 O L X x) (aBin EG .add 48 (.tmp 57) (.const (.int .u64 1)) (.int .u64 (.ofNat d)) (.int .u64 (.ofNat 1))) = some (.int .u64 (.ofNat e), vcRn_s2 O L X x) ∧ still (vcRn_s2 O L X x) (aIndexAddr EG 66 (.ptr (some (1, 0))) (.int .i64 (.ofNat w))) = some (.ptr (some (1, w * 4)), vcRn_s2 O L X x) ∧ aLoad EG 48 (.ptr (some (1, w * 4 + 0))) (vcRn_s2 O L X x) = some (.int .u64 x.now, vcRn_s2 O L X x) ∧ still (vcRn_s2 O L X x) (aIndexAddr EG 66 (.ptr (some (1, 0))) (.int .i64 (.ofNat w))) = some (.ptr (some (1, w * 4)), vcRn_s2 O L X x) ∧ aLoad EG 65 (.ptr (some (1, w * 4))) (vcRn_s2 O L X x) = some (.agg [.int .u64 x.now, .int .u64 x.bef, .int .u64 x.o0, .int .u64 x.o1], vcRn_s2 O L X x) ∧ still (vcRn_s3 O L X x) (aBin EG .neq 48 (.tmp 7) (.const (.int .u64 0)) (.int .u64 x.bef) (.int .u64 (.ofNat 0))) = some (.bool true, vcRn_s3 O L X x) ∧ Option.map (fun s => (undefA, s)) (aStore EG 65 (.ptr (some (20, 0))) (.agg [.int .u64 x.now, .int .u64 x.bef, .int .u64 x.o0, .int .u64 x.o1]) (vcRn_s4 O L X x)) = some (.tuple [], vcRn_s5 O L X x) ∧ still (vcRn_s5 O L X x) (aIndexAddr EG 66 (.ptr (some (1, 0))) (.int .i64 (.ofNat w))) = some (.ptr (some (1, w * 4)), vcRn_s5 O L X x) ∧ Option.map (fun s => (undefA, s)) (aStore EG 65 (.ptr (some (1, w * 4))) (.agg [.int .u64 x.now, .int .u64 x.bef, .int .u64 x.o0, .int .u64 x.o1]) (vcRn_s5 O L X x)) = some (.tuple [], vcRn_s6 O X L2 x) ∧ Q (.normal, xFr [(0, A), (2, .bool false), (3, .ptr (some (1, 0))), (5, .int .u64 (.ofNat e)), (6, V), (7, .int .i64 (wrapF .i64 (.ofNat i + .ofNat 1)))] 146, vcRn_s6 O X L2 x)) (Q (.exit 2, xFr [(0, A), (2, .bool false), (3, .ptr (some (1, 0))), (5, .int .u64 (.ofNat d)), (6, V), (7, .int .i64 (.ofNat i))] 146, vcRn_s0 O L X))) =
  (tRn q A V O L X W L2 n i d w v e m z1 z2 kd x y).allY (fun r => Q (canR [0, 2, 3, 5, 6, 7] KO130 r)) (.v (.int .i64 (.ofNat n), vcRn_s0 O L X) (.b (.v (.ptr (some (0, i * 3)), vcRn_s1 O L X) (.v (.int .i64 z1, vcRn_s1 O L X) (.v (.int .i64 (.ofNat w), vcRn_s1 O L X) (.v (.ptr (some (0, i * 3)), vcRn_s1 O L X) (.v (.int .i64 z2, vcRn_s1 O L X) (.v (.int .i64 (.ofNat v), vcRn_s1 O L X) (.v (.ptr (some (0, i * 3)), vcRn_s1 O L X) (.v (.int .i64 kd, vcRn_s1 O L X) (.v (.bool true, vcRn_s1 O L X) (.v (.ptr (some (1, w * 4)), vcRn_s1 O L X) (.v (.agg [.int .u64 x.now, .int .u64 x.bef, .int .u64 x.o0, .int .u64 x.o1], vcRn_s1 O L X) (.v (.bool false, vcRn_s2 O L X x) (.v (.int .u64 (.ofNat e), vcRn_s2 O L X x) (.v (.ptr (some (1, w * 4)), vcRn_s2 O L X x) (.v (.int .u64 x.now, vcRn_s2 O L X x) (.v (.ptr (some (1, w * 4)), vcRn_s2 O L X x) (.v (.agg [.int .u64 x.now, .int .u64 x.bef, .int .u64 x.o0, .int .u64 x.o1], vcRn_s2 O L X x) (.v (.bool true, vcRn_s3 O L X x) (.v (.tuple [], vcRn_s5 O L X x) (.v (.ptr (some (1, w * 4)), vcRn_s5 O L X x) (.v (.tuple [], vcRn_s6 O X L2 x) .nil))))))))))))))))))))) .nil)) := by kernel_rfl
noncomputable def vcRu_s0 (O : AO) (L : AO) (X : AO) : ASt := mkSt [(0, O), (1, L), (2, X)] 3
noncomputable def vcRu_s1 (O : AO) (L : AO) (X : AO) : ASt := mkSt [(0, O), (1, L), (2, X)] 17
noncomputable def vcRu_s2 (O : AO) (L : AO) (X : AO) (x : Ln) : ASt := mkSt [(0, O), (1, L), (2, X), (17, .cells [.int .u64 x.now, .int .u64 x.bef, .int .u64 x.o0, .int .u64 x.o1] true)] 18
noncomputable def vcRu_s3 (O : AO) (L : AO) (X : AO) (x : Ln) : ASt := mkSt [(0, O), (1, L), (2, X), (17, .cells [.int .u64 x.now, .int .u64 x.bef, .int .u64 x.o0, .int .u64 x.o1] true), (18, .cells [.int .u64 x.now, .int .u64 x.bef, .int .u64 x.o0, .int .u64 x.o1] true), (19, .cells [.int .u64 (.ofNat 0), .int .u64 (.ofNat 0), .int .u64 (.ofNat 0), .int .u64 (.ofNat 0)] true)] 20
noncomputable def vcRu_s4 (O : AO) (L : AO) (X : AO) (e : Nat) (x : Ln) : ASt := mkSt [(0, O), (1, L), (2, X), (17, .cells [.int .u64 x.now, .int .u64 x.bef, .int .u64 x.o0, .int .u64 x.o1] true), (18, .cells [.int .u64 (.ofNat e), .int .u64 x.now, .int .u64 x.o0, .int .u64 x.o1] true), (19, .cells [.int .u64 (.ofNat e), .int .u64 x.now, .int .u64 x.o0, .int .u64 x.o1] true), (20, .cells [.int .u64 (.ofNat 0), .int .u64 (.ofNat 0), .int .u64 (.ofNat 0), .int .u64 (.ofNat 0)] true)] 21
noncomputable def vcRu_s5 (O : AO) (L : AO) (X : AO) (e : Nat) (x : Ln) : ASt := mkSt [(0, O), (1, L), (2, X), (17, .cells [.int .u64 x.now, .int .u64 x.bef, .int .u64 x.o0, .int .u64 x.o1] true), (18, .cells [.int .u64 (.ofNat e), .int .u64 x.now, .int .u64 x.o0, .int .u64 x.o1] true), (19, .cells [.int .u64 (.ofNat e), .int .u64 x.now, .int .u64 x.o0, .int .u64 x.o1] true), (20, .cells [.int .u64 (.ofNat e), .int .u64 x.now, .int .u64 x.o0, .int .u64 x.o1] true)] 21
noncomputable def vcRu_s6 (O : AO) (X : AO) (L2 : AO) (e : Nat) (x : Ln) : ASt := mkSt [(0, O), (1, L2), (2, X), (17, .cells [.int .u64 x.now, .int .u64 x.bef, .int .u64 x.o0, .int .u64 x.o1] true), (18, .cells [.int .u64 (.ofNat e), .int .u64 x.now, .int .u64 x.o0, .int .u64 x.o1] true), (19, .cells [.int .u64 (.ofNat e), .int .u64 x.now, .int .u64 x.o0, .int .u64 x.o1] true), (20, .cells [.int .u64 (.ofNat e), .int .u64 x.now, .int .u64 x.o0, .int .u64 x.o1] true)] 21
noncomputable def vcRu_s7 (O : AO) (X : AO) (L2 : AO) (e : Nat) (x : Ln) : ASt := mkSt [(0, O), (1, L2), (2, X), (17, .cells [.int .u64 x.now, .int .u64 x.bef, .int .u64 x.o0, .int .u64 x.o1] true), (18, .cells [.int .u64 (.ofNat e), .int .u64 x.now, .int .u64 x.o0, .int .u64 x.o1] true), (19, .cells [.int .u64 (.ofNat e), .int .u64 x.now, .int .u64 x.o0, .int .u64 x.o1] true), (20, .cells [.int .u64 (.ofNat e), .int .u64 x.now, .int .u64 x.o0, .int .u64 x.o1] true), (21, .cells [.int .u64 x.now, .int .u64 (.ofNat e)] true)] 22
noncomputable def vcRu_s8 (O : AO) (W : AO) (L2 : AO) (e : Nat) (x : Ln) : ASt := mkSt [(0, O), (1, L2), (2, .dead), (17, .cells [.int .u64 x.now, .int .u64 x.bef, .int .u64 x.o0, .int .u64 x.o1] true), (18, .cells [.int .u64 (.ofNat e), .int .u64 x.now, .int .u64 x.o0, .int .u64 x.o1] true), (19, .cells [.int .u64 (.ofNat e), .int .u64 x.now, .int .u64 x.o0, .int .u64 x.o1] true), (20, .cells [.int .u64 (.ofNat e), .int .u64 x.now, .int .u64 x.o0, .int .u64 x.o1] true), (21, .cells [.int .u64 x.now, .int .u64 (.ofNat e)] true), (22, W)] 23
theorem vcRu (q : CallT) (A : AV) (V : AV) (O : AO) (L : AO) (X : AO) (W : AO) (L2 : AO) (n : Nat) (i : Nat) (d : Nat) (w : Nat) (v : Nat) (e : Nat) (m : Nat) (z1 : Int) (z2 : Int) (kd : Int) (x : Ln) (y : Ln) (Q : Exit × AFr × ASt → Prop) :
  (aBuiltinM EG .len [62] [A] (vcRu_s0 O L X) = some (.int .i64 (.ofNat n), vcRu_s0 O L X) ∧ ifB (ltF (.ofNat i) (.ofNat n)) (still (vcRu_s1 O L X) (aIndexAddr EG 62 A (.int .i64 (.ofNat i))) = some (.ptr (some (0, i * 3)), vcRu_s1 O L X) ∧ aLoad EG 3 (.ptr (some (0, i * 3 + 1))) (vcRu_s1 O L X) = some (.int .i64 z1, vcRu_s1 O L X) ∧ still (vcRu_s1 O L X) (aBin EG .and 3 (.tmp 38) (.const (.int .i64 3)) (.int .i64 z1) (.int .i64 (.ofNat 3))) = some (.int .i64 (.ofNat w), vcRu_s1 O L X) ∧ still (vcRu_s1 O L X) (aIndexAddr EG 62 A (.int .i64 (.ofNat i))) = some (.ptr (some (0, i * 3)), vcRu_s1 O L X) ∧ aLoad EG 3 (.ptr (some (0, i * 3 + 2))) (vcRu_s1 O L X) = some (.int .i64 z2, vcRu_s1 O L X) ∧ still (vcRu_s1 O L X) (aBin EG .and 3 (.tmp 44) (.const (.int .i64 3)) (.int .i64 z2) (.int .i64 (.ofNat 3))) = some (.int .i64 (.ofNat v), vcRu_s1 O L X) ∧ still (vcRu_s1 O L X) (aIndexAddr EG 62 A (.int .i64 (.ofNat i))) = some (.ptr (some (0, i * 3)), vcRu_s1 O L X) ∧ aLoad EG 3 (.ptr (some (0, i * 3 + 0))) (vcRu_s1 O L X) = some (.int .i64 kd, vcRu_s1 O L X) ∧ still (vcRu_s1 O L X) (aBin EG .eql 3 (.tmp 50) (.const (.int .i64 1)) (.int .i64 kd) (.int .i64 (.ofNat 1))) = some (.bool true, vcRu_s1 O L X) ∧ still (vcRu_s1 O L X) (aIndexAddr EG 66 (.ptr (some (1, 0))) (.int .i64 (.ofNat w))) = some (.ptr (some (1, w * 4)), vcRu_s1 O L X) ∧ aLoad EG 65 (.ptr (some (1, w * 4))) (vcRu_s1 O L X) = some (.agg [.int .u64 x.now, .int .u64 x.bef, .int .u64 x.o0, .int .u64 x.o1], vcRu_s1 O L X) ∧ still (vcRu_s2 O L X x) (aBin EG .eql 48 (.tmp 4) (.const (.int .u64 0)) (.int .u64 x.now) (.int .u64 (.ofNat 0))) = some (.bool false, vcRu_s2 O L X x) ∧ still (vcRu_s2 O L X x) (aBin EG .add 48 (.tmp 57) (.const (.int .u64 1)) (.int .u64 (.ofNat d)) (.int .u64 (.ofNat 1))) = some (.int .u64 (.ofNat e), vcRu_s2 O L X x) ∧ still (vcRu_s2 O L X x) (aIndexAddr EG 66 (.ptr (some (1, 0))) (.int .i64 (.ofNat w))) = some (.ptr (some (1, w * 4)), vcRu_s2 O L X x) ∧ aLoad EG 48 (.ptr (some (1, w * 4 + 0))) (vcRu_s2 O L X x) = some (.int .u64 x.now, vcRu_s2 O L X x) ∧ still (vcRu_s2 O L X x) (aIndexAddr EG 66 (.ptr (some (1, 0))) (.int .i64 (.ofNat w))) = some (.ptr (some (1, w * 4)), vcRu_s2 O L X x) ∧ aLoad EG 65 (.ptr (some (1, w * 4))) (vcRu_s2 O L X x) = some (.agg [.int .u64 x.now, .int .u64 x.bef, .int .u64 x.o0, .int .u64 x.o1], vcRu_s2 O L X x) ∧ still (vcRu_s3 O L X x) (aBin EG .neq 48 (.tmp 7) (.const (.int .u64 0)) (.int .u64 x.bef) (.int .u64 (.ofNat 0))) = some (.bool false, vcRu_s3 O L X x) ∧ Option.map (fun s => (undefA, s)) (aStore EG 65 (.ptr (some (20, 0))) (.agg [.int .u64 (.ofNat e), .int .u64 x.now, .int .u64 x.o0, .int .u64 x.o1]) (vcRu_s4 O L X e x)) = some (.tuple [], vcRu_s5 O L X e x) ∧ still (vcRu_s5 O L X e x) (aIndexAddr EG 66 (.ptr (some (1, 0))) (.int .i64 (.ofNat w))) = some (.ptr (some (1, w * 4)), vcRu_s5 O L X e x) ∧ Option.map (fun s => (undefA, s)) (aStore EG 65 (.ptr (some (1, w * 4))) (.agg [.int .u64 (.ofNat e), .int .u64 x.now, .int .u64 x.o0, .int .u64 x.o1]) (vcRu_s5 O L X e x)) = some (.tuple [], vcRu_s6 O X L2 e x) ∧ aBuiltinM EG .append [49, 49] [V, .slice (some (21, 0)) 1 (.known 1)] (vcRu_s7 O X L2 e x) = some (.slice (some (22, 0)) (m + 1) (.rest 2), vcRu_s8 O W L2 e x) ∧ Q (.normal, xFr [(0, A), (2, .bool false), (3, .ptr (some (1, 0))), (5, .int .u64 (.ofNat e)), (6, .slice (some (22, 0)) (m + 1) (.rest 2)), (7, .int .i64 (wrapF .i64 (.ofNat i + .ofNat 1)))] 146, vcRu_s8 O W L2 e x)) (Q (.exit 2, xFr [(0, A), (2, .bool false), (3, .ptr (some (1, 0))), (5, .int .u64 (.ofNat d)), (6, V), (7, .int .i64 (.ofNat i))] 146, vcRu_s0 O L X))) =
  (tRu q A V O L X W L2 n i d w v e m z1 z2 kd x y).allY (fun r => Q (canR [0, 2, 3, 5, 6, 7] KO130 r)) (.v (.int .i64 (.ofNat n), vcRu_s0 O L X) (.b (.v (.ptr (some (0, i * 3)), vcRu_s1 O L X) (.v (.int .i64 z1, vcRu_s1 O L X) (.v (.int .i64 (.ofNat w), vcRu_s1 O L X) (.v (.ptr (some (0, i * 3)), vcRu_s1 O L X) (.v (.int .i64 z2, vcRu_s1 O L X) (.v (.int .i64 (.ofNat v), vcRu_s1 O L X) (.v (.ptr (some (0, i * 3)), vcRu_s1 O L X) (.v (.int .i64 kd, vcRu_s1 O L X) (.v (.bool true, vcRu_s1 O L X) (.v (.ptr (some (1, w * 4)), vcRu_s1 O L X) (.v (.agg [.int .u64 x.now, .int .u64 x.bef, .int .u64 x.o0, .int .u64 x.o1], vcRu_s1 O L X) (.v (.bool false, vcRu_s2 O L X x) (.v (.int .u64 (.ofNat e), vcRu_s2 O L X x) (.v (.ptr (some (1, w * 4)), vcRu_s2 O L X x) (.v (.int .u64 x.now, vcRu_s2 O L X x) (.v (.ptr (some (1, w * 4)), vcRu_s2 O L X x) (.v (.agg [.int .u64 x.now, .int .u64 x.bef, .int .u64 x.o0, .int .u64 x.o1], vcRu_s2 O L X x) (.v (.bool false, vcRu_s3 O L X x) (.v (.tuple [], vcRu_s5 O L X e x) (.v (.ptr (some (1, w * 4)), vcRu_s5 O L X e x) (.v (.tuple [], vcRu_s6 O X L2 e x) (.v (.slice (some (22, 0)) (m + 1) (.rest 2), vcRu_s8 O W L2 e x) .nil)))))))))))))))))))))) .nil)) := by kernel_rfl
noncomputable def vcRe_s0 (O : AO) (L : AO) (X : AO) : ASt := mkSt [(0, O), (1, L), (2, X)] 3
noncomputable def vcRe_s1 (O : AO) (L : AO) (X : AO) : ASt := mkSt [(0, O), (1, L), (2, X)] 17
noncomputable def vcRe_s2 (O : AO) (L : AO) (X : AO) (x : Ln) : ASt := mkSt [(0, O), (1, L), (2, X), (17, .cells [.int .u64 x.now, .int .u64 x.bef, .int .u64 x.o0, .int .u64 x.o1] true), (18, .cells [.int .u64 (.ofNat 0), .int .u64 (.ofNat 0), .int .u64 (.ofNat 0), .int .u64 (.ofNat 0)] true)] 19
noncomputable def vcRe_s3 (O : AO) (L : AO) (X : AO) (x : Ln) : ASt := mkSt [(0, O), (1, L), (2, X), (17, .cells [.int .u64 x.now, .int .u64 (.ofNat 0), .int .u64 x.bef, .int .u64 x.o0] true), (18, .cells [.int .u64 x.now, .int .u64 (.ofNat 0), .int .u64 x.bef, .int .u64 x.o0] true)] 19
noncomputable def vcRe_s4 (O : AO) (X : AO) (L2 : AO) (x : Ln) : ASt := mkSt [(0, O), (1, L2), (2, X), (17, .cells [.int .u64 x.now, .int .u64 (.ofNat 0), .int .u64 x.bef, .int .u64 x.o0] true), (18, .cells [.int .u64 x.now, .int .u64 (.ofNat 0), .int .u64 x.bef, .int .u64 x.o0] true)] 19
theorem vcRe (q : CallT) (A : AV) (V : AV) (O : AO) (L : AO) (X : AO) (W : AO) (L2 : AO) (n : Nat) (i : Nat) (d : Nat) (w : Nat) (v : Nat) (e : Nat) (m : Nat) (z1 : Int) (z2 : Int) (kd : Int) (x : Ln) (y : Ln) (Q : Exit × AFr × ASt → Prop) :
  (aBuiltinM EG .len [62] [A] (vcRe_s0 O L X) = some (.int .i64 (.ofNat n), vcRe_s0 O L X) ∧ ifB (ltF (.ofNat i) (.ofNat n)) (still (vcRe_s1 O L X) (aIndexAddr EG 62 A (.int .i64 (.ofNat i))) = some (.ptr (some (0, i * 3)), vcRe_s1 O L X) ∧ aLoad EG 3 (.ptr (some (0, i * 3 + 1))) (vcRe_s1 O L X) = some (.int .i64 z1, vcRe_s1 O L X) ∧ still (vcRe_s1 O L X) (aBin EG .and 3 (.tmp 38) (.const (.int .i64 3)) (.int .i64 z1) (.int .i64 (.ofNat 3))) = some (.int .i64 (.ofNat w), vcRe_s1 O L X) ∧ still (vcRe_s1 O L X) (aIndexAddr EG 62 A (.int .i64 (.ofNat i))) = some (.ptr (some (0, i * 3)), vcRe_s1 O L X) ∧ aLoad EG 3 (.ptr (some (0, i * 3 + 2))) (vcRe_s1 O L X) = some (.int .i64 z2, vcRe_s1 O L X) ∧ still (vcRe_s1 O L X) (aBin EG .and 3 (.tmp 44) (.const (.int .i64 3)) (.int .i64 z2) (.int .i64 (.ofNat 3))) = some (.int .i64 (.ofNat v), vcRe_s1 O L X) ∧ still (vcRe_s1 O L X) (aIndexAddr EG 62 A (.int .i64 (.ofNat i))) = some (.ptr (some (0, i * 3)), vcRe_s1 O L X) ∧ aLoad EG 3 (.ptr (some (0, i * 3 + 0))) (vcRe_s1 O L X) = some (.int .i64 kd, vcRe_s1 O L X) ∧ still (vcRe_s1 O L X) (aBin EG .eql 3 (.tmp 50) (.const (.int .i64 1)) (.int .i64 kd) (.int .i64 (.ofNat 1))) = some (.bool false, vcRe_s1 O L X) ∧ still (vcRe_s1 O L X) (aBin EG .eql 3 (.tmp 50) (.const (.int .i64 2)) (.int .i64 kd) (.int .i64 (.ofNat 2))) = some (.bool true, vcRe_s1 O L X) ∧ still (vcRe_s1 O L X) (aIndexAddr EG 66 (.ptr (some (1, 0))) (.int .i64 (.ofNat w))) = some (.ptr (some (1, w * 4)), vcRe_s1 O L X) ∧ aLoad EG 65 (.ptr (some (1, w * 4))) (vcRe_s1 O L X) = some (.agg [.int .u64 x.now, .int .u64 x.bef, .int .u64 x.o0, .int .u64 x.o1], vcRe_s1 O L X) ∧ still (vcRe_s2 O L X x) (aBin EG .neq 48 (.tmp 4) (.const (.int .u64 0)) (.int .u64 x.bef) (.int .u64 (.ofNat 0))) = some (.bool true, vcRe_s2 O L X x) ∧ still (vcRe_s3 O L X x) (aIndexAddr EG 66 (.ptr (some (1, 0))) (.int .i64 (.ofNat w))) = some (.ptr (some (1, w * 4)), vcRe_s3 O L X x) ∧ Option.map (fun s => (undefA, s)) (aStore EG 65 (.ptr (some (1, w * 4))) (.agg [.int .u64 x.now, .int .u64 (.ofNat 0), .int .u64 x.bef, .int .u64 x.o0]) (vcRe_s3 O L X x)) = some (.tuple [], vcRe_s4 O X L2 x) ∧ Q (.normal, xFr [(0, A), (2, .bool false), (3, .ptr (some (1, 0))), (5, .int .u64 (.ofNat d)), (6, V), (7, .int .i64 (wrapF .i64 (.ofNat i + .ofNat 1)))] 146, vcRe_s4 O X L2 x)) (Q (.exit 2, xFr [(0, A), (2, .bool false), (3, .ptr (some (1, 0))), (5, .int .u64 (.ofNat d)), (6, V), (7, .int .i64 (.ofNat i))] 146, vcRe_s0 O L X))) =
  (tRe q A V O L X W L2 n i d w v e m z1 z2 kd x y).allY (fun r => Q (canR [0, 2, 3, 5, 6, 7] KO130 r)) (.v (.int .i64 (.ofNat n), vcRe_s0 O L X) (.b (.v (.ptr (some (0, i * 3)), vcRe_s1 O L X) (.v (.int .i64 z1, vcRe_s1 O L X) (.v (.int .i64 (.ofNat w), vcRe_s1 O L X) (.v (.ptr (some (0, i * 3)), vcRe_s1 O L X) (.v (.int .i64 z2, vcRe_s1 O L X) (.v (.int .i64 (.ofNat v), vcRe_s1 O L X) (.v (.ptr (some (0, i * 3)), vcRe_s1 O L X) (.v (.int .i64 kd, vcRe_s1 O L X) (.v (.bool false, vcRe_s1 O L X) (.v (.bool true, vcRe_s1 O L X) (.v (.ptr (some (1, w * 4)), vcRe_s1 O L X) (.v (.agg [.int .u64 x.now, .int .u64 x.bef, .int .u64 x.o0, .int .u64 x.o1], vcRe_s1 O L X) (.v (.bool true, vcRe_s2 O L X x) (.v (.ptr (some (1, w * 4)), vcRe_s3 O L X x) (.v (.tuple [], vcRe_s4 O X L2 x) .nil))))))))))))))) .nil)) := by kernel_rfl
noncomputable def vcRf_s0 (O : AO) (L : AO) (X : AO) : ASt := mkSt [(0, O), (1, L), (2, X)] 3
noncomputable def vcRf_s1 (O : AO) (L : AO) (X : AO) : ASt := mkSt [(0, O), (1, L), (2, X)] 17
noncomputable def vcRf_s2 (O : AO) (L : AO) (X : AO) (x : Ln) : ASt := mkSt [(0, O), (1, L), (2, X), (17, .cells [.int .u64 x.now, .int .u64 x.bef, .int .u64 x.o0, .int .u64 x.o1] true), (18, .cells [.int .u64 (.ofNat 0), .int .u64 (.ofNat 0), .int .u64 (.ofNat 0), .int .u64 (.ofNat 0)] true)] 19
noncomputable def vcRf_s3 (O : AO) (L : AO) (X : AO) (x : Ln) : ASt := mkSt [(0, O), (1, L), (2, X), (17, .cells [.int .u64 x.now, .int .u64 x.bef, .int .u64 x.o0, .int .u64 x.o1] true), (18, .cells [.int .u64 x.now, .int .u64 x.bef, .int .u64 x.o0, .int .u64 x.o1] true)] 19
noncomputable def vcRf_s4 (O : AO) (X : AO) (L2 : AO) (x : Ln) : ASt := mkSt [(0, O), (1, L2), (2, X), (17, .cells [.int .u64 x.now, .int .u64 x.bef, .int .u64 x.o0, .int .u64 x.o1] true), (18, .cells [.int .u64 x.now, .int .u64 x.bef, .int .u64 x.o0, .int .u64 x.o1] true)] 19
theorem vcRf (q : CallT) (A : AV) (V : AV) (O : AO) (L : AO) (X : AO) (W : AO) (L2 : AO) (n : Nat) (i : Nat) (d : Nat) (w : Nat) (v : Nat) (e : Nat) (m : Nat) (z1 : Int) (z2 : Int) (kd : Int) (x : Ln) (y : Ln) (Q : Exit × AFr × ASt → Prop) :
  (aBuiltinM EG .len [62] [A] (vcRf_s0 O L X) = some (.int .i64 (.ofNat n), vcRf_s0 O L X) ∧ ifB (ltF (.ofNat i) (.ofNat n)) (still (vcRf_s1 O L X) (aIndexAddr EG 62 A (.int .i64 (.ofNat i))) = some (.ptr (some (0, i * 3)), vcRf_s1 O L X) ∧ aLoad EG 3 (.ptr (some (0, i * 3 + 1))) (vcRf_s1 O L X) = some (.int .i64 z1, vcRf_s1 O L X) ∧ still (vcRf_s1 O L X) (aBin EG .and 3 (.tmp 38) (.const (.int .i64 3)) (.int .i64 z1) (.int .i64 (.ofNat 3))) = some (.int .i64 (.ofNat w), vcRf_s1 O L X) ∧ still (vcRf_s1 O L X) (aIndexAddr EG 62 A (.int .i64 (.ofNat i))) = some (.ptr (some (0, i * 3)), vcRf_s1 O L X) ∧ aLoad EG 3 (.ptr (some (0, i * 3 + 2))) (vcRf_s1 O L X) = some (.int .i64 z2, vcRf_s1 O L X) ∧ still (vcRf_s1 O L X) (aBin EG .and 3 (.tmp 44) (.const (.int .i64 3)) (.int .i64 z2) (.int .i64 (.ofNat 3))) = some (.int .i64 (.ofNat v), vcRf_s1 O L X) ∧ still (vcRf_s1 O L X) (aIndexAddr EG 62 A (.int .i64 (.ofNat i))) = some (.ptr (some (0, i * 3)), vcRf_s1 O L X) ∧ aLoad EG 3 (.ptr (some (0, i * 3 + 0))) (vcRf_s1 O L X) = some (.int .i64 kd, vcRf_s1 O L X) ∧ still (vcRf_s1 O L X) (aBin EG .eql 3 (.tmp 50) (.const (.int .i64 1)) (.int .i64 kd) (.int .i64 (.ofNat 1))) = some (.bool false, vcRf_s1 O L X) ∧ still (vcRf_s1 O L X) (aBin EG .eql 3 (.tmp 50) (.const (.int .i64 2)) (.int .i64 kd) (.int .i64 (.ofNat 2))) = some (.bool true, vcRf_s1 O L X) ∧ still (vcRf_s1 O L X) (aIndexAddr EG 66 (.ptr (some (1, 0))) (.int .i64 (.ofNat w))) = some (.ptr (some (1, w * 4)), vcRf_s1 O L X) ∧ aLoad EG 65 (.ptr (some (1, w * 4))) (vcRf_s1 O L X) = some (.agg [.int .u64 x.now, .int .u64 x.bef, .int .u64 x.o0, .int .u64 x.o1], vcRf_s1 O L X) ∧ still (vcRf_s2 O L X x) (aBin EG .neq 48 (.tmp 4) (.const (.int .u64 0)) (.int .u64 x.bef) (.int .u64 (.ofNat 0))) = some (.bool false, vcRf_s2 O L X x) ∧ still (vcRf_s3 O L X x) (aIndexAddr EG 66 (.ptr (some (1, 0))) (.int .i64 (.ofNat w))) = some (.ptr (some (1, w * 4)), vcRf_s3 O L X x) ∧ Option.map (fun s => (undefA, s)) (aStore EG 65 (.ptr (some (1, w * 4))) (.agg [.int .u64 x.now, .int .u64 x.bef, .int .u64 x.o0, .int .u64 x.o1]) (vcRf_s3 O L X x)) = some (.tuple [], vcRf_s4 O X L2 x) ∧ Q (.normal, xFr [(0, A), (2, .bool false), (3, .ptr (some (1, 0))), (5, .int .u64 (.ofNat d)), (6, V), (7, .int .i64 (wrapF .i64 (.ofNat i + .ofNat 1)))] 146, vcRf_s4 O X L2 x)) (Q (.exit 2, xFr [(0, A), (2, .bool false), (3, .ptr (some (1, 0))), (5, .int .u64 (.ofNat d)), (6, V), (7, .int .i64 (.ofNat i))] 146, vcRf_s0 O L X))) =
  (tRf q A V O L X W L2 n i d w v e m z1 z2 kd x y).allY (fun r => Q (canR [0, 2, 3, 5, 6, 7] KO130 r)) (.v (.int .i64 (.ofNat n), vcRf_s0 O L X) (.b (.v (.ptr (some (0, i * 3)), vcRf_s1 O L X) (.v (.int .i64 z1, vcRf_s1 O L X) (.v (.int .i64 (.ofNat w), vcRf_s1 O L X) (.v (.ptr (some (0, i * 3)), vcRf_s1 O L X) (.v (.int .i64 z2, vcRf_s1 O L X) (.v (.int .i64 (.ofNat v), vcRf_s1 O L X) (.v (.ptr (some (0, i * 3)), vcRf_s1 O L X) (.v (.int .i64 kd, vcRf_s1 O L X) (.v (.bool false, vcRf_s1 O L X) (.v (.bool true, vcRf_s1 O L X) (.v (.ptr (some (1, w * 4)), vcRf_s1 O L X) (.v (.agg [.int .u64 x.now, .int .u64 x.bef, .int .u64 x.o0, .int .u64 x.o1], vcRf_s1 O L X) (.v (.bool false, vcRf_s2 O L X x) (.v (.ptr (some (1, w * 4)), vcRf_s3 O L X x) (.v (.tuple [], vcRf_s4 O X L2 x) .nil))))))))))))))) .nil)) := by kernel_rfl
noncomputable def vcRg_s0 (O : AO) (L : AO) (X : AO) : ASt := mkSt [(0, O), (1, L), (2, X)] 3
noncomputable def vcRg_s1 (O : AO) (L : AO) (X : AO) : ASt := mkSt [(0, O), (1, L), (2, X)] 17
noncomputable def vcRg_s2 (O : AO) (X : AO) (L2 : AO) : ASt := mkSt [(0, O), (1, L2), (2, X)] 17
theorem vcRg (q : CallT) (A : AV) (V : AV) (O : AO) (L : AO) (X : AO) (W : AO) (L2 : AO) (n : Nat) (i : Nat) (d : Nat) (w : Nat) (v : Nat) (e : Nat) (m : Nat) (z1 : Int) (z2 : Int) (kd : Int) (x : Ln) (y : Ln) (Q : Exit × AFr × ASt → Prop) :
  (aBuiltinM EG .len [62] [A] (vcRg_s0 O L X) = some (.int .i64 (.ofNat n), vcRg_s0 O L X) ∧ ifB (ltF (.ofNat i) (.ofNat n)) (still (vcRg_s1 O L X) (aIndexAddr EG 62 A (.int .i64 (.ofNat i))) = some (.ptr (some (0, i * 3)), vcRg_s1 O L X) ∧ aLoad EG 3 (.ptr (some (0, i * 3 + 1))) (vcRg_s1 O L X) = some (.int .i64 z1, vcRg_s1 O L X) ∧ still (vcRg_s1 O L X) (aBin EG .and 3 (.tmp 38) (.const (.int .i64 3)) (.int .i64 z1) (.int .i64 (.ofNat 3))) = some (.int .i64 (.ofNat w), vcRg_s1 O L X) ∧ still (vcRg_s1 O L X) (aIndexAddr EG 62 A (.int .i64 (.ofNat i))) = some (.ptr (some (0, i * 3)), vcRg_s1 O L X) ∧ aLoad EG 3 (.ptr (some (0, i * 3 + 2))) (vcRg_s1 O L X) = some (.int .i64 z2, vcRg_s1 O L X) ∧ still (vcRg_s1 O L X) (aBin EG .and 3 (.tmp 44) (.const (.int .i64 3)) (.int .i64 z2) (.int .i64 (.ofNat 3))) = some (.int .i64 (.ofNat v), vcRg_s1 O L X) ∧ still (vcRg_s1 O L X) (aIndexAddr EG 62 A (.int .i64 (.ofNat i))) = some (.ptr (some (0, i * 3)), vcRg_s1 O L X) ∧ aLoad EG 3 (.ptr (some (0, i * 3 + 0))) (vcRg_s1 O L X) = some (.int .i64 kd, vcRg_s1 O L X) ∧ still (vcRg_s1 O L X) (aBin EG .eql 3 (.tmp 50) (.const (.int .i64 1)) (.int .i64 kd) (.int .i64 (.ofNat 1))) = some (.bool false, vcRg_s1 O L X) ∧ still (vcRg_s1 O L X) (aBin EG .eql 3 (.tmp 50) (.const (.int .i64 2)) (.int .i64 kd) (.int .i64 (.ofNat 2))) = some (.bool false, vcRg_s1 O L X) ∧ still (vcRg_s1 O L X) (aBin EG .eql 3 (.tmp 50) (.const (.int .i64 3)) (.int .i64 kd) (.int .i64 (.ofNat 3))) = some (.bool true, vcRg_s1 O L X) ∧ still (vcRg_s1 O L X) (aIndexAddr EG 66 (.ptr (some (1, 0))) (.int .i64 (.ofNat v))) = some (.ptr (some (1, v * 4)), vcRg_s1 O L X) ∧ aLoad EG 65 (.ptr (some (1, v * 4))) (vcRg_s1 O L X) = some (.agg [.int .u64 y.now, .int .u64 y.bef, .int .u64 y.o0, .int .u64 y.o1], vcRg_s1 O L X) ∧ still (vcRg_s1 O L X) (aIndexAddr EG 66 (.ptr (some (1, 0))) (.int .i64 (.ofNat w))) = some (.ptr (some (1, w * 4)), vcRg_s1 O L X) ∧ Option.map (fun s => (undefA, s)) (aStore EG 65 (.ptr (some (1, w * 4))) (.agg [.int .u64 y.now, .int .u64 y.bef, .int .u64 y.o0, .int .u64 y.o1]) (vcRg_s1 O L X)) = some (.tuple [], vcRg_s2 O X L2) ∧ Q (.normal, xFr [(0, A), (2, .bool false), (3, .ptr (some (1, 0))), (5, .int .u64 (.ofNat d)), (6, V), (7, .int .i64 (wrapF .i64 (.ofNat i + .ofNat 1)))] 146, vcRg_s2 O X L2)) (Q (.exit 2, xFr [(0, A), (2, .bool false), (3, .ptr (some (1, 0))), (5, .int .u64 (.ofNat d)), (6, V), (7, .int .i64 (.ofNat i))] 146, vcRg_s0 O L X))) =
  (tRg q A V O L X W L2 n i d w v e m z1 z2 kd x y).allY (fun r => Q (canR [0, 2, 3, 5, 6, 7] KO130 r)) (.v (.int .i64 (.ofNat n), vcRg_s0 O L X) (.b (.v (.ptr (some (0, i * 3)), vcRg_s1 O L X) (.v (.int .i64 z1, vcRg_s1 O L X) (.v (.int .i64 (.ofNat w), vcRg_s1 O L X) (.v (.ptr (some (0, i * 3)), vcRg_s1 O L X) (.v (.int .i64 z2, vcRg_s1 O L X) (.v (.int .i64 (.ofNat v), vcRg_s1 O L X) (.v (.ptr (some (0, i * 3)), vcRg_s1 O L X) (.v (.int .i64 kd, vcRg_s1 O L X) (.v (.bool false, vcRg_s1 O L X) (.v (.bool false, vcRg_s1 O L X) (.v (.bool true, vcRg_s1 O L X) (.v (.ptr (some (1, v * 4)), vcRg_s1 O L X) (.v (.agg [.int .u64 y.now, .int .u64 y.bef, .int .u64 y.o0, .int .u64 y.o1], vcRg_s1 O L X) (.v (.ptr (some (1, w * 4)), vcRg_s1 O L X) (.v (.tuple [], vcRg_s2 O X L2) .nil))))))))))))))) .nil)) := by kernel_rfl
noncomputable def vcRh_s0 (O : AO) (L : AO) (X : AO) : ASt := mkSt [(0, O), (1, L), (2, X)] 3
noncomputable def vcRh_s1 (O : AO) (L : AO) (X : AO) : ASt := mkSt [(0, O), (1, L), (2, X)] 17
noncomputable def vcRh_s2 (O : AO) (X : AO) (L2 : AO) : ASt := mkSt [(0, O), (1, L2), (2, X)] 17
theorem vcRh (q : CallT) (A : AV) (V : AV) (O : AO) (L : AO) (X : AO) (W : AO) (L2 : AO) (n : Nat) (i : Nat) (d : Nat) (w : Nat) (v : Nat) (e : Nat) (m : Nat) (z1 : Int) (z2 : Int) (kd : Int) (x : Ln) (y : Ln) (Q : Exit × AFr × ASt → Prop) :
  (aBuiltinM EG .len [62] [A] (vcRh_s0 O L X) = some (.int .i64 (.ofNat n), vcRh_s0 O L X) ∧ ifB (ltF (.ofNat i) (.ofNat n)) (still (vcRh_s1 O L X) (aIndexAddr EG 62 A (.int .i64 (.ofNat i))) = some (.ptr (some (0, i * 3)), vcRh_s1 O L X) ∧ aLoad EG 3 (.ptr (some (0, i * 3 + 1))) (vcRh_s1 O L X) = some (.int .i64 z1, vcRh_s1 O L X) ∧ still (vcRh_s1 O L X) (aBin EG .and 3 (.tmp 38) (.const (.int .i64 3)) (.int .i64 z1) (.int .i64 (.ofNat 3))) = some (.int .i64 (.ofNat w), vcRh_s1 O L X) ∧ still (vcRh_s1 O L X) (aIndexAddr EG 62 A (.int .i64 (.ofNat i))) = some (.ptr (some (0, i * 3)), vcRh_s1 O L X) ∧ aLoad EG 3 (.ptr (some (0, i * 3 + 2))) (vcRh_s1 O L X) = some (.int .i64 z2, vcRh_s1 O L X) ∧ still (vcRh_s1 O L X) (aBin EG .and 3 (.tmp 44) (.const (.int .i64 3)) (.int .i64 z2) (.int .i64 (.ofNat 3))) = some (.int .i64 (.ofNat v), vcRh_s1 O L X) ∧ still (vcRh_s1 O L X) (aIndexAddr EG 62 A (.int .i64 (.ofNat i))) = some (.ptr (some (0, i * 3)), vcRh_s1 O L X) ∧ aLoad EG 3 (.ptr (some (0, i * 3 + 0))) (vcRh_s1 O L X) = some (.int .i64 kd, vcRh_s1 O L X) ∧ still (vcRh_s1 O L X) (aBin EG .eql 3 (.tmp 50) (.const (.int .i64 1)) (.int .i64 kd) (.int .i64 (.ofNat 1))) = some (.bool false, vcRh_s1 O L X) ∧ still (vcRh_s1 O L X) (aBin EG .eql 3 (.tmp 50) (.const (.int .i64 2)) (.int .i64 kd) (.int .i64 (.ofNat 2))) = some (.bool false, vcRh_s1 O L X) ∧ still (vcRh_s1 O L X) (aBin EG .eql 3 (.tmp 50) (.const (.int .i64 3)) (.int .i64 kd) (.int .i64 (.ofNat 3))) = some (.bool false, vcRh_s1 O L X) ∧ still (vcRh_s1 O L X) (aBin EG .eql 3 (.tmp 50) (.const (.int .i64 4)) (.int .i64 kd) (.int .i64 (.ofNat 4))) = some (.bool true, vcRh_s1 O L X) ∧ still (vcRh_s1 O L X) (aIndexAddr EG 66 (.ptr (some (1, 0))) (.int .i64 (.ofNat w))) = some (.ptr (some (1, w * 4)), vcRh_s1 O L X) ∧ Option.map (fun s => (undefA, s)) (aStore EG 65 (.ptr (some (1, w * 4))) (.agg [.int .u64 (.ofNat 0), .int .u64 (.ofNat 0), .int .u64 (.ofNat 0), .int .u64 (.ofNat 0)]) (vcRh_s1 O L X)) = some (.tuple [], vcRh_s2 O X L2) ∧ Q (.normal, xFr [(0, A), (2, .bool false), (3, .ptr (some (1, 0))), (5, .int .u64 (.ofNat d)), (6, V), (7, .int .i64 (wrapF .i64 (.ofNat i + .ofNat 1)))] 146, vcRh_s2 O X L2)) (Q (.exit 2, xFr [(0, A), (2, .bool false), (3, .ptr (some (1, 0))), (5, .int .u64 (.ofNat d)), (6, V), (7, .int .i64 (.ofNat i))] 146, vcRh_s0 O L X))) =
  (tRh q A V O L X W L2 n i d w v e m z1 z2 kd x y).allY (fun r => Q (canR [0, 2, 3, 5, 6, 7] KO130 r)) (.v (.int .i64 (.ofNat n), vcRh_s0 O L X) (.b (.v (.ptr (some (0, i * 3)), vcRh_s1 O L X) (.v (.int .i64 z1, vcRh_s1 O L X) (.v (.int .i64 (.ofNat w), vcRh_s1 O L X) (.v (.ptr (some (0, i * 3)), vcRh_s1 O L X) (.v (.int .i64 z2, vcRh_s1 O L X) (.v (.int .i64 (.ofNat v), vcRh_s1 O L X) (.v (.ptr (some (0, i * 3)), vcRh_s1 O L X) (.v (.int .i64 kd, vcRh_s1 O L X) (.v (.bool false, vcRh_s1 O L X) (.v (.bool false, vcRh_s1 O L X) (.v (.bool false, vcRh_s1 O L X) (.v (.bool true, vcRh_s1 O L X) (.v (.ptr (some (1, w * 4)), vcRh_s1 O L X) (.v (.tuple [], vcRh_s2 O X L2) .nil)))))))))))))) .nil)) := by kernel_rfl
noncomputable def vcRj_s0 (O : AO) (L : AO) (X : AO) : ASt := mkSt [(0, O), (1, L), (2, X)] 3
noncomputable def vcRj_s1 (O : AO) (L : AO) (X : AO) : ASt := mkSt [(0, O), (1, L), (2, X)] 17
theorem vcRj (q : CallT) (A : AV) (V : AV) (O : AO) (L : AO) (X : AO) (W : AO) (L2 : AO) (n : Nat) (i : Nat) (d : Nat) (w : Nat) (v : Nat) (e : Nat) (m : Nat) (z1 : Int) (z2 : Int) (kd : Int) (x : Ln) (y : Ln) (Q : Exit × AFr × ASt → Prop) :
  (aBuiltinM EG .len [62] [A] (vcRj_s0 O L X) = some (.int .i64 (.ofNat n), vcRj_s0 O L X) ∧ ifB (ltF (.ofNat i) (.ofNat n)) (still (vcRj_s1 O L X) (aIndexAddr EG 62 A (.int .i64 (.ofNat i))) = some (.ptr (some (0, i * 3)), vcRj_s1 O L X) ∧ aLoad EG 3 (.ptr (some (0, i * 3 + 1))) (vcRj_s1 O L X) = some (.int .i64 z1, vcRj_s1 O L X) ∧ still (vcRj_s1 O L X) (aBin EG .and 3 (.tmp 38) (.const (.int .i64 3)) (.int .i64 z1) (.int .i64 (.ofNat 3))) = some (.int .i64 (.ofNat w), vcRj_s1 O L X) ∧ still (vcRj_s1 O L X) (aIndexAddr EG 62 A (.int .i64 (.ofNat i))) = some (.ptr (some (0, i * 3)), vcRj_s1 O L X) ∧ aLoad EG 3 (.ptr (some (0, i * 3 + 2))) (vcRj_s1 O L X) = some (.int .i64 z2, vcRj_s1 O L X) ∧ still (vcRj_s1 O L X) (aBin EG .and 3 (.tmp 44) (.const (.int .i64 3)) (.int .i64 z2) (.int .i64 (.ofNat 3))) = some (.int .i64 (.ofNat v), vcRj_s1 O L X) ∧ still (vcRj_s1 O L X) (aIndexAddr EG 62 A (.int .i64 (.ofNat i))) = some (.ptr (some (0, i * 3)), vcRj_s1 O L X) ∧ aLoad EG 3 (.ptr (some (0, i * 3 + 0))) (vcRj_s1 O L X) = some (.int .i64 kd, vcRj_s1 O L X) ∧ still (vcRj_s1 O L X) (aBin EG .eql 3 (.tmp 50) (.const (.int .i64 1)) (.int .i64 kd) (.int .i64 (.ofNat 1))) = some (.bool false, vcRj_s1 O L X) ∧ still (vcRj_s1 O L X) (aBin EG .eql 3 (.tmp 50) (.const (.int .i64 2)) (.int .i64 kd) (.int .i64 (.ofNat 2))) = some (.bool false, vcRj_s1 O L X) ∧ still (vcRj_s1 O L X) (aBin EG .eql 3 (.tmp 50) (.const (.int .i64 3)) (.int .i64 kd) (.int .i64 (.ofNat 3))) = some (.bool false, vcRj_s1 O L X) ∧ still (vcRj_s1 O L X) (aBin EG .eql 3 (.tmp 50) (.const (.int .i64 4)) (.int .i64 kd) (.int .i64 (.ofNat 4))) = some (.bool false, vcRj_s1 O L X) ∧ Q (.normal, xFr [(0, A), (2, .bool false), (3, .ptr (some (1, 0))), (5, .int .u64 (.ofNat d)), (6, V), (7, .int .i64 (wrapF .i64 (.ofNat i + .ofNat 1)))] 146, vcRj_s1 O L X)) (Q (.exit 2, xFr [(0, A), (2, .bool false), (3, .ptr (some (1, 0))), (5, .int .u64 (.ofNat d)), (6, V), (7, .int .i64 (.ofNat i))] 146, vcRj_s0 O L X))) =
  (tRj q A V O L X W L2 n i d w v e m z1 z2 kd x y).allY (fun r => Q (canR [0, 2, 3, 5, 6, 7] KO130 r)) (.v (.int .i64 (.ofNat n), vcRj_s0 O L X) (.b (.v (.ptr (some (0, i * 3)), vcRj_s1 O L X) (.v (.int .i64 z1, vcRj_s1 O L X) (.v (.int .i64 (.ofNat w), vcRj_s1 O L X) (.v (.ptr (some (0, i * 3)), vcRj_s1 O L X) (.v (.int .i64 z2, vcRj_s1 O L X) (.v (.int .i64 (.ofNat v), vcRj_s1 O L X) (.v (.ptr (some (0, i * 3)), vcRj_s1 O L X) (.v (.int .i64 kd, vcRj_s1 O L X) (.v (.bool false, vcRj_s1 O L X) (.v (.bool false, vcRj_s1 O L X) (.v (.bool false, vcRj_s1 O L X) (.v (.bool false, vcRj_s1 O L X) .nil)))))))))))) .nil)) := by kernel_rfl
end Go.Proofs.Ytidmijpfoodkoaa.gho.gl
end

section
open Go Go.Ax Go.Proofs
namespace Go.Proofs.Ytidmijpfoodkoaa.gho.gl
set_option linter.unusedVariables false
section
variable {t : List (Int × Int)} {g c p : Int} {q : List Ln} {bs : List Br} {d w : Nat} {x y : Ln} {u : utr.Ln}
theorem up_app (hT : TreeOk t) (hc : hasK t c = false) (hp : hasK t p = true) : ∀ (n : Nat) (g : Int), rankK t g < n → hasK t g = true → up (t ++ [(c, p)]) g = up t g
  | 0, _, h, _ => absurd h (by omega)
  | n + 1, g, h, hg => by
    have hT' := hT.app hc hp
    have hg' : hasK (t ++ [(c, p)]) g = true := by rw [hasK_app, hg]; rfl
    have hpar : parK (t ++ [(c, p)]) g = parK t g := par_app hg
    cases h0 : eqF (parK t g) (.ofNat 0) with
    | true => rw [up_root h0, up_root (by rw [hpar]; exact h0)]
    | false =>
      obtain ⟨k1, k2⟩ := hT.par g hg h0
      rw [up_step hT hg h0, up_step hT' hg' (by rw [hpar]; exact h0), hpar, up_app hT hc hp n _ (by omega) k1]
theorem ofL_app {b : Br} : ∀ (bs : List Br) (t0 : List (Int × Int)), ofL t0 bs = .ok t → ofL t0 (bs ++ [b]) = ofL t [b]
  | [], t0, h => by cases h; rfl
  | y :: bs, t0, h => by
    unfold ofL at h
    cases h1 : (eqF y.2 (.ofNat 0) || hasK t0 y.2) with
    | true => rw [h1] at h; cases h
    | false =>
      rw [h1] at h
      cases h2 : hasK t0 y.1 with
      | false => rw [h2] at h; cases h
      | true =>
        rw [h2] at h
        simp only [cond_false, cond_true] at h
        show (bif eqF y.2 (.ofNat 0) || hasK t0 y.2 then OfR.no 2 else bif hasK t0 y.1 then ofL (t0 ++ [(y.2, y.1)]) (bs ++ [b]) else .no 6) = _
        rw [h1, h2]
        exact ofL_app bs _ h
def LOk (t : List (Int × Int)) (x : Ln) : Prop := eqF x.now (.ofNat 0) = true ∨ (∃ u, x = ofU u) ∧ hasK t x.now = true ∧ ∃ r, up t x.now = x.eld ++ r
theorem LOk.fit (h : LOk t x) : FitL t x := by
  rcases h with h | ⟨⟨u, rfl⟩, h1, r, h2⟩
  · exact .inl h
  · exact .inr ⟨rfl, h1, by rw [h2, List.take_left]⟩
theorem LOk.ok (h : LOk t x) : OkL x := by
  rcases h with h | ⟨h, _⟩
  · exact .inl h
  · exact .inr h
theorem LOk.app (hT : TreeOk t) (hc : hasK t c = false) (hp : hasK t p = true) (h : LOk t x) : LOk (t ++ [(c, p)]) x := by
  rcases h with h | ⟨h0, h1, r, h2⟩
  · exact .inl h
  · exact .inr ⟨h0, by rw [hasK_app, h1]; rfl, r, by rw [up_app hT hc hp _ _ (Nat.lt_succ_self _) h1]; exact h2⟩
theorem LOk.ended (h : LOk t x) (hb : eqF x.bef (.ofNat 0) = false) : LOk t ⟨x.now, .ofNat 0, x.bef, x.o0⟩ := by
  rcases h with h | ⟨⟨⟨c, b, hh⟩, rfl⟩, h1, r, h2⟩
  · exact .inl h
  · cases b with
    | none => exact absurd (show eqF (.ofNat 0) (.ofNat 0) = false from hb) (by rw [eqF_self]; simp)
    | some b =>
      cases hh with
      | z => exact .inr ⟨⟨⟨c, none, .o b⟩, rfl⟩, h1, r, h2⟩
      | o y => exact .inr ⟨⟨⟨c, none, .t b y⟩, rfl⟩, h1, r, h2⟩
      | t y z => exact .inr ⟨⟨⟨c, none, .t b y⟩, rfl⟩, h1, .ofNat (z + 1) :: r, h2⟩
structure Inv (t : List (Int × Int)) (q : List Ln) (bs : List Br) (d : Nat) : Prop where
  of : ofL [(.ofNat 1, .ofNat 0)] bs = .ok t
  keys : ∀ g, hasK t g = true → ∃ n : Nat, g = .ofNat n ∧ 0 < n ∧ n ≤ d
  len : bs.length + 1 ≤ d
  four : q.length = 4
  lines : ∀ x, x ∈ q → LOk t x
theorem Inv.tree (h : Inv t q bs d) : TreeOk t ∧ t.length ≤ bs.length + 1 := by
  obtain ⟨h1, h2⟩ := ofL_ok bs _ TreeOk.one h.of
  exact ⟨h1, by simp only [List.length_cons, List.length_nil] at h2; omega⟩
theorem Inv.ofR (h : Inv t q bs d) : ofR (.ofNat 1) bs = .ok t := by
  unfold gho.ofR
  exact h.of
def l1 : Ln := ⟨.ofNat 1, .ofNat 0, .ofNat 0, .ofNat 0⟩
theorem Inv.zero : Inv [(.ofNat 1, .ofNat 0)] [l1, l1, l1, l1] [] 1 := by
  refine ⟨rfl, fun g hg => ?_, Nat.le_refl 1, rfl, fun x hx => ?_⟩
  · unfold hasK at hg
    rw [List.any_cons, List.any_nil, Bool.or_false] at hg
    exact ⟨1, eqF_t hg, by omega, by omega⟩
  · have : x = l1 := by simpa using hx
    subst this
    exact .inr ⟨⟨⟨0, none, .z⟩, rfl⟩, rfl, [], rfl⟩
theorem Inv.draw (h : Inv t q bs d) : Inv t q bs (d + 1) := ⟨h.of, fun g hg => by obtain ⟨n, h1, h2, h3⟩ := h.keys g hg; exact ⟨n, h1, h2, by omega⟩, by have := h.len; omega, h.four, h.lines⟩
theorem Inv.set (h : Inv t q bs d) (hx : LOk t x) : Inv t (q.set w x) bs d := ⟨h.of, h.keys, h.len, by rw [List.length_set]; exact h.four, fun y hy => by
  rcases List.mem_or_eq_of_mem_set hy with hy | rfl
  · exact h.lines y hy
  · exact hx⟩
theorem Inv.new (h : Inv t q bs d) (hx : q[w]? = some x) (h0 : eqF x.now (.ofNat 0) = false) (hb : eqF x.bef (.ofNat 0) = true) :
    Inv (t ++ [(.ofNat (d + 1), x.now)]) (q.set w ⟨.ofNat (d + 1), x.now, x.o0, x.o1⟩) (bs ++ [(x.now, .ofNat (d + 1))]) (d + 1) := by
  have hT := h.tree.1
  have hc : hasK t (.ofNat (d + 1)) = false := by
    cases e : hasK t (.ofNat (d + 1)) with
    | false => rfl
    | true =>
      obtain ⟨n, h1, _, h3⟩ := h.keys _ e
      have : d + 1 = n := Int.ofNat.inj h1
      omega
  rcases h.lines x (List.mem_of_getElem? hx) with he | ⟨⟨⟨c, b, hh⟩, rfl⟩, hk, r, hu⟩
  · rw [h0] at he; cases he
  · cases b with
    | some b => exact absurd ((show eqF (.ofNat (b + 1)) (.ofNat 0) = false from rfl).symm.trans hb) (by simp)
    | none =>
      have hT' := hT.app hc hk
      refine ⟨?_, fun g hg => ?_, ?_, by rw [List.length_set]; exact h.four, fun y hy => ?_⟩
      · rw [ofL_app _ _ h.of]
        show (bif eqF (.ofNat (d + 1)) (.ofNat 0) || hasK t (.ofNat (d + 1)) then OfR.no 2 else bif hasK t (ofU ⟨c, none, hh⟩).now then ofL (t ++ [(.ofNat (d + 1), (ofU ⟨c, none, hh⟩).now)]) [] else .no 6) = _
        rw [hc, hk]; rfl
      · rw [hasK_app, Bool.or_eq_true] at hg
        rcases hg with hg | hg
        · obtain ⟨n, h1, h2, h3⟩ := h.keys g hg
          exact ⟨n, h1, h2, by omega⟩
        · exact ⟨d + 1, eqF_t hg, by omega, by omega⟩
      · rw [List.length_append]
        have := h.len
        simp only [List.length_cons, List.length_nil]; omega
      · rcases List.mem_or_eq_of_mem_set hy with hy | rfl
        · exact (h.lines y hy).app hT hc hk
        · have hk' : hasK (t ++ [(.ofNat (d + 1), (ofU ⟨c, none, hh⟩).now)]) (.ofNat (d + 1)) = true := by rw [hasK_app, eqF_self]; simp
          have hp : parK (t ++ [(.ofNat (d + 1), (ofU ⟨c, none, hh⟩).now)]) (.ofNat (d + 1)) = (ofU ⟨c, none, hh⟩).now := par_new hc (eqF_self _)
          have hup : up (t ++ [(.ofNat (d + 1), (ofU ⟨c, none, hh⟩).now)]) (.ofNat (d + 1)) = (ofU ⟨c, none, hh⟩).now :: ((ofU ⟨c, none, hh⟩).eld ++ r) := by
            rw [up_step hT' hk' (by rw [hp]; rfl), hp, up_app hT hc hk _ _ (Nat.lt_succ_self _) hk, hu]
          refine .inr ⟨⟨⟨d, some c, hh⟩, rfl⟩, hk', r, hup.trans ?_⟩
          cases hh <;> rfl
end
end Go.Proofs.Ytidmijpfoodkoaa.gho.gl
end
