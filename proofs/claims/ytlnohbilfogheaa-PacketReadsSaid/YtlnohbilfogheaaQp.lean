/-
  OWN WORK, A PART: an abstract machine for the program's text that the kernel can run, and the proof that it is sound: what it answers is what the program answers; contracts of functions by it. No condition.
-/
import Derived.Test.YtlnohbilfogheaaPrF
import Derived.Test.YtlnohbilfogheaaRows
import Derived.KernelRfl
import Derived.Test.YtlnohbilfogheaaQsM
import Derived.WalkKit
import Derived.ProofKit
import Derived.OpenShut
import Derived.ShutString
import Derived.ChangeOld
import Derived.ChangeSlices
import Derived.Below
import Derived.Deep.SlicePairs
import Derived.Deep.Grids
import Derived.WideKeyArgs
section
section
open Go Go.Ax Go.Proofs.Ytlnohbilfogheaa
namespace Go.Proofs.Ytlnohbilfogheaa.eqb
set_option linter.unusedVariables false
noncomputable def fns : List (Nat × Func) := [(65, Try.f65)]
noncomputable def E : Env := envEx Try.prog (List.range 190) fns []
def fl0 : Fl := ⟨[], [], [], []⟩
def nI (n : Nat) : AV := .int .i64 (.ofNat n)
noncomputable def c65 : Code := Option.getD Try.f65.body .skip
noncomputable def F0 (v w : AV) : AFr := { m := putArgs [v, w] 0 .e, n := 26, defs := [] }
noncomputable def S2 (o o1 : AO) : ASt := mkSt [(0, o), (1, o1)] 2
noncomputable def tP (v w : AV) (o o1 : AO) (n m : Nat) : Tr (Exit × AFr × ASt) := (TM E noSum [] fl0 40).ex ⟨[7, 9], [], [10], []⟩ none (preC 1 c65) (F0 v w) (S2 o o1)
noncomputable def frK (v w : AV) (n k : Nat) : AFr := xFr [(0, v), (1, w), (12, nI n), (13, nI k)] 26
noncomputable def tI (v w : AV) (o o1 : AO) (n : Nat) : Tr (Exit × AFr × ASt) := (TM E noSum [] fl0 40).ex ⟨[12], [], [], []⟩ none (seqL (seqL (dropC 1 c65))) (xFr [(0, v), (1, w)] 26) (S2 o o1)
noncomputable def L : Code := lopB (blkB (seqR (seqL (dropC 1 c65))))
noncomputable def tR (v w : AV) (o o1 : AO) (n k : Nat) (p q x y : AV) (b : Bool) : Tr (Exit × AFr × ASt) := (TM E noSum [] fl0 40).ex ⟨[18, 19, 22, 23, 24], [], [14, 24], []⟩ none L (frK v w n k) (S2 o o1)
noncomputable def tE (v w : AV) (o o1 : AO) (n k : Nat) : Tr (Exit × AFr × ASt) := (TM E noSum [] fl0 40).ex fl0 none (dropC 2 c65) (frK v w n k) (S2 o o1)
noncomputable def vcP_s0 (o o1 : AO) : ASt := mkSt [(0, o), (1, o1)] 2
theorem vcP (v w : AV) (o o1 : AO) (n m : Nat) (Q : Exit × AFr × ASt → Prop) (Q2 : Exit × Option AV → Prop) :
  (aBuiltinM E .len [25] [v] (vcP_s0 o o1) = some (.int .i64 (.ofNat n), vcP_s0 o o1) ∧ aBuiltinM E .len [25] [w] (vcP_s0 o o1) = some (.int .i64 (.ofNat m), vcP_s0 o o1) ∧ ifB (!eqF (.ofNat n) (.ofNat m)) (Q2 (.ret, some (.bool false))) (Q (.normal, xFr [(0, v), (1, w)] 26, vcP_s0 o o1))) =
  (tP v w o o1 n m).allY (mixQ E Try.f65 [0, 1] [0, 1] Q Q2) (.v (.int .i64 (.ofNat n), vcP_s0 o o1) (.v (.int .i64 (.ofNat m), vcP_s0 o o1) (.b .nil .nil))) := by kernel_rfl
noncomputable def vcI_s0 (o o1 : AO) : ASt := mkSt [(0, o), (1, o1)] 2
theorem vcI (v w : AV) (o o1 : AO) (n : Nat) (Q : Exit × AFr × ASt → Prop) :
  (aBuiltinM E .len [25] [v] (vcI_s0 o o1) = some (.int .i64 (.ofNat n), vcI_s0 o o1) ∧ Q (.normal, xFr [(0, v), (1, w), (12, .int .i64 (.ofNat n)), (13, .int .i64 (.ofNat 0))] 26, vcI_s0 o o1)) =
  (tI v w o o1 n).allY (fun r => Q (canR [0, 1, 12, 13] [0, 1] r)) (.v (.int .i64 (.ofNat n), vcI_s0 o o1) .nil) := by kernel_rfl
noncomputable def vcR_s0 (o o1 : AO) : ASt := mkSt [(0, o), (1, o1)] 11
noncomputable def vcR_s1 (o o1 : AO) : ASt := mkSt [(0, o), (1, o1)] 2
theorem vcR (v w : AV) (o o1 : AO) (n k : Nat) (p q x y : AV) (b : Bool) (Q : Exit × AFr × ASt → Prop) (Q2 : Exit × Option AV → Prop) :
  (ifB (ltF (.ofNat k) (.ofNat n)) (still (vcR_s0 o o1) (aIndexAddr E 25 v (.int .i64 (.ofNat k))) = some (p, vcR_s0 o o1) ∧ aLoad E 5 p (vcR_s0 o o1) = some (x, vcR_s0 o o1) ∧ still (vcR_s0 o o1) (aIndexAddr E 25 w (.int .i64 (.ofNat k))) = some (q, vcR_s0 o o1) ∧ aLoad E 5 q (vcR_s0 o o1) = some (y, vcR_s0 o o1) ∧ still (vcR_s0 o o1) (aBin E .neq 5 (.tmp 19) (.tmp 23) x y) = some (.bool b, vcR_s0 o o1) ∧ ifB b (Q2 (.ret, some (.bool false))) (Q (.normal, xFr [(0, v), (1, w), (12, .int .i64 (.ofNat n)), (13, .int .i64 (wrapF .i64 (.ofNat k + .ofNat 1)))] 26, vcR_s0 o o1))) (Q (.exit 0, xFr [(0, v), (1, w), (12, .int .i64 (.ofNat n)), (13, .int .i64 (.ofNat k))] 26, vcR_s1 o o1))) =
  (tR v w o o1 n k p q x y b).allY (mixQ E Try.f65 [0, 1, 12, 13] [0, 1] Q Q2) (.b (.v (p, vcR_s0 o o1) (.v (x, vcR_s0 o o1) (.v (q, vcR_s0 o o1) (.v (y, vcR_s0 o o1) (.v (.bool b, vcR_s0 o o1) (.b .nil .nil)))))) .nil) := by kernel_rfl
theorem vcE (v w : AV) (o o1 : AO) (n k : Nat) (Q : Exit × Option AV → Prop) :
  (Q (.ret, some (.bool true))) =
  (tE v w o o1 n k).allY (fun r => Q (r.1, ans (leaveA E Try.f65 r.2.1 r.2.2))) (.nil) := by kernel_rfl
section
variable {v w : AV} {o o1 : AO} {a b : List Nat}
def LawQ (a b : List Nat) (r : Exit × AFr × ASt) : Prop := (r.1 = .normal ∨ r.1 = .ret) ∧ ans (leaveA E Try.f65 r.2.1 r.2.2) = some (.bool (decide (a = b)))
theorem Eok : Env.Ok Try.prog E := envEx_ok (xs := []) ⟨⟨Try.func65, Try.call65⟩, trivial⟩ trivial (by kernel_rfl)
theorem sl25 : sliceT E 25 = some 1 := by kernel_rfl
theorem cell5 : cellT E 5 = true := by kernel_rfl
theorem objS {n : Nat} (C0 : Came o) (C1 : Came o1) : StP [0, 1] (mkSt [(0, o), (1, o1)] n) [(0, o), (1, o1)] := .came C0 rfl (by kernel_rfl) (.came C1 rfl (by kernel_rfl) .nil)
theorem came {j : Nat} {v : AV} {o : AO} {a : List Nat} (h : ArgB j v o a) : Came o := by
  cases h with
  | nil => exact .inl rfl
  | zero => exact .inl rfl
  | row _ => exact .inr ⟨_, _, rfl, refU _⟩
theorem kept {j k : Nat} {v : AV} {o : AO} {a : List Nat} (h : ArgB j v o a) (hj : j < k) : KeptV k v := by
  cases h with
  | nil => exact KeptV.none
  | zero => exact KeptV.zero
  | row _ => exact KeptV.row hj
theorem kf {n k : Nat} {N : Nat} (A0 : ArgB 0 v o a) (A1 : ArgB 1 w o1 b) : frE [0, 1] (xFr [(0, v), (1, w), (12, nI n), (13, nI k)] 26) [0, 1, 12, 13] = some [(0, v), (1, w), (12, nI n), (13, nI k)] :=
  frE_xFr (ks := [(0, v), (1, w), (12, nI n), (13, nI k)]) fun p hp => by
    simp only [List.mem_cons, List.not_mem_nil, or_false] at hp
    rcases hp with rfl | rfl | rfl | rfl
    · exact ⟨Nat.le_of_ble_eq_true rfl, rfl, kept A0 (k := 2) (by omega) [0, 1] rfl⟩
    · exact ⟨Nat.le_of_ble_eq_true rfl, rfl, kept A1 (k := 2) (by omega) [0, 1] rfl⟩
    · exact ⟨Nat.le_of_ble_eq_true rfl, rfl, rfl⟩
    · exact ⟨Nat.le_of_ble_eq_true rfl, rfl, rfl⟩
theorem toN {n k nx : Nat} (A0 : ArgB 0 v o a) (A1 : ArgB 1 w o1 b) : Wk 2 (frK v w n k) (mkSt [(0, o), (1, o1)] nx) (frK v w n k) (S2 o o1) :=
  Wk.heldX [0, 1] rfl rfl [0, 1, 12, 13] (kf (N := 0) A0 A1) (objS (came A0) (came A1))
def Inv (a b : List Nat) (k : Nat) : Prop := ∀ i, i < k → a[i]? = b[i]?
theorem inv_all (hl : a.length = b.length) (h : Inv a b a.length) : a = b := by
  apply List.ext_getElem?
  intro i
  by_cases e : i < a.length
  · exact h i e
  · rw [List.getElem?_eq_none (by omega), List.getElem?_eq_none (by omega)]
theorem round (A0 : ArgB 0 v o a) (A1 : ArgB 1 w o1 b) (hl : a.length = b.length) (hb : a.length < 9223372036854775808) {k : Nat} (hk : k ≤ a.length) (hI : Inv a b k) :
    Trip Try.prog 2 none L (frK v w a.length k) (S2 o o1) fun r => LawQ a b r ∧ r.1 = .ret ∨ (k < a.length ∧ Inv a b (k + 1) ∧ Stops 2 .normal (frK v w a.length (k + 1)) (S2 o o1) r) ∨ (k = a.length ∧ Stops 2 (.exit 0) (frK v w a.length k) (S2 o o1) r) := by
  have fin : ∀ {p q x y : AV} {bb : Bool} {ys} , (tR v w o o1 a.length k p q x y bb).allY (mixQ E Try.f65 [0, 1, 12, 13] [0, 1] (fun r => (k < a.length ∧ Inv a b (k + 1) ∧ Stops 2 .normal (frK v w a.length (k + 1)) (S2 o o1) r) ∨ (k = a.length ∧ Stops 2 (.exit 0) (frK v w a.length k) (S2 o o1) r)) (fun q => a ≠ b ∧ q.2 = some (.bool false))) ys → Trip Try.prog 2 none L (frK v w a.length k) (S2 o o1) fun r => LawQ a b r ∧ r.1 = .ret ∨ (k < a.length ∧ Inv a b (k + 1) ∧ Stops 2 .normal (frK v w a.length (k + 1)) (S2 o o1) r) ∨ (k = a.length ∧ Stops 2 (.exit 0) (frK v w a.length k) (S2 o o1) r) := fun h =>
    Trip.runM Eok noSum_ok h (fun r h1 h2 => .inl ⟨⟨.inr h1, by rw [show ans (leaveA E Try.f65 r.2.1 r.2.2) = some (.bool false) from h2.2, decide_eq_false h2.1]⟩, h1⟩) (fun r h1 h2 => .inr (h2.imp (fun h => ⟨h.1, h.2.1, h.2.2.can⟩) (fun h => ⟨h.1, h.2.can⟩)))
  by_cases e : k < a.length
  · have e1 : a[k]? = some a[k] := List.getElem?_eq_getElem e
    have e2 : b[k]? = some b[k] := List.getElem?_eq_getElem (by omega)
    have s0 := A0.sl (E := E) sl25
    have s1 := A1.sl (E := E) sl25
    refine fin (Eq.mp (vcR v w o o1 a.length k _ _ _ _ (!eqF (.ofNat a[k]) (.ofNat b[k])) _ _) (ifB_mk (fun _ => ⟨still_of (s0.idx k .i64 e), s0.ld cell5 (by kernel_rfl) e1, still_of (s1.idx k .i64 (by omega)), s1.ld cell5 (by kernel_rfl) e2, by rfl, ifB_mk (fun hb => ?_) fun hb => ?_⟩) fun h => ?_))
    · refine ⟨fun hab => ?_, rfl⟩
      subst hab
      exact neqF_t hb rfl
    · refine .inl ⟨e, fun i hi => ?_, rfl, ?_⟩
      · by_cases ei : i = k
        · subst ei
          rw [e1, e2]
          have := neqF_f hb
          simp only [Int.ofNat_eq_natCast, Int.ofNat_inj] at this
          rw [this]
        · exact hI i (by omega)
      · have := toN (n := a.length) (k := k + 1) (nx := 11) A0 A1
        rw [show (Int.ofNat k + Int.ofNat 1) = Int.ofNat (k + 1) from rfl, wrap_nat (by omega)]
        exact this
    · rw [ltF_nn] at h
      simp [e] at h
  · have ek : k = a.length := by omega
    refine fin (p := undefA) (q := undefA) (x := undefA) (y := undefA) (bb := false) (Eq.mp (vcR v w o o1 a.length k _ _ _ _ _ _ _) (ifB_mk (fun h => ?_) fun _ => .inr ⟨ek, rfl, Wk.refl _ _ _⟩))
    rw [ltF_nn] at h
    simp [e] at h
theorem loop (A0 : ArgB 0 v o a) (A1 : ArgB 1 w o1 b) (hl : a.length = b.length) (hb : a.length < 9223372036854775808) : Trip Try.prog 2 none (.block 0 (.loop L)) (frK v w a.length 0) (S2 o o1) fun r => LawQ a b r ∧ r.1 = .ret ∨ (a = b ∧ Stops 2 .normal (frK v w a.length a.length) (S2 o o1) r) := by
  refine Trip.block (Trip.loop (fun m fr st => ∃ k, k ≤ a.length ∧ m = a.length - k ∧ Inv a b k ∧ fr = frK v w a.length k ∧ st = S2 o o1) ?_ a.length ⟨0, by omega, by omega, fun i hi => absurd hi (by omega), rfl, rfl⟩)
  rintro m fr st ⟨k, hk, rfl, hI, rfl, rfl⟩
  refine (round A0 A1 hl hb hk hI).mono ?_
  rintro ⟨e, fr', st'⟩ (⟨h1, h2⟩ | ⟨h1, h2, h3, h4⟩ | ⟨h1, h3, h4⟩)
  · simp only at h2
    subst h2
    exact .inl ⟨h1, rfl⟩
  · simp only at h3
    subst h3
    exact ⟨a.length - (k + 1), _, _, by omega, h4, k + 1, by omega, rfl, h2, rfl, rfl⟩
  · simp only at h3
    subst h3
    subst h1
    exact ⟨fun _ => .inr ⟨inv_all hl hI, rfl, h4⟩, fun h => absurd rfl h⟩
theorem shape : dropC 1 c65 = .seq (.seq (seqL (seqL (dropC 1 c65))) (.block 0 (.loop L))) (dropC 2 c65) := by kernel_rfl
theorem body (A0 : ArgB 0 v o a) (A1 : ArgB 1 w o1 b) (hb : a.length < 9223372036854775808) : Trip Try.prog 2 none c65 (F0 v w) (S2 o o1) (LawQ a b) := by
  have s0 := A0.sl (E := E) sl25
  have s1 := A1.sl (E := E) sl25
  refine Trip.preM Eok noSum_ok (fn := Try.f65) (k := 1) (kf := [0, 1]) (ko := [0, 1]) (Q1 := fun r => a.length = b.length ∧ r = (.normal, xFr [(0, v), (1, w)] 26, S2 o o1)) (Q2 := fun q => a ≠ b ∧ q.2 = some (.bool false)) (by kernel_rfl) (Eq.mp (vcP v w o o1 a.length b.length _ _) ⟨s0.len _, s1.len _, ifB_mk (fun h => ?_) fun h => ?_⟩) ?_ ?_ ?_
  · refine ⟨fun hab => ?_, rfl⟩
    subst hab
    exact neqF_t h rfl
  · have := neqF_f h
    simp only [Int.ofNat_eq_natCast, Int.ofNat_inj] at this
    exact ⟨this, rfl⟩
  · rintro F S ⟨hl, h⟩
    cases h
    rw [shape]
    refine Trip.seq (R := fun r => LawQ a b r ∧ r.1 = .ret ∨ (a = b ∧ Stops 2 .normal (frK v w a.length a.length) (S2 o o1) r)) (Trip.seq (R := Stops 2 .normal (frK v w a.length 0) (S2 o o1)) ((Trip.runY Eok noSum_ok (Eq.mp (vcI v w o o1 a.length (Stops 2 .normal (frK v w a.length 0) (S2 o o1))) ⟨s0.len _, rfl, Wk.refl _ _ _⟩)).mono fun r hr => hr.can) (fun fr' st' hq => Trip.less hq.2 (loop A0 A1 hl hb)) (fun e fr' st' hne hq => absurd hq.1 hne)) (fun fr' st' hq => ?_) (fun e fr' st' hne hq => ?_)
    · rcases hq with ⟨_, h⟩ | ⟨hab, hq⟩
      · cases h
      · refine Trip.less hq.2 (Trip.runY Eok noSum_ok (Eq.mp (vcE v w o o1 a.length a.length (fun q => (q.1 = .normal ∨ q.1 = .ret) ∧ q.2 = some (.bool (decide (a = b))))) ⟨.inr rfl, by rw [decide_eq_true hab]⟩))
    · rcases hq with ⟨h, _⟩ | ⟨_, hq⟩
      · exact h
      · exact absurd hq.1 hne
  · exact fun r h1 h2 => ⟨.inr h1, by rw [show ans (leaveA E Try.f65 r.2.1 r.2.2) = some (.bool false) from h2.2, decide_eq_false h2.1]⟩
  · rintro r h1 h2 ⟨_, h3⟩
    exact absurd (congrArg Prod.fst h3) h1
theorem atMem (A0 : ArgB 0 v o a) (A1 : ArgB 1 w o1 b) (hb : a.length < 9223372036854775808) : AtMem Try.prog 65 [v, w] (S2 o o1) (.bool (decide (a = b))) := by
  refine AtMem.of_trip Eok (fn := Try.f65) (by kernel_rfl) (c := c65) (by kernel_rfl) (by kernel_rfl) ?_
  have hfr : ({ m := putArgs [v, w] 0 .e, n := Try.f65.ntmps, defs := [] } : AFr) = F0 v w := by kernel_rfl
  rw [hfr]
  exact body A0 A1 hb
end
theorem equal {S : ASt} {v w : AV} {a b : List Nat} (h0 : SlB S v a) (h1 : SlB S w b) (hb : a.length < 9223372036854775808) : Call1 Try.prog 65 [v, w] S (.bool (decide (a = b)), S) := by
  obtain ⟨v1, o, r0, A0⟩ := h0.ro 0
  obtain ⟨w1, o1, r1, A1⟩ := h1.ro 1
  refine Call1.ro (os := [o, o1]) (atMem A0 A1 hb) (by simp [refsV]) ⟨r0, r1, trivial⟩ rfl fun j x hj => ?_
  have hg : (S2 o o1).h.get j = if j = 1 then some o1 else if j = 0 then some o else none := by
    show (((T.e : T AO).set D 0 _).set D 1 _).get j = _
    rw [T.get_set, T.get_set, T.get_e]
  rw [hg] at hj
  by_cases e1 : j = 1
  · subst e1; simpa using hj
  · by_cases e0 : j = 0
    · subst e0; simpa using hj
    · simp [e1, e0] at hj
end Go.Proofs.Ytlnohbilfogheaa.eqb
end
section
open Go Go.Ax Go.Proofs.Ytlnohbilfogheaa
namespace Go.Proofs.Ytlnohbilfogheaa.pkb
set_option linter.unusedVariables false
noncomputable def fns : List (Nat × Func) := [(22, Try.f22), (58, Try.f58), (90, Try.f90), (78, Try.f78), (79, Try.f79), (37, Try.f37), (44, Try.f44), (38, Try.f38), (14, Try.f14), (47, Try.f47)]
noncomputable def E : Env := envEx Try.prog [0, 3, 4, 5, 25, 28, 31, 33, 34, 61, 63, 89, 104] fns []
def fl0 : Fl := ⟨[], [], [], []⟩
noncomputable def sm (q : CallT) : CallT := onlyC [59, 65] q
noncomputable def pV (k m t a s : Int) (v : AV) : AV := .agg [.int .i64 k, .int .u64 m, .int .u64 t, .int .u64 a, .int .u64 s, v]
noncomputable def fls : List (Nat × Fl) := [(22, ⟨[53, 56], [9, 46, 49], [], []⟩), (58, ⟨[37, 49, 55], [65], [14, 18, 22, 28, 30, 32, 33, 44, 50, 56], []⟩), (90, ⟨[43], [], [9, 15, 22, 29, 36, 43], []⟩), (38, ⟨[6, 12], [14, 16], [7], []⟩), (37, ⟨[], [], [20], []⟩), (44, ⟨[], [7], [], []⟩), (79, ⟨[31], [], [], []⟩), (14, ⟨[], [16], [], []⟩), (47, ⟨[7], [], [], []⟩)]
def v0 : AV := .slice none 0 (.known 0)
def v1 : AV := .slice0
def v2 (n : Nat) : AV := .slice (some (0, 0)) n (.atl n)
noncomputable def t580 (q : CallT) (k m t a s : Int) (o : AO) (n : Nat) (b : Bool) : Tr (AV × ASt) := (TM E (sm q) fls fl0 60).call 58 [pV k m t a s v0] (mkSt [(0, o)] 1)
noncomputable def t581 (q : CallT) (k m t a s : Int) (o : AO) (n : Nat) (b : Bool) : Tr (AV × ASt) := (TM E (sm q) fls fl0 60).call 58 [pV k m t a s v1] (mkSt [(0, o)] 1)
noncomputable def t582 (q : CallT) (k m t a s : Int) (o : AO) (n : Nat) (b : Bool) : Tr (AV × ASt) := (TM E (sm q) fls fl0 60).call 58 [pV k m t a s (v2 n)] (mkSt [(0, o)] 1)
noncomputable def vcM0_s0 (k m t a s : Int) (o : AO) : ASt := mkSt [(0, o), (1, .cells [.int .i64 k, .int .u64 m, .int .u64 t, .int .u64 a, .int .u64 s, .slice none 0 (.known 0)] true), (2, .cells [.int .i64 k, .int .u64 m, .int .u64 t, .int .u64 (.ofNat 0), .int .u64 (.ofNat 0), .slice none 0 (.known 0)] true)] 11
noncomputable def vcM0_s1 (k m t a s : Int) (o : AO) : ASt := mkSt [(0, o), (1, .cells [.int .i64 k, .int .u64 m, .int .u64 t, .int .u64 a, .int .u64 s, .slice none 0 (.known 0)] true), (2, .cells [.int .i64 k, .int .u64 m, .int .u64 t, .int .u64 (.ofNat 0), .int .u64 s, .slice none 0 (.known 0)] true)] 11
noncomputable def vcM0_s2 : ASt := mkSt [] 11
noncomputable def vcM0_s3 (k m t a s : Int) (o : AO) : ASt := mkSt [(0, o), (1, .cells [.int .i64 k, .int .u64 m, .int .u64 t, .int .u64 a, .int .u64 s, .slice none 0 (.known 0)] true), (2, .cells [.int .i64 k, .int .u64 m, .int .u64 t, .int .u64 a, .int .u64 (.ofNat 0), .slice none 0 (.known 0)] true), (3, .cells [.int .i64 k, .int .u64 m, .int .u64 t, .int .u64 a, .int .u64 s, .slice none 0 (.known 0)] true), (4, .cells [.int .i64 k, .int .u64 m, .int .u64 t, .int .u64 a, .int .u64 (.ofNat 0), .slice none 0 (.known 0)] true)] 5
noncomputable def vcM0_s4 : ASt := mkSt [] 5
noncomputable def vcM0_s5 (k m t a s : Int) (o : AO) : ASt := mkSt [(0, o), (1, .cells [.int .i64 k, .int .u64 m, .int .u64 t, .int .u64 a, .int .u64 s, .slice none 0 (.known 0)] true), (2, .cells [.int .i64 k, .int .u64 m, .int .u64 t, .int .u64 (.ofNat 0), .int .u64 (.ofNat 0), .slice none 0 (.known 0)] true), (3, .cells [.int .i64 k, .int .u64 m, .int .u64 t, .int .u64 a, .int .u64 s, .slice none 0 (.known 0)] true), (4, .cells [.int .i64 k, .int .u64 m, .int .u64 t, .int .u64 (.ofNat 0), .int .u64 (.ofNat 0), .slice none 0 (.known 0)] true)] 5
noncomputable def vcM0_s6 : ASt := mkSt [] 3
theorem vcM0 (q : CallT) (k m t a s : Int) (o : AO) (n : Nat) (b : Bool) (Q : AV × ASt → Prop) :
  (ifB (!eqF m (.ofNat 0)) (ifB (!eqF t (.ofNat 0)) (ifB (eqF k (.ofNat 2)) (aLoad E 25 (.ptr (some (1, 5))) (vcM0_s0 k m t a s o) = some (.slice none 0 (.known 0), vcM0_s0 k m t a s o) ∧ holdsO [(some (.slice none 0 (.known 0)), .slice none 0 (.known 0))] ∧ ifB (ltF (.ofNat 0) s) (aBuiltinM E .len [25] [.slice none 0 (.known 0)] (vcM0_s1 k m t a s o) = some (.int .i64 (.ofNat 0), vcM0_s1 k m t a s o) ∧ Q (.bool false, vcM0_s2)) (Q (.bool false, vcM0_s2))) (ifB (eqF k (.ofNat 3)) (ifB (eqF k k) (ifB (eqF m m) (ifB (eqF t t) (ifB (eqF a a) (ifB (eqF s (.ofNat 0)) ((M E (drawA E) (sm q) 45).call 65 [.slice none 0 (.known 0), .slice none 0 (.known 0)] (vcM0_s3 k m t a s o) = some (.bool b, vcM0_s3 k m t a s o) ∧ ifB b (Q (.bool true, vcM0_s4)) (Q (.bool false, vcM0_s4))) (Q (.bool false, vcM0_s4))) (Q (.bool false, vcM0_s4))) (Q (.bool false, vcM0_s4))) (Q (.bool false, vcM0_s4))) (Q (.bool false, vcM0_s4))) (ifB (eqF k (.ofNat 1)) (ifB (eqF k k) (ifB (eqF m m) (ifB (eqF t t) (ifB (eqF a (.ofNat 0)) (ifB (eqF s (.ofNat 0)) ((M E (drawA E) (sm q) 45).call 65 [.slice none 0 (.known 0), .slice none 0 (.known 0)] (vcM0_s5 k m t a s o) = some (.bool b, vcM0_s5 k m t a s o) ∧ ifB b (Q (.bool true, vcM0_s4)) (Q (.bool false, vcM0_s4))) (Q (.bool false, vcM0_s4))) (Q (.bool false, vcM0_s4))) (Q (.bool false, vcM0_s4))) (Q (.bool false, vcM0_s4))) (Q (.bool false, vcM0_s4))) (ifB (eqF k (.ofNat 4)) (ifB (eqF k k) (ifB (eqF m m) (ifB (eqF t t) (ifB (eqF a (.ofNat 0)) (ifB (eqF s (.ofNat 0)) ((M E (drawA E) (sm q) 45).call 65 [.slice none 0 (.known 0), .slice none 0 (.known 0)] (vcM0_s5 k m t a s o) = some (.bool b, vcM0_s5 k m t a s o) ∧ ifB b (Q (.bool true, vcM0_s4)) (Q (.bool false, vcM0_s4))) (Q (.bool false, vcM0_s4))) (Q (.bool false, vcM0_s4))) (Q (.bool false, vcM0_s4))) (Q (.bool false, vcM0_s4))) (Q (.bool false, vcM0_s4))) (Q (.bool false, vcM0_s6)))))) (ifB (eqF k (.ofNat 1)) (ifB (eqF k (.ofNat 2)) (aLoad E 25 (.ptr (some (1, 5))) (vcM0_s0 k m t a s o) = some (.slice none 0 (.known 0), vcM0_s0 k m t a s o) ∧ holdsO [(some (.slice none 0 (.known 0)), .slice none 0 (.known 0))] ∧ ifB (ltF (.ofNat 0) s) (aBuiltinM E .len [25] [.slice none 0 (.known 0)] (vcM0_s1 k m t a s o) = some (.int .i64 (.ofNat 0), vcM0_s1 k m t a s o) ∧ Q (.bool false, vcM0_s2)) (Q (.bool false, vcM0_s2))) (ifB (eqF k (.ofNat 3)) (ifB (eqF k k) (ifB (eqF m m) (ifB (eqF t t) (ifB (eqF a a) (ifB (eqF s (.ofNat 0)) ((M E (drawA E) (sm q) 45).call 65 [.slice none 0 (.known 0), .slice none 0 (.known 0)] (vcM0_s3 k m t a s o) = some (.bool b, vcM0_s3 k m t a s o) ∧ ifB b (Q (.bool true, vcM0_s4)) (Q (.bool false, vcM0_s4))) (Q (.bool false, vcM0_s4))) (Q (.bool false, vcM0_s4))) (Q (.bool false, vcM0_s4))) (Q (.bool false, vcM0_s4))) (Q (.bool false, vcM0_s4))) (ifB (eqF k (.ofNat 1)) (ifB (eqF k k) (ifB (eqF m m) (ifB (eqF t t) (ifB (eqF a (.ofNat 0)) (ifB (eqF s (.ofNat 0)) ((M E (drawA E) (sm q) 45).call 65 [.slice none 0 (.known 0), .slice none 0 (.known 0)] (vcM0_s5 k m t a s o) = some (.bool b, vcM0_s5 k m t a s o) ∧ ifB b (Q (.bool true, vcM0_s4)) (Q (.bool false, vcM0_s4))) (Q (.bool false, vcM0_s4))) (Q (.bool false, vcM0_s4))) (Q (.bool false, vcM0_s4))) (Q (.bool false, vcM0_s4))) (Q (.bool false, vcM0_s4))) (ifB (eqF k (.ofNat 4)) (ifB (eqF k k) (ifB (eqF m m) (ifB (eqF t t) (ifB (eqF a (.ofNat 0)) (ifB (eqF s (.ofNat 0)) ((M E (drawA E) (sm q) 45).call 65 [.slice none 0 (.known 0), .slice none 0 (.known 0)] (vcM0_s5 k m t a s o) = some (.bool b, vcM0_s5 k m t a s o) ∧ ifB b (Q (.bool true, vcM0_s4)) (Q (.bool false, vcM0_s4))) (Q (.bool false, vcM0_s4))) (Q (.bool false, vcM0_s4))) (Q (.bool false, vcM0_s4))) (Q (.bool false, vcM0_s4))) (Q (.bool false, vcM0_s4))) (Q (.bool false, vcM0_s6)))))) (ifB (eqF k (.ofNat 2)) (aLoad E 25 (.ptr (some (1, 5))) (vcM0_s0 k m t a s o) = some (.slice none 0 (.known 0), vcM0_s0 k m t a s o) ∧ holdsO [(some (.slice none 0 (.known 0)), .slice none 0 (.known 0))] ∧ Q (.bool false, vcM0_s2)) (ifB (eqF k (.ofNat 3)) (Q (.bool false, vcM0_s6)) (ifB (eqF k (.ofNat 1)) (Q (.bool false, vcM0_s6)) (ifB (eqF k (.ofNat 4)) (Q (.bool false, vcM0_s6)) (Q (.bool false, vcM0_s6)))))))) (ifB (eqF k (.ofNat 2)) (aLoad E 25 (.ptr (some (1, 5))) (vcM0_s0 k m t a s o) = some (.slice none 0 (.known 0), vcM0_s0 k m t a s o) ∧ holdsO [(some (.slice none 0 (.known 0)), .slice none 0 (.known 0))] ∧ Q (.bool false, vcM0_s2)) (ifB (eqF k (.ofNat 3)) (Q (.bool false, vcM0_s6)) (ifB (eqF k (.ofNat 1)) (Q (.bool false, vcM0_s6)) (ifB (eqF k (.ofNat 4)) (Q (.bool false, vcM0_s6)) (Q (.bool false, vcM0_s6))))))) =
  (t580 q k m t a s o n b).allY (fun r => Q (r.1, canS [] r.2)) (.b (.b (.b (.v (.slice none 0 (.known 0), vcM0_s0 k m t a s o) (.b (.v (.int .i64 (.ofNat 0), vcM0_s1 k m t a s o) (.b .nil .nil)) .nil)) (.b (.b (.b (.b (.b (.b (.v (.bool b, vcM0_s3 k m t a s o) (.b .nil .nil)) .nil) .nil) .nil) .nil) .nil) (.b (.b (.b (.b (.b (.b (.v (.bool b, vcM0_s5 k m t a s o) (.b .nil .nil)) .nil) .nil) .nil) .nil) .nil) (.b (.b (.b (.b (.b (.b (.v (.bool b, vcM0_s5 k m t a s o) (.b .nil .nil)) .nil) .nil) .nil) .nil) .nil) .nil)))) (.b (.b (.v (.slice none 0 (.known 0), vcM0_s0 k m t a s o) (.b (.v (.int .i64 (.ofNat 0), vcM0_s1 k m t a s o) (.b .nil .nil)) .nil)) (.b (.b (.b (.b (.b (.b (.v (.bool b, vcM0_s3 k m t a s o) (.b .nil .nil)) .nil) .nil) .nil) .nil) .nil) (.b (.b (.b (.b (.b (.b (.v (.bool b, vcM0_s5 k m t a s o) (.b .nil .nil)) .nil) .nil) .nil) .nil) .nil) (.b (.b (.b (.b (.b (.b (.v (.bool b, vcM0_s5 k m t a s o) (.b .nil .nil)) .nil) .nil) .nil) .nil) .nil) .nil)))) (.b (.v (.slice none 0 (.known 0), vcM0_s0 k m t a s o) .nil) (.b .nil (.b .nil (.b .nil .nil)))))) (.b (.v (.slice none 0 (.known 0), vcM0_s0 k m t a s o) .nil) (.b .nil (.b .nil (.b .nil .nil))))) := by kernel_rfl
noncomputable def vcM1_s0 (k m t a s : Int) (o : AO) : ASt := mkSt [(0, o), (1, .cells [.int .i64 k, .int .u64 m, .int .u64 t, .int .u64 a, .int .u64 s, .slice0] true), (2, .cells [.int .i64 k, .int .u64 m, .int .u64 t, .int .u64 (.ofNat 0), .int .u64 (.ofNat 0), .slice none 0 (.known 0)] true)] 11
noncomputable def vcM1_s1 (k m t a s : Int) (o : AO) : ASt := mkSt [(0, o), (1, .cells [.int .i64 k, .int .u64 m, .int .u64 t, .int .u64 a, .int .u64 s, .slice0] true), (2, .cells [.int .i64 k, .int .u64 m, .int .u64 t, .int .u64 (.ofNat 0), .int .u64 s, .slice0] true)] 11
noncomputable def vcM1_s2 : ASt := mkSt [] 11
noncomputable def vcM1_s3 (k m t a s : Int) (o : AO) : ASt := mkSt [(0, o), (1, .cells [.int .i64 k, .int .u64 m, .int .u64 t, .int .u64 a, .int .u64 s, .slice0] true), (2, .cells [.int .i64 k, .int .u64 m, .int .u64 t, .int .u64 a, .int .u64 (.ofNat 0), .slice none 0 (.known 0)] true), (3, .cells [.int .i64 k, .int .u64 m, .int .u64 t, .int .u64 a, .int .u64 s, .slice0] true), (4, .cells [.int .i64 k, .int .u64 m, .int .u64 t, .int .u64 a, .int .u64 (.ofNat 0), .slice none 0 (.known 0)] true)] 5
noncomputable def vcM1_s4 : ASt := mkSt [] 5
noncomputable def vcM1_s5 (k m t a s : Int) (o : AO) : ASt := mkSt [(0, o), (1, .cells [.int .i64 k, .int .u64 m, .int .u64 t, .int .u64 a, .int .u64 s, .slice0] true), (2, .cells [.int .i64 k, .int .u64 m, .int .u64 t, .int .u64 (.ofNat 0), .int .u64 (.ofNat 0), .slice none 0 (.known 0)] true), (3, .cells [.int .i64 k, .int .u64 m, .int .u64 t, .int .u64 a, .int .u64 s, .slice0] true), (4, .cells [.int .i64 k, .int .u64 m, .int .u64 t, .int .u64 (.ofNat 0), .int .u64 (.ofNat 0), .slice none 0 (.known 0)] true)] 5
noncomputable def vcM1_s6 : ASt := mkSt [] 3
theorem vcM1 (q : CallT) (k m t a s : Int) (o : AO) (n : Nat) (b : Bool) (Q : AV × ASt → Prop) :
  (ifB (!eqF m (.ofNat 0)) (ifB (!eqF t (.ofNat 0)) (ifB (eqF k (.ofNat 2)) (aLoad E 25 (.ptr (some (1, 5))) (vcM1_s0 k m t a s o) = some (.slice0, vcM1_s0 k m t a s o) ∧ holdsO [(some .slice0, .slice0)] ∧ ifB (ltF (.ofNat 0) s) (aBuiltinM E .len [25] [.slice0] (vcM1_s1 k m t a s o) = some (.int .i64 (.ofNat 0), vcM1_s1 k m t a s o) ∧ Q (.bool false, vcM1_s2)) (Q (.bool false, vcM1_s2))) (ifB (eqF k (.ofNat 3)) (ifB (eqF k k) (ifB (eqF m m) (ifB (eqF t t) (ifB (eqF a a) (ifB (eqF s (.ofNat 0)) ((M E (drawA E) (sm q) 45).call 65 [.slice0, .slice none 0 (.known 0)] (vcM1_s3 k m t a s o) = some (.bool b, vcM1_s3 k m t a s o) ∧ ifB b (Q (.bool true, vcM1_s4)) (Q (.bool false, vcM1_s4))) (Q (.bool false, vcM1_s4))) (Q (.bool false, vcM1_s4))) (Q (.bool false, vcM1_s4))) (Q (.bool false, vcM1_s4))) (Q (.bool false, vcM1_s4))) (ifB (eqF k (.ofNat 1)) (ifB (eqF k k) (ifB (eqF m m) (ifB (eqF t t) (ifB (eqF a (.ofNat 0)) (ifB (eqF s (.ofNat 0)) ((M E (drawA E) (sm q) 45).call 65 [.slice0, .slice none 0 (.known 0)] (vcM1_s5 k m t a s o) = some (.bool b, vcM1_s5 k m t a s o) ∧ ifB b (Q (.bool true, vcM1_s4)) (Q (.bool false, vcM1_s4))) (Q (.bool false, vcM1_s4))) (Q (.bool false, vcM1_s4))) (Q (.bool false, vcM1_s4))) (Q (.bool false, vcM1_s4))) (Q (.bool false, vcM1_s4))) (ifB (eqF k (.ofNat 4)) (ifB (eqF k k) (ifB (eqF m m) (ifB (eqF t t) (ifB (eqF a (.ofNat 0)) (ifB (eqF s (.ofNat 0)) ((M E (drawA E) (sm q) 45).call 65 [.slice0, .slice none 0 (.known 0)] (vcM1_s5 k m t a s o) = some (.bool b, vcM1_s5 k m t a s o) ∧ ifB b (Q (.bool true, vcM1_s4)) (Q (.bool false, vcM1_s4))) (Q (.bool false, vcM1_s4))) (Q (.bool false, vcM1_s4))) (Q (.bool false, vcM1_s4))) (Q (.bool false, vcM1_s4))) (Q (.bool false, vcM1_s4))) (Q (.bool false, vcM1_s6)))))) (ifB (eqF k (.ofNat 1)) (ifB (eqF k (.ofNat 2)) (aLoad E 25 (.ptr (some (1, 5))) (vcM1_s0 k m t a s o) = some (.slice0, vcM1_s0 k m t a s o) ∧ holdsO [(some .slice0, .slice0)] ∧ ifB (ltF (.ofNat 0) s) (aBuiltinM E .len [25] [.slice0] (vcM1_s1 k m t a s o) = some (.int .i64 (.ofNat 0), vcM1_s1 k m t a s o) ∧ Q (.bool false, vcM1_s2)) (Q (.bool false, vcM1_s2))) (ifB (eqF k (.ofNat 3)) (ifB (eqF k k) (ifB (eqF m m) (ifB (eqF t t) (ifB (eqF a a) (ifB (eqF s (.ofNat 0)) ((M E (drawA E) (sm q) 45).call 65 [.slice0, .slice none 0 (.known 0)] (vcM1_s3 k m t a s o) = some (.bool b, vcM1_s3 k m t a s o) ∧ ifB b (Q (.bool true, vcM1_s4)) (Q (.bool false, vcM1_s4))) (Q (.bool false, vcM1_s4))) (Q (.bool false, vcM1_s4))) (Q (.bool false, vcM1_s4))) (Q (.bool false, vcM1_s4))) (Q (.bool false, vcM1_s4))) (ifB (eqF k (.ofNat 1)) (ifB (eqF k k) (ifB (eqF m m) (ifB (eqF t t) (ifB (eqF a (.ofNat 0)) (ifB (eqF s (.ofNat 0)) ((M E (drawA E) (sm q) 45).call 65 [.slice0, .slice none 0 (.known 0)] (vcM1_s5 k m t a s o) = some (.bool b, vcM1_s5 k m t a s o) ∧ ifB b (Q (.bool true, vcM1_s4)) (Q (.bool false, vcM1_s4))) (Q (.bool false, vcM1_s4))) (Q (.bool false, vcM1_s4))) (Q (.bool false, vcM1_s4))) (Q (.bool false, vcM1_s4))) (Q (.bool false, vcM1_s4))) (ifB (eqF k (.ofNat 4)) (ifB (eqF k k) (ifB (eqF m m) (ifB (eqF t t) (ifB (eqF a (.ofNat 0)) (ifB (eqF s (.ofNat 0)) ((M E (drawA E) (sm q) 45).call 65 [.slice0, .slice none 0 (.known 0)] (vcM1_s5 k m t a s o) = some (.bool b, vcM1_s5 k m t a s o) ∧ ifB b (Q (.bool true, vcM1_s4)) (Q (.bool false, vcM1_s4))) (Q (.bool false, vcM1_s4))) (Q (.bool false, vcM1_s4))) (Q (.bool false, vcM1_s4))) (Q (.bool false, vcM1_s4))) (Q (.bool false, vcM1_s4))) (Q (.bool false, vcM1_s6)))))) (ifB (eqF k (.ofNat 2)) (aLoad E 25 (.ptr (some (1, 5))) (vcM1_s0 k m t a s o) = some (.slice0, vcM1_s0 k m t a s o) ∧ holdsO [(some .slice0, .slice0)] ∧ Q (.bool false, vcM1_s2)) (ifB (eqF k (.ofNat 3)) (Q (.bool false, vcM1_s6)) (ifB (eqF k (.ofNat 1)) (Q (.bool false, vcM1_s6)) (ifB (eqF k (.ofNat 4)) (Q (.bool false, vcM1_s6)) (Q (.bool false, vcM1_s6)))))))) (ifB (eqF k (.ofNat 2)) (aLoad E 25 (.ptr (some (1, 5))) (vcM1_s0 k m t a s o) = some (.slice0, vcM1_s0 k m t a s o) ∧ holdsO [(some .slice0, .slice0)] ∧ Q (.bool false, vcM1_s2)) (ifB (eqF k (.ofNat 3)) (Q (.bool false, vcM1_s6)) (ifB (eqF k (.ofNat 1)) (Q (.bool false, vcM1_s6)) (ifB (eqF k (.ofNat 4)) (Q (.bool false, vcM1_s6)) (Q (.bool false, vcM1_s6))))))) =
  (t581 q k m t a s o n b).allY (fun r => Q (r.1, canS [] r.2)) (.b (.b (.b (.v (.slice0, vcM1_s0 k m t a s o) (.b (.v (.int .i64 (.ofNat 0), vcM1_s1 k m t a s o) (.b .nil .nil)) .nil)) (.b (.b (.b (.b (.b (.b (.v (.bool b, vcM1_s3 k m t a s o) (.b .nil .nil)) .nil) .nil) .nil) .nil) .nil) (.b (.b (.b (.b (.b (.b (.v (.bool b, vcM1_s5 k m t a s o) (.b .nil .nil)) .nil) .nil) .nil) .nil) .nil) (.b (.b (.b (.b (.b (.b (.v (.bool b, vcM1_s5 k m t a s o) (.b .nil .nil)) .nil) .nil) .nil) .nil) .nil) .nil)))) (.b (.b (.v (.slice0, vcM1_s0 k m t a s o) (.b (.v (.int .i64 (.ofNat 0), vcM1_s1 k m t a s o) (.b .nil .nil)) .nil)) (.b (.b (.b (.b (.b (.b (.v (.bool b, vcM1_s3 k m t a s o) (.b .nil .nil)) .nil) .nil) .nil) .nil) .nil) (.b (.b (.b (.b (.b (.b (.v (.bool b, vcM1_s5 k m t a s o) (.b .nil .nil)) .nil) .nil) .nil) .nil) .nil) (.b (.b (.b (.b (.b (.b (.v (.bool b, vcM1_s5 k m t a s o) (.b .nil .nil)) .nil) .nil) .nil) .nil) .nil) .nil)))) (.b (.v (.slice0, vcM1_s0 k m t a s o) .nil) (.b .nil (.b .nil (.b .nil .nil)))))) (.b (.v (.slice0, vcM1_s0 k m t a s o) .nil) (.b .nil (.b .nil (.b .nil .nil))))) := by kernel_rfl
noncomputable def vcM2_s0 (k m t a s : Int) (o : AO) (n : Nat) : ASt := mkSt [(0, o), (1, .cells [.int .i64 k, .int .u64 m, .int .u64 t, .int .u64 a, .int .u64 s, .slice (some (0, 0)) n (.atl n)] true), (2, .cells [.int .i64 k, .int .u64 m, .int .u64 t, .int .u64 (.ofNat 0), .int .u64 (.ofNat 0), .slice none 0 (.known 0)] true)] 11
noncomputable def vcM2_s1 (k m t a s : Int) (o : AO) (n : Nat) : ASt := mkSt [(0, o), (1, .cells [.int .i64 k, .int .u64 m, .int .u64 t, .int .u64 a, .int .u64 s, .slice (some (0, 0)) n (.atl n)] true), (2, .cells [.int .i64 k, .int .u64 m, .int .u64 t, .int .u64 (.ofNat 0), .int .u64 s, .slice (some (0, 0)) n (.atl n)] true)] 11
noncomputable def vcM2_s2 (k m t a s : Int) (o : AO) (n : Nat) : ASt := mkSt [(0, o), (1, .cells [.int .i64 k, .int .u64 m, .int .u64 t, .int .u64 a, .int .u64 s, .slice (some (0, 0)) n (.atl n)] true), (2, .cells [.int .i64 k, .int .u64 m, .int .u64 t, .int .u64 a, .int .u64 s, .slice (some (0, 0)) n (.atl n)] true), (11, .cells [.int .i64 k, .int .u64 m, .int .u64 t, .int .u64 a, .int .u64 s, .slice (some (0, 0)) n (.atl n)] true), (12, .cells [.int .i64 k, .int .u64 m, .int .u64 t, .int .u64 a, .int .u64 s, .slice (some (0, 0)) n (.atl n)] true)] 13
noncomputable def vcM2_s3 : ASt := mkSt [] 13
noncomputable def vcM2_s4 : ASt := mkSt [] 11
noncomputable def vcM2_s5 (k m t a s : Int) (o : AO) (n : Nat) : ASt := mkSt [(0, o), (1, .cells [.int .i64 k, .int .u64 m, .int .u64 t, .int .u64 a, .int .u64 s, .slice (some (0, 0)) n (.atl n)] true), (2, .cells [.int .i64 k, .int .u64 m, .int .u64 t, .int .u64 a, .int .u64 (.ofNat 0), .slice none 0 (.known 0)] true), (3, .cells [.int .i64 k, .int .u64 m, .int .u64 t, .int .u64 a, .int .u64 s, .slice (some (0, 0)) n (.atl n)] true), (4, .cells [.int .i64 k, .int .u64 m, .int .u64 t, .int .u64 a, .int .u64 (.ofNat 0), .slice none 0 (.known 0)] true)] 5
noncomputable def vcM2_s6 : ASt := mkSt [] 5
noncomputable def vcM2_s7 (k m t a s : Int) (o : AO) (n : Nat) : ASt := mkSt [(0, o), (1, .cells [.int .i64 k, .int .u64 m, .int .u64 t, .int .u64 a, .int .u64 s, .slice (some (0, 0)) n (.atl n)] true), (2, .cells [.int .i64 k, .int .u64 m, .int .u64 t, .int .u64 (.ofNat 0), .int .u64 (.ofNat 0), .slice none 0 (.known 0)] true), (3, .cells [.int .i64 k, .int .u64 m, .int .u64 t, .int .u64 a, .int .u64 s, .slice (some (0, 0)) n (.atl n)] true), (4, .cells [.int .i64 k, .int .u64 m, .int .u64 t, .int .u64 (.ofNat 0), .int .u64 (.ofNat 0), .slice none 0 (.known 0)] true)] 5
noncomputable def vcM2_s8 : ASt := mkSt [] 3
theorem vcM2 (q : CallT) (k m t a s : Int) (o : AO) (n : Nat) (b : Bool) (Q : AV × ASt → Prop) :
  (ifB (!eqF m (.ofNat 0)) (ifB (!eqF t (.ofNat 0)) (ifB (eqF k (.ofNat 2)) (aLoad E 25 (.ptr (some (1, 5))) (vcM2_s0 k m t a s o n) = some (.slice (some (0, 0)) n (.atl n), vcM2_s0 k m t a s o n) ∧ holdsO [(some (.slice (some (0, 0)) n (.atl n)), .slice (some (0, 0)) n (.atl n))] ∧ ifB (ltF (.ofNat 0) s) (aBuiltinM E .len [25] [.slice (some (0, 0)) n (.atl n)] (vcM2_s1 k m t a s o n) = some (.int .i64 (.ofNat n), vcM2_s1 k m t a s o n) ∧ ifB (!ltF (.ofNat n) (.ofNat 1)) (aBuiltinM E .len [25] [.slice (some (0, 0)) n (.atl n)] (vcM2_s1 k m t a s o n) = some (.int .i64 (.ofNat n), vcM2_s1 k m t a s o n) ∧ ifB (!ltF (.ofNat 4000) (.ofNat n)) (ifB (eqF k k) (ifB (eqF m m) (ifB (eqF t t) (ifB (eqF a a) (ifB (eqF s s) ((M E (drawA E) (sm q) 45).call 65 [.slice (some (0, 0)) n (.atl n), .slice (some (0, 0)) n (.atl n)] (vcM2_s2 k m t a s o n) = some (.bool b, vcM2_s2 k m t a s o n) ∧ ifB b (Q (.bool true, vcM2_s3)) (Q (.bool false, vcM2_s3))) (Q (.bool false, vcM2_s3))) (Q (.bool false, vcM2_s3))) (Q (.bool false, vcM2_s3))) (Q (.bool false, vcM2_s3))) (Q (.bool false, vcM2_s3))) (Q (.bool false, vcM2_s4))) (Q (.bool false, vcM2_s4))) (Q (.bool false, vcM2_s4))) (ifB (eqF k (.ofNat 3)) (ifB (eqF k k) (ifB (eqF m m) (ifB (eqF t t) (ifB (eqF a a) (ifB (eqF s (.ofNat 0)) ((M E (drawA E) (sm q) 45).call 65 [.slice (some (0, 0)) n (.atl n), .slice none 0 (.known 0)] (vcM2_s5 k m t a s o n) = some (.bool b, vcM2_s5 k m t a s o n) ∧ ifB b (Q (.bool true, vcM2_s6)) (Q (.bool false, vcM2_s6))) (Q (.bool false, vcM2_s6))) (Q (.bool false, vcM2_s6))) (Q (.bool false, vcM2_s6))) (Q (.bool false, vcM2_s6))) (Q (.bool false, vcM2_s6))) (ifB (eqF k (.ofNat 1)) (ifB (eqF k k) (ifB (eqF m m) (ifB (eqF t t) (ifB (eqF a (.ofNat 0)) (ifB (eqF s (.ofNat 0)) ((M E (drawA E) (sm q) 45).call 65 [.slice (some (0, 0)) n (.atl n), .slice none 0 (.known 0)] (vcM2_s7 k m t a s o n) = some (.bool b, vcM2_s7 k m t a s o n) ∧ ifB b (Q (.bool true, vcM2_s6)) (Q (.bool false, vcM2_s6))) (Q (.bool false, vcM2_s6))) (Q (.bool false, vcM2_s6))) (Q (.bool false, vcM2_s6))) (Q (.bool false, vcM2_s6))) (Q (.bool false, vcM2_s6))) (ifB (eqF k (.ofNat 4)) (ifB (eqF k k) (ifB (eqF m m) (ifB (eqF t t) (ifB (eqF a (.ofNat 0)) (ifB (eqF s (.ofNat 0)) ((M E (drawA E) (sm q) 45).call 65 [.slice (some (0, 0)) n (.atl n), .slice none 0 (.known 0)] (vcM2_s7 k m t a s o n) = some (.bool b, vcM2_s7 k m t a s o n) ∧ ifB b (Q (.bool true, vcM2_s6)) (Q (.bool false, vcM2_s6))) (Q (.bool false, vcM2_s6))) (Q (.bool false, vcM2_s6))) (Q (.bool false, vcM2_s6))) (Q (.bool false, vcM2_s6))) (Q (.bool false, vcM2_s6))) (Q (.bool false, vcM2_s8)))))) (ifB (eqF k (.ofNat 1)) (ifB (eqF k (.ofNat 2)) (aLoad E 25 (.ptr (some (1, 5))) (vcM2_s0 k m t a s o n) = some (.slice (some (0, 0)) n (.atl n), vcM2_s0 k m t a s o n) ∧ holdsO [(some (.slice (some (0, 0)) n (.atl n)), .slice (some (0, 0)) n (.atl n))] ∧ ifB (ltF (.ofNat 0) s) (aBuiltinM E .len [25] [.slice (some (0, 0)) n (.atl n)] (vcM2_s1 k m t a s o n) = some (.int .i64 (.ofNat n), vcM2_s1 k m t a s o n) ∧ ifB (!ltF (.ofNat n) (.ofNat 1)) (aBuiltinM E .len [25] [.slice (some (0, 0)) n (.atl n)] (vcM2_s1 k m t a s o n) = some (.int .i64 (.ofNat n), vcM2_s1 k m t a s o n) ∧ ifB (!ltF (.ofNat 4000) (.ofNat n)) (ifB (eqF k k) (ifB (eqF m m) (ifB (eqF t t) (ifB (eqF a a) (ifB (eqF s s) ((M E (drawA E) (sm q) 45).call 65 [.slice (some (0, 0)) n (.atl n), .slice (some (0, 0)) n (.atl n)] (vcM2_s2 k m t a s o n) = some (.bool b, vcM2_s2 k m t a s o n) ∧ ifB b (Q (.bool true, vcM2_s3)) (Q (.bool false, vcM2_s3))) (Q (.bool false, vcM2_s3))) (Q (.bool false, vcM2_s3))) (Q (.bool false, vcM2_s3))) (Q (.bool false, vcM2_s3))) (Q (.bool false, vcM2_s3))) (Q (.bool false, vcM2_s4))) (Q (.bool false, vcM2_s4))) (Q (.bool false, vcM2_s4))) (ifB (eqF k (.ofNat 3)) (ifB (eqF k k) (ifB (eqF m m) (ifB (eqF t t) (ifB (eqF a a) (ifB (eqF s (.ofNat 0)) ((M E (drawA E) (sm q) 45).call 65 [.slice (some (0, 0)) n (.atl n), .slice none 0 (.known 0)] (vcM2_s5 k m t a s o n) = some (.bool b, vcM2_s5 k m t a s o n) ∧ ifB b (Q (.bool true, vcM2_s6)) (Q (.bool false, vcM2_s6))) (Q (.bool false, vcM2_s6))) (Q (.bool false, vcM2_s6))) (Q (.bool false, vcM2_s6))) (Q (.bool false, vcM2_s6))) (Q (.bool false, vcM2_s6))) (ifB (eqF k (.ofNat 1)) (ifB (eqF k k) (ifB (eqF m m) (ifB (eqF t t) (ifB (eqF a (.ofNat 0)) (ifB (eqF s (.ofNat 0)) ((M E (drawA E) (sm q) 45).call 65 [.slice (some (0, 0)) n (.atl n), .slice none 0 (.known 0)] (vcM2_s7 k m t a s o n) = some (.bool b, vcM2_s7 k m t a s o n) ∧ ifB b (Q (.bool true, vcM2_s6)) (Q (.bool false, vcM2_s6))) (Q (.bool false, vcM2_s6))) (Q (.bool false, vcM2_s6))) (Q (.bool false, vcM2_s6))) (Q (.bool false, vcM2_s6))) (Q (.bool false, vcM2_s6))) (ifB (eqF k (.ofNat 4)) (ifB (eqF k k) (ifB (eqF m m) (ifB (eqF t t) (ifB (eqF a (.ofNat 0)) (ifB (eqF s (.ofNat 0)) ((M E (drawA E) (sm q) 45).call 65 [.slice (some (0, 0)) n (.atl n), .slice none 0 (.known 0)] (vcM2_s7 k m t a s o n) = some (.bool b, vcM2_s7 k m t a s o n) ∧ ifB b (Q (.bool true, vcM2_s6)) (Q (.bool false, vcM2_s6))) (Q (.bool false, vcM2_s6))) (Q (.bool false, vcM2_s6))) (Q (.bool false, vcM2_s6))) (Q (.bool false, vcM2_s6))) (Q (.bool false, vcM2_s6))) (Q (.bool false, vcM2_s8)))))) (ifB (eqF k (.ofNat 2)) (aLoad E 25 (.ptr (some (1, 5))) (vcM2_s0 k m t a s o n) = some (.slice (some (0, 0)) n (.atl n), vcM2_s0 k m t a s o n) ∧ holdsO [(some (.slice (some (0, 0)) n (.atl n)), .slice (some (0, 0)) n (.atl n))] ∧ Q (.bool false, vcM2_s4)) (ifB (eqF k (.ofNat 3)) (Q (.bool false, vcM2_s8)) (ifB (eqF k (.ofNat 1)) (Q (.bool false, vcM2_s8)) (ifB (eqF k (.ofNat 4)) (Q (.bool false, vcM2_s8)) (Q (.bool false, vcM2_s8)))))))) (ifB (eqF k (.ofNat 2)) (aLoad E 25 (.ptr (some (1, 5))) (vcM2_s0 k m t a s o n) = some (.slice (some (0, 0)) n (.atl n), vcM2_s0 k m t a s o n) ∧ holdsO [(some (.slice (some (0, 0)) n (.atl n)), .slice (some (0, 0)) n (.atl n))] ∧ Q (.bool false, vcM2_s4)) (ifB (eqF k (.ofNat 3)) (Q (.bool false, vcM2_s8)) (ifB (eqF k (.ofNat 1)) (Q (.bool false, vcM2_s8)) (ifB (eqF k (.ofNat 4)) (Q (.bool false, vcM2_s8)) (Q (.bool false, vcM2_s8))))))) =
  (t582 q k m t a s o n b).allY (fun r => Q (r.1, canS [] r.2)) (.b (.b (.b (.v (.slice (some (0, 0)) n (.atl n), vcM2_s0 k m t a s o n) (.b (.v (.int .i64 (.ofNat n), vcM2_s1 k m t a s o n) (.b (.v (.int .i64 (.ofNat n), vcM2_s1 k m t a s o n) (.b (.b (.b (.b (.b (.b (.v (.bool b, vcM2_s2 k m t a s o n) (.b .nil .nil)) .nil) .nil) .nil) .nil) .nil) .nil)) .nil)) .nil)) (.b (.b (.b (.b (.b (.b (.v (.bool b, vcM2_s5 k m t a s o n) (.b .nil .nil)) .nil) .nil) .nil) .nil) .nil) (.b (.b (.b (.b (.b (.b (.v (.bool b, vcM2_s7 k m t a s o n) (.b .nil .nil)) .nil) .nil) .nil) .nil) .nil) (.b (.b (.b (.b (.b (.b (.v (.bool b, vcM2_s7 k m t a s o n) (.b .nil .nil)) .nil) .nil) .nil) .nil) .nil) .nil)))) (.b (.b (.v (.slice (some (0, 0)) n (.atl n), vcM2_s0 k m t a s o n) (.b (.v (.int .i64 (.ofNat n), vcM2_s1 k m t a s o n) (.b (.v (.int .i64 (.ofNat n), vcM2_s1 k m t a s o n) (.b (.b (.b (.b (.b (.b (.v (.bool b, vcM2_s2 k m t a s o n) (.b .nil .nil)) .nil) .nil) .nil) .nil) .nil) .nil)) .nil)) .nil)) (.b (.b (.b (.b (.b (.b (.v (.bool b, vcM2_s5 k m t a s o n) (.b .nil .nil)) .nil) .nil) .nil) .nil) .nil) (.b (.b (.b (.b (.b (.b (.v (.bool b, vcM2_s7 k m t a s o n) (.b .nil .nil)) .nil) .nil) .nil) .nil) .nil) (.b (.b (.b (.b (.b (.b (.v (.bool b, vcM2_s7 k m t a s o n) (.b .nil .nil)) .nil) .nil) .nil) .nil) .nil) .nil)))) (.b (.v (.slice (some (0, 0)) n (.atl n), vcM2_s0 k m t a s o n) .nil) (.b .nil (.b .nil (.b .nil .nil)))))) (.b (.v (.slice (some (0, 0)) n (.atl n), vcM2_s0 k m t a s o n) .nil) (.b .nil (.b .nil (.b .nil .nil))))) := by kernel_rfl
def mayB (k m t a s : Int) (n : Nat) : Bool :=
  bif eqF m (.ofNat 0) then false else bif (bif eqF t (.ofNat 0) then !eqF k (.ofNat 1) else false) then false else
  bif eqF k (.ofNat 2) then (bif ltF (.ofNat 0) s then (bif ltF (.ofNat n) (.ofNat 1) then false else !ltF (.ofNat 4000) (.ofNat n)) else false) else
  bif eqF k (.ofNat 3) then (bif eqF s (.ofNat 0) then Nat.beq n 0 else false) else
  bif eqF k (.ofNat 1) then (bif eqF a (.ofNat 0) then (bif eqF s (.ofNat 0) then Nat.beq n 0 else false) else false) else
  bif eqF k (.ofNat 4) then (bif eqF a (.ofNat 0) then (bif eqF s (.ofNat 0) then Nat.beq n 0 else false) else false) else false
theorem Eok : Env.Ok Try.prog E := envEx_ok (xs := []) ⟨⟨Try.func22, Try.call22⟩, ⟨Try.func58, Try.call58⟩, ⟨Try.func90, Try.call90⟩, ⟨Try.func78, Try.call78⟩, ⟨Try.func79, Try.call79⟩, ⟨Try.func37, Try.call37⟩, ⟨Try.func44, Try.call44⟩, ⟨Try.func38, Try.call38⟩, ⟨Try.func14, Try.call14⟩, ⟨Try.func47, Try.call47⟩, trivial⟩ trivial (by kernel_rfl)
theorem av2 (n : Nat) : avEq (v2 n) (v2 n) = true := by
  simp [avEq, v2, locEq, capEq]
theorem l01 : ltF (.ofNat 0) (.ofNat 1) = true := rfl
noncomputable def qE : CallT := eqC 65
theorem qE_ok : CallsOK Try.prog qE := eqC_ok fun h0 h1 hb => eqb.equal h0 h1 hb
theorem smE_ok : CallsOK Try.prog (sm qE) := onlyC_ok qE_ok
theorem sm_eq {S : ASt} {v w : AV} {a b : List Nat} {j : Nat} (h1 : SlB S v a) (h2 : SlB S w b) (h3 : a.length < 9223372036854775808) : (M E (drawA E) (sm qE) (j + 1)).call 65 [v, w] S = some (.bool (decide (a = b)), S) :=
  call_at (onlyC_at rfl (eqC_at h1 h2 h3))
theorem may0 (k m t a s : Int) : AtMem Try.prog 58 [pV k m t a s v0] (mkSt [(0, .dead)] 1) (.bool (mayB k m t a s 0)) := by
  have e : ∀ {S : ASt} {j : Nat}, (M E (drawA E) (sm qE) (j + 1)).call 65 [v0, v0] S = some (.bool true, S) := fun {S j} => sm_eq (a := []) (b := []) .nil .nil (by simp)
  refine AtMem.of_tm Eok smE_ok (Eq.mp (vcM0 qE k m t a s .dead 0 true (fun r => r.1 = .bool (mayB k m t a s 0))) ?_)
  repeat' (first | refine ifB_mk (fun h => ?_) (fun h => ?_) | refine And.intro ?_ ?_)
  all_goals first
    | exact e
    | (simp [holdsO]; done)
    | (refine congrArg AV.bool ?_; simp_all [mayB, eqF_self]; done)
    | (show avEq _ _ = true; rfl)
    | (refine congrArg AV.bool ?_; simp_all (config := { decide := true }) [mayB]; done)
    | (show aLoad _ _ _ _ = _; kernel_rfl)
    | (show aBuiltinM _ _ _ _ _ = _; kernel_rfl)
    | skip
theorem may1 (k m t a s : Int) : AtMem Try.prog 58 [pV k m t a s v1] (mkSt [(0, .dead)] 1) (.bool (mayB k m t a s 0)) := by
  have e : ∀ {S : ASt} {j : Nat}, (M E (drawA E) (sm qE) (j + 1)).call 65 [v1, v0] S = some (.bool true, S) := fun {S j} => sm_eq (a := []) (b := []) .zero .nil (by simp)
  refine AtMem.of_tm Eok smE_ok (Eq.mp (vcM1 qE k m t a s .dead 0 true (fun r => r.1 = .bool (mayB k m t a s 0))) ?_)
  repeat' (first | refine ifB_mk (fun h => ?_) (fun h => ?_) | refine And.intro ?_ ?_)
  all_goals first
    | exact e
    | (simp [holdsO]; done)
    | (refine congrArg AV.bool ?_; simp_all [mayB, eqF_self]; done)
    | (show avEq _ _ = true; rfl)
    | (refine congrArg AV.bool ?_; simp_all (config := { decide := true }) [mayB]; done)
    | (show aLoad _ _ _ _ = _; kernel_rfl)
    | (show aBuiltinM _ _ _ _ _ = _; kernel_rfl)
    | skip
theorem may2 (k m t a s : Int) {l : List Nat} (h0 : l ≠ []) (hb : l.length < 9223372036854775808) : AtMem Try.prog 58 [pV k m t a s (v2 l.length)] (mkSt [(0, .cells (l.map cellU) false)] 1) (.bool (mayB k m t a s l.length)) := by
  have n0 : Nat.beq l.length 0 = false := beq_f (by have := List.length_pos_iff.2 h0; omega)
  have n1 : ltF (.ofNat l.length) (.ofNat 1) = false := by rw [ltF_nn]; have := List.length_pos_iff.2 h0; simp; omega
  have sl : ∀ {S : ASt}, S.h.get 0 = some (.cells (l.map cellU) false) → SlB S (v2 l.length) l := fun {S} h => .row h takeU
  have e0 : ∀ {S : ASt} {j : Nat}, S.h.get 0 = some (.cells (l.map cellU) false) → (M E (drawA E) (sm qE) (j + 1)).call 65 [v2 l.length, v0] S = some (.bool false, S) := fun {S j} h => by
    exact (sm_eq (sl h) .nil hb).trans (by rw [decide_eq_false h0])
  have e2 : ∀ {S : ASt} {j : Nat}, S.h.get 0 = some (.cells (l.map cellU) false) → (M E (drawA E) (sm qE) (j + 1)).call 65 [v2 l.length, v2 l.length] S = some (.bool true, S) := fun {S j} h => by
    exact (sm_eq (sl h) (sl h) hb).trans (by rw [decide_eq_true rfl])
  by_cases hk : k = 2
  · have ek : eqF k (.ofNat 2) = true := by rw [eqF_eq]; simpa using hk
    have ek1 : eqF k (.ofNat 1) = false := by rw [eqF_eq]; simp; omega
    clear hk
    refine AtMem.of_tm Eok smE_ok (Eq.mp (vcM2 qE k m t a s (.cells (l.map cellU) false) l.length true (fun r => r.1 = .bool (mayB k m t a s l.length))) ?_)
    repeat' (first | refine ifB_mk (fun h => ?_) (fun h => ?_) | refine And.intro ?_ ?_)
    all_goals first
      | exact e2 (by kernel_rfl)
      | (exfalso; simp_all; done)
      | (simp [holdsO]; done)
      | (refine congrArg AV.bool ?_; simp_all [mayB, eqF_self]; done)
      | (show avEq _ _ = true; rfl)
      | exact av2 _
      | (show aLoad _ _ _ _ = _; kernel_rfl)
      | (show aBuiltinM _ _ _ _ _ = _; kernel_rfl)
      | skip
  · have ek : eqF k (.ofNat 2) = false := by rw [eqF_eq]; simpa using hk
    refine AtMem.of_tm Eok smE_ok (Eq.mp (vcM2 qE k m t a s (.cells (l.map cellU) false) l.length false (fun r => r.1 = .bool (mayB k m t a s l.length))) ?_)
    repeat' (first | refine ifB_mk (fun h => ?_) (fun h => ?_) | refine And.intro ?_ ?_)
    all_goals first
      | exact e0 (by kernel_rfl)
      | (exfalso; simp_all; done)
      | (simp; done)
      | (refine congrArg AV.bool ?_; simp_all [mayB, eqF_self]; done)
      | (show avEq _ _ = true; rfl)
      | exact av2 _
      | (show aLoad _ _ _ _ = _; kernel_rfl)
      | (show aBuiltinM _ _ _ _ _ = _; kernel_rfl)
      | skip
theorem may {S : ASt} {v : AV} {l : List Nat} (k m t a s : Int) (h : SlB S v l) (hb : l.length < 9223372036854775808) : Call1 Try.prog 58 [pV k m t a s v] S (.bool (mayB k m t a s l.length), S) := by
  obtain ⟨v1, o, r, A⟩ := h.ro 0
  have hc : v.isCell = true ∧ v1.isCell = true := by cases h <;> cases A <;> exact ⟨rfl, rfl⟩
  have hrun : AtMem Try.prog 58 [pV k m t a s v1] (mkSt [(0, o)] 1) (.bool (mayB k m t a s l.length)) := by
    cases A with
    | nil => exact may0 k m t a s
    | zero => exact may1 k m t a s
    | row h0 => exact may2 k m t a s h0 hb
  have ha : RoArg S 0 (pV k m t a s v) (pV k m t a s v1) o := RoArg.agg (pre := [.int .i64 k, .int .u64 m, .int .u64 t, .int .u64 a, .int .u64 s]) (post := []) r hc.1 hc.2 (fun c hc => by
    simp only [List.mem_cons, List.not_mem_nil, or_false] at hc
    rcases hc with rfl | rfl | rfl | rfl | rfl <;> simp [refsV]) (fun c hc => by cases hc)
  refine Call1.ro (os := [o]) hrun (by simp [refsV]) ⟨ha, trivial⟩ rfl fun j x hj => ?_
  have hg : (mkSt [(0, o)] 1).h.get j = if j = 0 then some o else none := by
    show ((T.e : T AO).set D 0 _).get j = _
    rw [T.get_set, T.get_e]
  rw [hg] at hj
  by_cases e0 : j = 0
  · subst e0; simpa using hj
  · simp [e0] at hj
end Go.Proofs.Ytlnohbilfogheaa.pkb
end
section
open Go Go.Ax Go.Proofs.Ytlnohbilfogheaa
namespace Go.Proofs.Ytlnohbilfogheaa.wri
set_option linter.unusedVariables false
noncomputable def fns : List (Nat × Func) := [(78, Try.f78), (79, Try.f79), (37, Try.f37), (44, Try.f44), (38, Try.f38), (14, Try.f14), (47, Try.f47)]
noncomputable def E : Env := envEx Try.prog [0, 3, 4, 5, 25, 28, 31, 33, 34, 61, 63, 89, 104] fns []
def fl0 : Fl := ⟨[], [], [], []⟩
def sl0 (n : Nat) : AV := .slice (some (0, 0)) n (.atl n)
noncomputable def flsB : List (Nat × Fl) := [(38, ⟨[6, 12], [14, 16], [7], []⟩), (37, ⟨[], [46], [20], []⟩), (44, ⟨[], [7], [], []⟩), (79, ⟨[31], [], [], []⟩)]
noncomputable def tB (L n : Nat) (R r1 r2 : List AV) (o : AO) : Tr (AV × ASt) := (TM E noSum flsB fl0 60).call 38 [.ptr (some (1, 0)), sl0 n] (mkSt [(0, o), (1, .cells [.slice (some (2, 0)) L (.rest 1), .bool false] true), (2, .cells R true)] 3)
noncomputable def vcB_s0 (L : Nat) (R : List AV) (o : AO) : ASt := mkSt [(0, o), (1, .cells [.slice (some (2, 0)) L (.rest 1), .bool false] true), (2, .cells R true)] 3
noncomputable def vcB_s1 (L : Nat) (R : List AV) (o : AO) : ASt := mkSt [(0, o), (1, .cells [.slice (some (2, 0)) L (.rest 1), .bool true] true), (2, .cells R true)] 3
noncomputable def vcB_s2 (L n : Nat) (R : List AV) (o : AO) : ASt := mkSt [(0, o), (1, .cells [.slice (some (2, 0)) L (.rest 1), .bool false] true), (2, .cells R true), (3, .cells [.int .u8 (wrapF .u8 (shrF (wrapF .u64 (.ofNat n)) 8)), .int .u8 (wrapF .u8 (shrF (wrapF .u64 (.ofNat n)) 0))] true)] 4
noncomputable def vcB_s3 (L n : Nat) (r1 : List AV) (o : AO) : ASt := mkSt [(0, o), (1, .cells [.slice (some (2, 0)) L (.rest 1), .bool false] true), (2, .dead), (3, .cells [.int .u8 (wrapF .u8 (shrF (wrapF .u64 (.ofNat n)) 8)), .int .u8 (wrapF .u8 (shrF (wrapF .u64 (.ofNat n)) 0))] true), (4, .cells r1 true)] 5
noncomputable def vcB_s4 (L n : Nat) (r1 : List AV) (o : AO) : ASt := mkSt [(0, o), (1, .cells [.slice (some (4, 0)) (L + 2) (.rest 1), .bool false] true), (2, .dead), (3, .cells [.int .u8 (wrapF .u8 (shrF (wrapF .u64 (.ofNat n)) 8)), .int .u8 (wrapF .u8 (shrF (wrapF .u64 (.ofNat n)) 0))] true), (4, .cells r1 true)] 5
noncomputable def vcB_s5 (L n : Nat) (r2 : List AV) (o : AO) : ASt := mkSt [(0, o), (1, .cells [.slice (some (4, 0)) (L + 2) (.rest 1), .bool false] true), (2, .dead), (3, .cells [.int .u8 (wrapF .u8 (shrF (wrapF .u64 (.ofNat n)) 8)), .int .u8 (wrapF .u8 (shrF (wrapF .u64 (.ofNat n)) 0))] true), (4, .dead), (5, .cells r2 true)] 6
noncomputable def vcB_s6 (L n : Nat) (r2 : List AV) (o : AO) : ASt := mkSt [(0, o), (1, .cells [.slice (some (5, 0)) (L + 2 + n) (.rest 1), .bool false] true), (2, .dead), (3, .cells [.int .u8 (wrapF .u8 (shrF (wrapF .u64 (.ofNat n)) 8)), .int .u8 (wrapF .u8 (shrF (wrapF .u64 (.ofNat n)) 0))] true), (4, .dead), (5, .cells r2 true)] 6
theorem vcB (L n : Nat) (R r1 r2 : List AV) (o : AO) (Q : AV × ASt → Prop) :
  (aBuiltinM E .len [25] [.slice (some (0, 0)) n (.atl n)] (vcB_s0 L R o) = some (.int .i64 (.ofNat n), vcB_s0 L R o) ∧ ifB (ltF (.ofNat 65535) (.ofNat n)) (Q (.ptr (some (1, 0)), vcB_s1 L R o)) (aBuiltinM E .len [25] [.slice (some (0, 0)) n (.atl n)] (vcB_s0 L R o) = some (.int .i64 (.ofNat n), vcB_s0 L R o) ∧ ifB (!eqF (shrF (wrapF .u64 (.ofNat n)) 16) (.ofNat 0)) (Q (.ptr (some (1, 0)), vcB_s1 L R o)) (aBuiltinM E .append [25, 25] [.slice (some (2, 0)) L (.rest 1), .slice (some (3, 0)) 2 (.known 2)] (vcB_s2 L n R o) = some (.slice (some (4, 0)) (L + 2) (.rest 1), vcB_s3 L n r1 o) ∧ aBuiltinM E .append [25, 25] [.slice (some (4, 0)) (L + 2) (.rest 1), .slice (some (0, 0)) n (.atl n)] (vcB_s4 L n r1 o) = some (.slice (some (5, 0)) (L + 2 + n) (.rest 1), vcB_s5 L n r2 o) ∧ Q (.ptr (some (1, 0)), vcB_s6 L n r2 o)))) =
  (tB L n R r1 r2 o).allY (fun r => Q (r.1, canS [0, 1, 2, 3, 4, 5] r.2)) (.v (.int .i64 (.ofNat n), vcB_s0 L R o) (.b .nil (.v (.int .i64 (.ofNat n), vcB_s0 L R o) (.b .nil (.v (.slice (some (4, 0)) (L + 2) (.rest 1), vcB_s3 L n r1 o) (.v (.slice (some (5, 0)) (L + 2 + n) (.rest 1), vcB_s5 L n r2 o) .nil)))))) := by kernel_rfl
theorem Eok : Env.Ok Try.prog E := envEx_ok (xs := []) ⟨⟨Try.func78, Try.call78⟩, ⟨Try.func79, Try.call79⟩, ⟨Try.func37, Try.call37⟩, ⟨Try.func44, Try.call44⟩, ⟨Try.func38, Try.call38⟩, ⟨Try.func14, Try.call14⟩, ⟨Try.func47, Try.call47⟩, trivial⟩ trivial (by kernel_rfl)
theorem ap25 : appT E 25 25 = some (1, 1) := by kernel_rfl
theorem sl25 : sliceT E 25 = some 1 := by kernel_rfl
theorem wrapU64 {m : Nat} (h : m < 18446744073709551616) : wrapF .u64 (.ofNat m) = .ofNat m := by
  have e : modN (.ofNat m) (big .u64) = m := Nat.mod_eq_of_lt h
  unfold wrapF
  have hb : Nat.blt (modN (.ofNat m) (big .u64)) (half .u64) = true := by rw [e]; exact blt_t h
  show (bif Nat.blt (modN (.ofNat m) (big .u64)) (half .u64) then Int.ofNat (modN (.ofNat m) (big .u64)) else _) = _
  rw [hb, e]; rfl
def two (n : Nat) : List AV := [AV.int IntKind.u8 (wrapF IntKind.u8 (shrF (wrapF IntKind.u64 (Int.ofNat n)) 8)), AV.int IntKind.u8 (wrapF IntKind.u8 (shrF (wrapF IntKind.u64 (Int.ofNat n)) 0))]
theorem two_refs (n : Nat) : ∀ c, c ∈ two n → refsV 0 c := fun c hc => by
  simp only [two, List.mem_cons, List.not_mem_nil, or_false] at hc
  rcases hc with rfl | rfl <;> simp [refsV]
section
variable {R : List AV} {l : List Nat}
noncomputable def stB (o : AO) (L n : Nat) (r1 r2 : List AV) : ASt := mkSt [(0, o), (1, AO.cells [AV.slice (some (5, 0)) (L + 2 + n) (Cap.rest 1), AV.bool false] true), (2, AO.dead), (3, AO.cells (two n) true), (4, AO.dead), (5, AO.cells r2 true)] 6
theorem blobRun (h0 : l ≠ []) (hb : l.length ≤ 65535) (hR : R.length < 1099511627776) (B : Prot) (w0 : World) (ι : Ren) (w : World) (args' : Array Value)
    (hsr : SR B w0 ι (mkSt [(0, .cells (l.map cellU) false), (1, .cells [.slice (some (2, 0)) R.length (.rest 1), .bool false] true), (2, .cells R true)] 3) w) (hv : VRs ι [.ptr (some (1, 0)), sl0 l.length] args') :
    (callFunc 38 args').run Try.prog w = .ok (.enter 38 args') w ∧ CallsIn Fence.wide 0 Try.prog 38 args' w fun e w' => ∃ v, v = (AV.ptr (some (1, 0)), stB (.cells (l.map cellU) false) R.length l.length (R ++ two l.length) ((R ++ two l.length) ++ l.map cellU)) ∧ Post B w0 ι v e w' := by
  have hn : 0 < l.length := List.length_pos_iff.2 h0
  refine run_of_tm Eok noSum_ok (Eq.mp (vcB R.length l.length R (R ++ two l.length) ((R ++ two l.length) ++ l.map cellU) (.cells (l.map cellU) false) (fun v => v = (AV.ptr (some (1, 0)), stB (.cells (l.map cellU) false) R.length l.length (R ++ two l.length) ((R ++ two l.length) ++ l.map cellU)))) ⟨(SlArg.row sl25 (cs := l.map cellU)).len _, ifB_mk (fun h => ?_) fun _ => ⟨(SlArg.row sl25 (cs := l.map cellU)).len _, ifB_mk (fun h => ?_) fun _ => ⟨?_, ?_, rfl⟩⟩⟩) B w0 ι w args' hsr hv
  · rw [ltF_nn] at h; simp at h; omega
  · rw [wrapU64 (by omega)] at h
    have e : shrF (.ofNat l.length) 16 = .ofNat 0 := by
      show Int.ofNat (l.length / 2 ^ 16) = _
      rw [show l.length / 2 ^ 16 = 0 from Nat.div_eq_of_lt (by omega)]
    rw [e] at h
    cases h
  · exact (append_grow_at (cs := R) (new := two l.length) ap25 (n := 2) (by kernel_rfl) (by kernel_rfl) (by kernel_rfl) (by omega) (by omega) (by omega) (by omega) (by omega)).trans (by kernel_rfl)
  · refine (append_grow_at (l := R.length + 2) (cs := R ++ two l.length) (new := l.map cellU) ap25 (n := l.length) (by kernel_rfl) (first_at (cs := l.map cellU) (rw := false) (by kernel_rfl) (by rw [Nat.mul_one]; exact takeU)) (by kernel_rfl) (by simp [two]) (by omega) (by omega) (by omega) (by omega)).trans (by kernel_rfl)
theorem blob {S : ASt} {i r i0 o0 : Nat} {c : Cap} {cs : List AV} {rw : Bool} (hi : S.h.get i = some (.cells [.slice (some (r, 0)) R.length (.rest 1), .bool false] true)) (hr : S.h.get r = some (.cells R true)) (hne : i ≠ r) (his : i < S.next) (hrs : r < S.next)
    (h2 : S.h.get i0 = some (.cells cs rw)) (h3 : takeL cs o0 l.length = some (l.map cellU)) (hni : i0 ≠ i) (hnr : i0 ≠ r) (hRp : ∀ x, x ∈ R → refsV 0 x)
    (h0 : l ≠ []) (hb : l.length ≤ 65535) (hR : R.length < 1099511627776) :
    Call1 Try.prog 38 [.ptr (some (i, 0)), .slice (some (i0, o0)) l.length c] S (.ptr (some (i, 0)), outS (gS [some (i0, o0, false), some (i, 0, true), some (r, 0, true)] S.next)
      [(1, .cells [.slice (some (S.next + 5, 0)) (R.length + 2 + l.length) (.rest 1), .bool false] true), (2, .dead), (5, .cells ((R ++ two l.length) ++ l.map cellU) true)] S (S.next + 6)) := by
  have hg : ∀ j, (mkSt [(0, AO.cells (l.map cellU) false), (1, .cells [.slice (some (2, 0)) R.length (.rest 1), .bool false] true), (2, .cells R true)] 3).h.get j =
      if j = 2 then some (.cells R true) else if j = 1 then some (.cells [.slice (some (2, 0)) R.length (.rest 1), .bool false] true) else if j = 0 then some (.cells (l.map cellU) false) else none := fun j => by
    show ((((T.e : T AO).set D 0 _).set D 1 _).set D 2 _).get j = _
    rw [T.get_set, T.get_set, T.get_set, T.get_e]
  have hg2 : ∀ {j x}, (mkSt [(0, AO.cells (l.map cellU) false), (1, .cells [.slice (some (2, 0)) R.length (.rest 1), .bool false] true), (2, .cells R true)] 3).h.get j = some x →
      (j = 0 ∧ x = .cells (l.map cellU) false) ∨ (j = 1 ∧ x = .cells [.slice (some (2, 0)) R.length (.rest 1), .bool false] true) ∨ (j = 2 ∧ x = .cells R true) := fun {j x} hj => by
    rw [hg] at hj
    by_cases e2 : j = 2
    · simp [e2] at hj; exact .inr (.inr ⟨e2, hj.symm⟩)
    · by_cases e1 : j = 1
      · simp [e1] at hj; exact .inr (.inl ⟨e1, hj.symm⟩)
      · by_cases e0 : j = 0
        · simp [e0] at hj; exact .inl ⟨e0, hj.symm⟩
        · simp [e2, e1, e0] at hj
  have slren : ∀ {ι : Ren} {x : Value}, VR ι (.slice (some (r, 0)) R.length (.rest 1)) x → VR (renS [some (i0, o0, false), some (i, 0, true), some (r, 0, true)] ι) (.slice (some (2, 0)) R.length (.rest 1)) x := fun {ι x} hx => by
    cases hx with
    | slice _ _ _ c' L _ hL hc hl => exact .slice 2 0 _ c' L _ (by simp [renS, hL, Loc.sh]) hc hl
  refine Call1.frame (fun B w0 ι w args' _ hsr hv => blobRun h0 hb hR B w0 ι w args' hsr hv) (src := [some (i0, o0, false), some (i, 0, true), some (r, 0, true)]) ⟨rfl, fun j i' o w hj => ?_, fun j x hj => ?_, fun j x hj hd => ?_, fun j j' x i1 o1 w1 o2 w2 hj ho s1 s2 => ?_⟩ (fun ι args' hv => ?_) (fun q hq => ?_)
  · match j, hj with
    | 0, hj => simp at hj; obtain ⟨rfl, rfl, rfl⟩ := hj; exact ⟨(fun h => by cases h), _, h2, by simp⟩
    | 1, hj => simp at hj; obtain ⟨rfl, rfl, rfl⟩ := hj; exact ⟨fun _ => rfl, _, hi, by simp⟩
    | 2, hj => simp at hj; obtain ⟨rfl, rfl, rfl⟩ := hj; exact ⟨fun _ => rfl, _, hr, by simp⟩
    | j + 3, hj => simp at hj
  · rcases hg2 hj with ⟨rfl, _⟩ | ⟨rfl, _⟩ | ⟨rfl, _⟩ <;> simp
  · rcases hg2 hj with ⟨rfl, rfl⟩ | ⟨rfl, rfl⟩ | ⟨rfl, rfl⟩
    · exact ⟨i0, o0, false, _, rfl, h2, by simp, (fun h => by cases h), fun ι L ob hx => row_sub hx (by simpa using h0) (by rw [List.length_map]; exact h3) (refU l)⟩
    · refine ⟨i, 0, true, _, rfl, hi, by simp, fun _ => ⟨rfl, rfl⟩, fun ι L ob ⟨c, e, lo, hi', q1, q2, q3, q4, q5, q6⟩ => ⟨c, e, lo, hi', q1, q2, q3, fun v hv => ?_, fun k y y' hy hy' => ?_, q6⟩⟩
      · simp at hv; rcases hv with rfl | rfl <;> rfl
      · match k, hy with
        | 0, hy => simp at hy; subst hy; exact slren (q5 0 _ y' rfl hy')
        | 1, hy => simp at hy; subst hy; exact (q5 1 _ y' rfl hy').noRef (by simp [refsV])
        | k + 2, hy => simp at hy
    · exact ⟨r, 0, true, _, rfl, hr, by simp, fun _ => ⟨rfl, rfl⟩, fun ι L ob ⟨c, e, lo, hi', q1, q2, q3, q4, q5, q6⟩ => ⟨c, e, lo, hi', q1, q2, q3, q4, fun k y y' hy hy' => (q5 k y y' hy hy').noRef (hRp y (List.mem_of_getElem? hy)), q6⟩⟩
  · rcases hg2 hj with ⟨rfl, rfl⟩ | ⟨rfl, rfl⟩ | ⟨rfl, rfl⟩
    · cases ho
    · simp at s1
      match j', s2 with
      | 0, s2 => simp at s2; exact absurd (s2.1.trans s1.1.symm) hni
      | 1, s2 => rfl
      | 2, s2 => simp at s2; exact absurd (s1.1.trans s2.1.symm) hne
      | j' + 3, s2 => simp at s2
    · simp at s1
      match j', s2 with
      | 0, s2 => simp at s2; exact absurd (s2.1.trans s1.1.symm) hnr
      | 1, s2 => simp at s2; exact absurd (s2.1.trans s1.1.symm) hne
      | 2, s2 => rfl
      | j' + 3, s2 => simp at s2
  · refine ⟨hv.size, fun k y y' hy hy' => ?_⟩
    match k, hy with
    | 0, hy =>
      simp at hy; subst hy
      cases hv.at_ 0 _ y' rfl hy' with
      | ptr _ _ L hL => exact .ptr 1 0 L (by simp [renS, hL, Loc.sh])
    | 1, hy =>
      simp at hy; subst hy
      cases hv.at_ 1 _ y' rfl hy' with
      | slice _ _ _ c' L _ hL hc hl =>
        have := VR.slice (ι := renS [some (i0, o0, false), some (i, 0, true), some (r, 0, true)] ι) 0 0 l.length c' (L.sh o0) (.atl l.length) (by simp [renS, hL]) hl hl
        simpa [Loc.sh, sl0] using this
    | k + 2, hy => simp at hy
  · subst hq
    refine ⟨BackV.eq (by simp [mapV, gS]), ⟨by show S.next + 6 ≤ S.next + 6; omega, by simp⟩, fun p hp => ?_, fun j x hj ho => ?_⟩
    · simp only [List.mem_cons, List.not_mem_nil, or_false] at hp
      rcases hp with rfl | rfl | rfl
      · refine ⟨by simp [gS]; omega, fun _ => ⟨_, by rw [hg]; simp; rfl, rfl⟩, .inr ⟨rfl, _, (by kernel_rfl : (stB (.cells (l.map cellU) false) R.length l.length (R ++ two l.length) ((R ++ two l.length) ++ l.map cellU)).h.get 1 = some (.cells [.slice (some (5, 0)) (R.length + 2 + l.length) (.rest 1), .bool false] true)), BackO.cells (by simp [mapVs, mapV, gS])⟩⟩
      · exact ⟨by simp [gS]; omega, fun _ => ⟨_, by rw [hg]; simp; rfl, rfl⟩, .inl rfl⟩
      · refine ⟨by simp [gS], fun h => absurd h (by simp), .inr ⟨rfl, _, (by kernel_rfl : (stB (.cells (l.map cellU) false) R.length l.length (R ++ two l.length) ((R ++ two l.length) ++ l.map cellU)).h.get 5 = some (.cells ((R ++ two l.length) ++ l.map cellU) true)), BackO.row fun c hc => ?_⟩⟩
        rcases List.mem_append.1 hc with hc | hc
        · rcases List.mem_append.1 hc with hc | hc
          · exact hRp c hc
          · exact two_refs _ c hc
        · exact refU l c hc
    · rcases hg2 hj with ⟨rfl, rfl⟩ | ⟨rfl, rfl⟩ | ⟨rfl, rfl⟩
      · cases ho
      · exact ⟨_, List.mem_cons_self, rfl⟩
      · exact ⟨_, List.mem_cons_of_mem _ List.mem_cons_self, rfl⟩
end
end Go.Proofs.Ytlnohbilfogheaa.wri
end
section
open Go Go.Ax Go.Proofs.Ytlnohbilfogheaa
namespace Go.Proofs.Ytlnohbilfogheaa.pky
set_option linter.unusedVariables false
noncomputable def fns : List (Nat × Func) := [(22, Try.f22), (58, Try.f58), (90, Try.f90), (78, Try.f78), (79, Try.f79), (37, Try.f37), (44, Try.f44), (38, Try.f38), (14, Try.f14), (47, Try.f47)]
noncomputable def E : Env := envEx Try.prog [0, 3, 4, 5, 25, 28, 31, 33, 34, 61, 63, 89, 104] fns []
def fl0 : Fl := ⟨[], [], [], []⟩
noncomputable def sm (q : CallT) : CallT := onlyC [38, 58, 59, 65] q
def cl (xs : Nat → Int) : List AV := (List.range 32).map fun i => .int .u8 (xs i)
noncomputable def pV (k m t a s : Int) (v : AV) : AV := .agg [.int .i64 k, .int .u64 m, .int .u64 t, .int .u64 a, .int .u64 s, v]
noncomputable def fls : List (Nat × Fl) := [(22, ⟨[9, 20, 46, 53, 56], [49], [], []⟩), (58, ⟨[37, 49, 55], [65], [14, 18, 22, 28, 30, 32, 33, 44, 50, 56], []⟩), (90, ⟨[43], [], [9, 15, 22, 29, 36, 43], []⟩), (38, ⟨[6, 12], [14, 16], [7], []⟩), (37, ⟨[], [], [20], []⟩), (44, ⟨[], [7], [], []⟩), (79, ⟨[31], [], [], []⟩), (14, ⟨[], [16], [], []⟩), (47, ⟨[7], [], [], []⟩)]
def v2 (n : Nat) : AV := .slice (some (0, 0)) n (.atl n)
noncomputable def fls1 : List (Nat × Fl) := [(22, ⟨[9, 20, 53], [], [], []⟩)]
noncomputable def tF (q : CallT) (k m t a s : Int) (v : AV) (o : AO) (n : Nat) (xs : Nat → Int) (w1 w2 w3 : AV) (r1 r2 r3 : List AV) : Tr (AV × ASt) := (TM E (sm q) fls fl0 60).call 22 [pV k m t a s v] (mkSt [(0, o)] 1)
noncomputable def t1 (q : CallT) (k m t a s : Int) (v : AV) (o : AO) (n : Nat) (xs : Nat → Int) (w1 w2 w3 : AV) (r1 r2 r3 : List AV) : Tr (AV × ASt) := (TM E (sm q) fls1 fl0 60).call 22 [pV (.ofNat 1) m t a s v] (mkSt [(0, o)] 1)
noncomputable def t3 (q : CallT) (k m t a s : Int) (v : AV) (o : AO) (n : Nat) (xs : Nat → Int) (w1 w2 w3 : AV) (r1 r2 r3 : List AV) : Tr (AV × ASt) := (TM E (sm q) fls1 fl0 60).call 22 [pV (.ofNat 3) m t a s v] (mkSt [(0, o)] 1)
noncomputable def t4 (q : CallT) (k m t a s : Int) (v : AV) (o : AO) (n : Nat) (xs : Nat → Int) (w1 w2 w3 : AV) (r1 r2 r3 : List AV) : Tr (AV × ASt) := (TM E (sm q) fls1 fl0 60).call 22 [pV (.ofNat 4) m t a s v] (mkSt [(0, o)] 1)
noncomputable def t2 (q : CallT) (k m t a s : Int) (v : AV) (o : AO) (n : Nat) (xs : Nat → Int) (w1 w2 w3 : AV) (r1 r2 r3 : List AV) : Tr (AV × ASt) := (TM E (sm q) fls fl0 60).call 22 [pV (.ofNat 2) m t a s (v2 n)] (mkSt [(0, o)] 1)
noncomputable def vcF_s0 (k m t a s : Int) (v : AV) (o : AO) : ASt := mkSt [(0, o), (1, .cells [.int .i64 k, .int .u64 m, .int .u64 t, .int .u64 a, .int .u64 s, v] true)] 2
noncomputable def vcF_s1 : ASt := mkSt [] 2
theorem vcF (q : CallT) (k m t a s : Int) (v : AV) (o : AO) (n : Nat) (xs : Nat → Int) (w1 w2 w3 : AV) (r1 r2 r3 : List AV) (Q : AV × ASt → Prop) :
  ((M E (drawA E) (sm q) 55).call 58 [.agg [.int .i64 k, .int .u64 m, .int .u64 t, .int .u64 a, .int .u64 s, v]] (vcF_s0 k m t a s v o) = some (.bool false, vcF_s0 k m t a s v o) ∧ Q (.tuple [.slice none 0 (.known 0), .int .i64 (.ofNat 2)], vcF_s1)) =
  (tF q k m t a s v o n xs w1 w2 w3 r1 r2 r3).allY (fun r => Q (r.1, canS [] r.2)) (.v (.bool false, vcF_s0 k m t a s v o) .nil) := by kernel_rfl
noncomputable def vc1_s0 (m t a s : Int) (v : AV) (o : AO) : ASt := mkSt [(0, o), (1, .cells [.int .i64 (.ofNat 1), .int .u64 m, .int .u64 t, .int .u64 a, .int .u64 s, v] true)] 2
noncomputable def vc1_s1 (m t a s : Int) (v : AV) (o : AO) : ASt := mkSt [(0, o), (1, .cells [.int .i64 (.ofNat 1), .int .u64 m, .int .u64 t, .int .u64 a, .int .u64 s, v] true), (2, .cells [.slice (some (19, 0)) 3 (.rest 1), .bool false] true), (3, .cells [.int .u8 (.ofNat 71), .int .u8 (.ofNat 80)] true), (17, .dead), (18, .cells [.int .u8 (.ofNat 1)] true), (19, .cells [.int .u8 (.ofNat 71), .int .u8 (.ofNat 80), .int .u8 (.ofNat 1)] true)] 20
noncomputable def vc1_s2 (m t a s : Int) (v : AV) (o : AO) : ASt := mkSt [(0, o), (1, .cells [.int .i64 (.ofNat 1), .int .u64 m, .int .u64 t, .int .u64 a, .int .u64 s, v] true), (2, .cells [.slice (some (23, 0)) 19 (.rest 1), .bool false] true), (3, .cells [.int .u8 (.ofNat 71), .int .u8 (.ofNat 80)] true), (17, .dead), (18, .cells [.int .u8 (.ofNat 1)] true), (19, .dead), (20, .cells [.int .u8 (wrapF .u8 (shrF m 56)), .int .u8 (wrapF .u8 (shrF m 48)), .int .u8 (wrapF .u8 (shrF m 40)), .int .u8 (wrapF .u8 (shrF m 32)), .int .u8 (wrapF .u8 (shrF m 24)), .int .u8 (wrapF .u8 (shrF m 16)), .int .u8 (wrapF .u8 (shrF m 8)), .int .u8 (wrapF .u8 (shrF m 0))] true), (21, .dead), (22, .cells [.int .u8 (wrapF .u8 (shrF t 56)), .int .u8 (wrapF .u8 (shrF t 48)), .int .u8 (wrapF .u8 (shrF t 40)), .int .u8 (wrapF .u8 (shrF t 32)), .int .u8 (wrapF .u8 (shrF t 24)), .int .u8 (wrapF .u8 (shrF t 16)), .int .u8 (wrapF .u8 (shrF t 8)), .int .u8 (wrapF .u8 (shrF t 0))] true), (23, .cells [.int .u8 (.ofNat 71), .int .u8 (.ofNat 80), .int .u8 (.ofNat 1), .int .u8 (wrapF .u8 (shrF m 56)), .int .u8 (wrapF .u8 (shrF m 48)), .int .u8 (wrapF .u8 (shrF m 40)), .int .u8 (wrapF .u8 (shrF m 32)), .int .u8 (wrapF .u8 (shrF m 24)), .int .u8 (wrapF .u8 (shrF m 16)), .int .u8 (wrapF .u8 (shrF m 8)), .int .u8 (wrapF .u8 (shrF m 0)), .int .u8 (wrapF .u8 (shrF t 56)), .int .u8 (wrapF .u8 (shrF t 48)), .int .u8 (wrapF .u8 (shrF t 40)), .int .u8 (wrapF .u8 (shrF t 32)), .int .u8 (wrapF .u8 (shrF t 24)), .int .u8 (wrapF .u8 (shrF t 16)), .int .u8 (wrapF .u8 (shrF t 8)), .int .u8 (wrapF .u8 (shrF t 0))] true), (24, .cells [] true), (25, .cells [.int .u8 (.ofNat 71), .int .u8 (.ofNat 80), .int .u8 (.ofNat 1), .int .u8 (wrapF .u8 (shrF m 56)), .int .u8 (wrapF .u8 (shrF m 48)), .int .u8 (wrapF .u8 (shrF m 40)), .int .u8 (wrapF .u8 (shrF m 32)), .int .u8 (wrapF .u8 (shrF m 24)), .int .u8 (wrapF .u8 (shrF m 16)), .int .u8 (wrapF .u8 (shrF m 8)), .int .u8 (wrapF .u8 (shrF m 0)), .int .u8 (wrapF .u8 (shrF t 56)), .int .u8 (wrapF .u8 (shrF t 48)), .int .u8 (wrapF .u8 (shrF t 40)), .int .u8 (wrapF .u8 (shrF t 32)), .int .u8 (wrapF .u8 (shrF t 24)), .int .u8 (wrapF .u8 (shrF t 16)), .int .u8 (wrapF .u8 (shrF t 8)), .int .u8 (wrapF .u8 (shrF t 0))] true)] 26
noncomputable def vc1_s3 (m t : Int) (xs : Nat → Int) : ASt := mkSt [(27, .cells [.int .u8 (.ofNat 71), .int .u8 (.ofNat 80), .int .u8 (.ofNat 1), .int .u8 (wrapF .u8 (shrF m 56)), .int .u8 (wrapF .u8 (shrF m 48)), .int .u8 (wrapF .u8 (shrF m 40)), .int .u8 (wrapF .u8 (shrF m 32)), .int .u8 (wrapF .u8 (shrF m 24)), .int .u8 (wrapF .u8 (shrF m 16)), .int .u8 (wrapF .u8 (shrF m 8)), .int .u8 (wrapF .u8 (shrF m 0)), .int .u8 (wrapF .u8 (shrF t 56)), .int .u8 (wrapF .u8 (shrF t 48)), .int .u8 (wrapF .u8 (shrF t 40)), .int .u8 (wrapF .u8 (shrF t 32)), .int .u8 (wrapF .u8 (shrF t 24)), .int .u8 (wrapF .u8 (shrF t 16)), .int .u8 (wrapF .u8 (shrF t 8)), .int .u8 (wrapF .u8 (shrF t 0)), .int .u8 (xs 0), .int .u8 (xs 1), .int .u8 (xs 2), .int .u8 (xs 3)] true)] 28
theorem vc1 (q : CallT) (k m t a s : Int) (v : AV) (o : AO) (n : Nat) (xs : Nat → Int) (w1 w2 w3 : AV) (r1 r2 r3 : List AV) (Q : AV × ASt → Prop) :
  ((M E (drawA E) (sm q) 55).call 58 [.agg [.int .i64 (.ofNat 1), .int .u64 m, .int .u64 t, .int .u64 a, .int .u64 s, v]] (vc1_s0 m t a s v o) = some (.bool true, vc1_s0 m t a s v o) ∧ aLoad E 28 (.ptr (some (1, 1))) (vc1_s1 m t a s v o) = some (.int .u64 m, vc1_s1 m t a s v o) ∧ holdsO [(some (.int .i64 (.ofNat 1)), .int .i64 (.ofNat 1)), (some (.int .u64 m), .int .u64 m), (some (.int .u64 m), .int .u64 m), (some (.int .u64 t), .int .u64 t), (some (.int .u64 t), .int .u64 t), (some (.int .u64 t), .int .u64 t)] ∧ (M E (drawA E) (sm q) 51).call 59 [.slice (some (25, 0)) 19 (.rest 1)] (vc1_s2 m t a s v o) = some (.agg (cl xs), vc1_s2 m t a s v o) ∧ Q (.tuple [.slice (some (27, 0)) 23 (.rest 1), .int .i64 (.ofNat 0)], vc1_s3 m t xs)) =
  (t1 q k m t a s v o n xs w1 w2 w3 r1 r2 r3).allY (fun r => Q (r.1, canS [27] r.2)) (.v (.bool true, vc1_s0 m t a s v o) (.v (.int .u64 m, vc1_s1 m t a s v o) (.v (.agg (cl xs), vc1_s2 m t a s v o) .nil))) := by kernel_rfl
noncomputable def vc3_s0 (m t a s : Int) (v : AV) (o : AO) : ASt := mkSt [(0, o), (1, .cells [.int .i64 (.ofNat 3), .int .u64 m, .int .u64 t, .int .u64 a, .int .u64 s, v] true)] 2
noncomputable def vc3_s1 (m t a s : Int) (v : AV) (o : AO) : ASt := mkSt [(0, o), (1, .cells [.int .i64 (.ofNat 3), .int .u64 m, .int .u64 t, .int .u64 a, .int .u64 s, v] true), (2, .cells [.slice (some (19, 0)) 3 (.rest 1), .bool false] true), (3, .cells [.int .u8 (.ofNat 71), .int .u8 (.ofNat 80)] true), (17, .dead), (18, .cells [.int .u8 (.ofNat 3)] true), (19, .cells [.int .u8 (.ofNat 71), .int .u8 (.ofNat 80), .int .u8 (.ofNat 3)] true)] 20
noncomputable def vc3_s2 (m t a s : Int) (v : AV) (o : AO) : ASt := mkSt [(0, o), (1, .cells [.int .i64 (.ofNat 3), .int .u64 m, .int .u64 t, .int .u64 a, .int .u64 s, v] true), (2, .cells [.slice (some (25, 0)) 27 (.rest 1), .bool false] true), (3, .cells [.int .u8 (.ofNat 71), .int .u8 (.ofNat 80)] true), (17, .dead), (18, .cells [.int .u8 (.ofNat 3)] true), (19, .dead), (20, .cells [.int .u8 (wrapF .u8 (shrF m 56)), .int .u8 (wrapF .u8 (shrF m 48)), .int .u8 (wrapF .u8 (shrF m 40)), .int .u8 (wrapF .u8 (shrF m 32)), .int .u8 (wrapF .u8 (shrF m 24)), .int .u8 (wrapF .u8 (shrF m 16)), .int .u8 (wrapF .u8 (shrF m 8)), .int .u8 (wrapF .u8 (shrF m 0))] true), (21, .dead), (22, .cells [.int .u8 (wrapF .u8 (shrF t 56)), .int .u8 (wrapF .u8 (shrF t 48)), .int .u8 (wrapF .u8 (shrF t 40)), .int .u8 (wrapF .u8 (shrF t 32)), .int .u8 (wrapF .u8 (shrF t 24)), .int .u8 (wrapF .u8 (shrF t 16)), .int .u8 (wrapF .u8 (shrF t 8)), .int .u8 (wrapF .u8 (shrF t 0))] true), (23, .dead), (24, .cells [.int .u8 (wrapF .u8 (shrF a 56)), .int .u8 (wrapF .u8 (shrF a 48)), .int .u8 (wrapF .u8 (shrF a 40)), .int .u8 (wrapF .u8 (shrF a 32)), .int .u8 (wrapF .u8 (shrF a 24)), .int .u8 (wrapF .u8 (shrF a 16)), .int .u8 (wrapF .u8 (shrF a 8)), .int .u8 (wrapF .u8 (shrF a 0))] true), (25, .cells [.int .u8 (.ofNat 71), .int .u8 (.ofNat 80), .int .u8 (.ofNat 3), .int .u8 (wrapF .u8 (shrF m 56)), .int .u8 (wrapF .u8 (shrF m 48)), .int .u8 (wrapF .u8 (shrF m 40)), .int .u8 (wrapF .u8 (shrF m 32)), .int .u8 (wrapF .u8 (shrF m 24)), .int .u8 (wrapF .u8 (shrF m 16)), .int .u8 (wrapF .u8 (shrF m 8)), .int .u8 (wrapF .u8 (shrF m 0)), .int .u8 (wrapF .u8 (shrF t 56)), .int .u8 (wrapF .u8 (shrF t 48)), .int .u8 (wrapF .u8 (shrF t 40)), .int .u8 (wrapF .u8 (shrF t 32)), .int .u8 (wrapF .u8 (shrF t 24)), .int .u8 (wrapF .u8 (shrF t 16)), .int .u8 (wrapF .u8 (shrF t 8)), .int .u8 (wrapF .u8 (shrF t 0)), .int .u8 (wrapF .u8 (shrF a 56)), .int .u8 (wrapF .u8 (shrF a 48)), .int .u8 (wrapF .u8 (shrF a 40)), .int .u8 (wrapF .u8 (shrF a 32)), .int .u8 (wrapF .u8 (shrF a 24)), .int .u8 (wrapF .u8 (shrF a 16)), .int .u8 (wrapF .u8 (shrF a 8)), .int .u8 (wrapF .u8 (shrF a 0))] true), (26, .cells [] true), (27, .cells [.int .u8 (.ofNat 71), .int .u8 (.ofNat 80), .int .u8 (.ofNat 3), .int .u8 (wrapF .u8 (shrF m 56)), .int .u8 (wrapF .u8 (shrF m 48)), .int .u8 (wrapF .u8 (shrF m 40)), .int .u8 (wrapF .u8 (shrF m 32)), .int .u8 (wrapF .u8 (shrF m 24)), .int .u8 (wrapF .u8 (shrF m 16)), .int .u8 (wrapF .u8 (shrF m 8)), .int .u8 (wrapF .u8 (shrF m 0)), .int .u8 (wrapF .u8 (shrF t 56)), .int .u8 (wrapF .u8 (shrF t 48)), .int .u8 (wrapF .u8 (shrF t 40)), .int .u8 (wrapF .u8 (shrF t 32)), .int .u8 (wrapF .u8 (shrF t 24)), .int .u8 (wrapF .u8 (shrF t 16)), .int .u8 (wrapF .u8 (shrF t 8)), .int .u8 (wrapF .u8 (shrF t 0)), .int .u8 (wrapF .u8 (shrF a 56)), .int .u8 (wrapF .u8 (shrF a 48)), .int .u8 (wrapF .u8 (shrF a 40)), .int .u8 (wrapF .u8 (shrF a 32)), .int .u8 (wrapF .u8 (shrF a 24)), .int .u8 (wrapF .u8 (shrF a 16)), .int .u8 (wrapF .u8 (shrF a 8)), .int .u8 (wrapF .u8 (shrF a 0))] true)] 28
noncomputable def vc3_s3 (m t a : Int) (xs : Nat → Int) : ASt := mkSt [(29, .cells [.int .u8 (.ofNat 71), .int .u8 (.ofNat 80), .int .u8 (.ofNat 3), .int .u8 (wrapF .u8 (shrF m 56)), .int .u8 (wrapF .u8 (shrF m 48)), .int .u8 (wrapF .u8 (shrF m 40)), .int .u8 (wrapF .u8 (shrF m 32)), .int .u8 (wrapF .u8 (shrF m 24)), .int .u8 (wrapF .u8 (shrF m 16)), .int .u8 (wrapF .u8 (shrF m 8)), .int .u8 (wrapF .u8 (shrF m 0)), .int .u8 (wrapF .u8 (shrF t 56)), .int .u8 (wrapF .u8 (shrF t 48)), .int .u8 (wrapF .u8 (shrF t 40)), .int .u8 (wrapF .u8 (shrF t 32)), .int .u8 (wrapF .u8 (shrF t 24)), .int .u8 (wrapF .u8 (shrF t 16)), .int .u8 (wrapF .u8 (shrF t 8)), .int .u8 (wrapF .u8 (shrF t 0)), .int .u8 (wrapF .u8 (shrF a 56)), .int .u8 (wrapF .u8 (shrF a 48)), .int .u8 (wrapF .u8 (shrF a 40)), .int .u8 (wrapF .u8 (shrF a 32)), .int .u8 (wrapF .u8 (shrF a 24)), .int .u8 (wrapF .u8 (shrF a 16)), .int .u8 (wrapF .u8 (shrF a 8)), .int .u8 (wrapF .u8 (shrF a 0)), .int .u8 (xs 0), .int .u8 (xs 1), .int .u8 (xs 2), .int .u8 (xs 3)] true)] 30
theorem vc3 (q : CallT) (k m t a s : Int) (v : AV) (o : AO) (n : Nat) (xs : Nat → Int) (w1 w2 w3 : AV) (r1 r2 r3 : List AV) (Q : AV × ASt → Prop) :
  ((M E (drawA E) (sm q) 55).call 58 [.agg [.int .i64 (.ofNat 3), .int .u64 m, .int .u64 t, .int .u64 a, .int .u64 s, v]] (vc3_s0 m t a s v o) = some (.bool true, vc3_s0 m t a s v o) ∧ aLoad E 28 (.ptr (some (1, 1))) (vc3_s1 m t a s v o) = some (.int .u64 m, vc3_s1 m t a s v o) ∧ holdsO [(some (.int .i64 (.ofNat 3)), .int .i64 (.ofNat 3)), (some (.int .u64 m), .int .u64 m), (some (.int .u64 m), .int .u64 m), (some (.int .u64 t), .int .u64 t), (some (.int .u64 t), .int .u64 t), (some (.int .u64 t), .int .u64 t)] ∧ (M E (drawA E) (sm q) 51).call 59 [.slice (some (27, 0)) 27 (.rest 1)] (vc3_s2 m t a s v o) = some (.agg (cl xs), vc3_s2 m t a s v o) ∧ Q (.tuple [.slice (some (29, 0)) 31 (.rest 1), .int .i64 (.ofNat 0)], vc3_s3 m t a xs)) =
  (t3 q k m t a s v o n xs w1 w2 w3 r1 r2 r3).allY (fun r => Q (r.1, canS [29] r.2)) (.v (.bool true, vc3_s0 m t a s v o) (.v (.int .u64 m, vc3_s1 m t a s v o) (.v (.agg (cl xs), vc3_s2 m t a s v o) .nil))) := by kernel_rfl
noncomputable def vc4_s0 (m t a s : Int) (v : AV) (o : AO) : ASt := mkSt [(0, o), (1, .cells [.int .i64 (.ofNat 4), .int .u64 m, .int .u64 t, .int .u64 a, .int .u64 s, v] true)] 2
noncomputable def vc4_s1 (m t a s : Int) (v : AV) (o : AO) : ASt := mkSt [(0, o), (1, .cells [.int .i64 (.ofNat 4), .int .u64 m, .int .u64 t, .int .u64 a, .int .u64 s, v] true), (2, .cells [.slice (some (19, 0)) 3 (.rest 1), .bool false] true), (3, .cells [.int .u8 (.ofNat 71), .int .u8 (.ofNat 80)] true), (17, .dead), (18, .cells [.int .u8 (.ofNat 4)] true), (19, .cells [.int .u8 (.ofNat 71), .int .u8 (.ofNat 80), .int .u8 (.ofNat 4)] true)] 20
noncomputable def vc4_s2 (m t a s : Int) (v : AV) (o : AO) : ASt := mkSt [(0, o), (1, .cells [.int .i64 (.ofNat 4), .int .u64 m, .int .u64 t, .int .u64 a, .int .u64 s, v] true), (2, .cells [.slice (some (23, 0)) 19 (.rest 1), .bool false] true), (3, .cells [.int .u8 (.ofNat 71), .int .u8 (.ofNat 80)] true), (17, .dead), (18, .cells [.int .u8 (.ofNat 4)] true), (19, .dead), (20, .cells [.int .u8 (wrapF .u8 (shrF m 56)), .int .u8 (wrapF .u8 (shrF m 48)), .int .u8 (wrapF .u8 (shrF m 40)), .int .u8 (wrapF .u8 (shrF m 32)), .int .u8 (wrapF .u8 (shrF m 24)), .int .u8 (wrapF .u8 (shrF m 16)), .int .u8 (wrapF .u8 (shrF m 8)), .int .u8 (wrapF .u8 (shrF m 0))] true), (21, .dead), (22, .cells [.int .u8 (wrapF .u8 (shrF t 56)), .int .u8 (wrapF .u8 (shrF t 48)), .int .u8 (wrapF .u8 (shrF t 40)), .int .u8 (wrapF .u8 (shrF t 32)), .int .u8 (wrapF .u8 (shrF t 24)), .int .u8 (wrapF .u8 (shrF t 16)), .int .u8 (wrapF .u8 (shrF t 8)), .int .u8 (wrapF .u8 (shrF t 0))] true), (23, .cells [.int .u8 (.ofNat 71), .int .u8 (.ofNat 80), .int .u8 (.ofNat 4), .int .u8 (wrapF .u8 (shrF m 56)), .int .u8 (wrapF .u8 (shrF m 48)), .int .u8 (wrapF .u8 (shrF m 40)), .int .u8 (wrapF .u8 (shrF m 32)), .int .u8 (wrapF .u8 (shrF m 24)), .int .u8 (wrapF .u8 (shrF m 16)), .int .u8 (wrapF .u8 (shrF m 8)), .int .u8 (wrapF .u8 (shrF m 0)), .int .u8 (wrapF .u8 (shrF t 56)), .int .u8 (wrapF .u8 (shrF t 48)), .int .u8 (wrapF .u8 (shrF t 40)), .int .u8 (wrapF .u8 (shrF t 32)), .int .u8 (wrapF .u8 (shrF t 24)), .int .u8 (wrapF .u8 (shrF t 16)), .int .u8 (wrapF .u8 (shrF t 8)), .int .u8 (wrapF .u8 (shrF t 0))] true), (24, .cells [] true), (25, .cells [.int .u8 (.ofNat 71), .int .u8 (.ofNat 80), .int .u8 (.ofNat 4), .int .u8 (wrapF .u8 (shrF m 56)), .int .u8 (wrapF .u8 (shrF m 48)), .int .u8 (wrapF .u8 (shrF m 40)), .int .u8 (wrapF .u8 (shrF m 32)), .int .u8 (wrapF .u8 (shrF m 24)), .int .u8 (wrapF .u8 (shrF m 16)), .int .u8 (wrapF .u8 (shrF m 8)), .int .u8 (wrapF .u8 (shrF m 0)), .int .u8 (wrapF .u8 (shrF t 56)), .int .u8 (wrapF .u8 (shrF t 48)), .int .u8 (wrapF .u8 (shrF t 40)), .int .u8 (wrapF .u8 (shrF t 32)), .int .u8 (wrapF .u8 (shrF t 24)), .int .u8 (wrapF .u8 (shrF t 16)), .int .u8 (wrapF .u8 (shrF t 8)), .int .u8 (wrapF .u8 (shrF t 0))] true)] 26
noncomputable def vc4_s3 (m t : Int) (xs : Nat → Int) : ASt := mkSt [(27, .cells [.int .u8 (.ofNat 71), .int .u8 (.ofNat 80), .int .u8 (.ofNat 4), .int .u8 (wrapF .u8 (shrF m 56)), .int .u8 (wrapF .u8 (shrF m 48)), .int .u8 (wrapF .u8 (shrF m 40)), .int .u8 (wrapF .u8 (shrF m 32)), .int .u8 (wrapF .u8 (shrF m 24)), .int .u8 (wrapF .u8 (shrF m 16)), .int .u8 (wrapF .u8 (shrF m 8)), .int .u8 (wrapF .u8 (shrF m 0)), .int .u8 (wrapF .u8 (shrF t 56)), .int .u8 (wrapF .u8 (shrF t 48)), .int .u8 (wrapF .u8 (shrF t 40)), .int .u8 (wrapF .u8 (shrF t 32)), .int .u8 (wrapF .u8 (shrF t 24)), .int .u8 (wrapF .u8 (shrF t 16)), .int .u8 (wrapF .u8 (shrF t 8)), .int .u8 (wrapF .u8 (shrF t 0)), .int .u8 (xs 0), .int .u8 (xs 1), .int .u8 (xs 2), .int .u8 (xs 3)] true)] 28
theorem vc4 (q : CallT) (k m t a s : Int) (v : AV) (o : AO) (n : Nat) (xs : Nat → Int) (w1 w2 w3 : AV) (r1 r2 r3 : List AV) (Q : AV × ASt → Prop) :
  ((M E (drawA E) (sm q) 55).call 58 [.agg [.int .i64 (.ofNat 4), .int .u64 m, .int .u64 t, .int .u64 a, .int .u64 s, v]] (vc4_s0 m t a s v o) = some (.bool true, vc4_s0 m t a s v o) ∧ aLoad E 28 (.ptr (some (1, 1))) (vc4_s1 m t a s v o) = some (.int .u64 m, vc4_s1 m t a s v o) ∧ holdsO [(some (.int .i64 (.ofNat 4)), .int .i64 (.ofNat 4)), (some (.int .u64 m), .int .u64 m), (some (.int .u64 m), .int .u64 m), (some (.int .u64 t), .int .u64 t), (some (.int .u64 t), .int .u64 t), (some (.int .u64 t), .int .u64 t)] ∧ (M E (drawA E) (sm q) 51).call 59 [.slice (some (25, 0)) 19 (.rest 1)] (vc4_s2 m t a s v o) = some (.agg (cl xs), vc4_s2 m t a s v o) ∧ Q (.tuple [.slice (some (27, 0)) 23 (.rest 1), .int .i64 (.ofNat 0)], vc4_s3 m t xs)) =
  (t4 q k m t a s v o n xs w1 w2 w3 r1 r2 r3).allY (fun r => Q (r.1, canS [27] r.2)) (.v (.bool true, vc4_s0 m t a s v o) (.v (.int .u64 m, vc4_s1 m t a s v o) (.v (.agg (cl xs), vc4_s2 m t a s v o) .nil))) := by kernel_rfl
noncomputable def vc2_s0 (m t a s : Int) (o : AO) (n : Nat) : ASt := mkSt [(0, o), (1, .cells [.int .i64 (.ofNat 2), .int .u64 m, .int .u64 t, .int .u64 a, .int .u64 s, .slice (some (0, 0)) n (.atl n)] true)] 2
noncomputable def vc2_s1 (m t a s : Int) (o : AO) (n : Nat) : ASt := mkSt [(0, o), (1, .cells [.int .i64 (.ofNat 2), .int .u64 m, .int .u64 t, .int .u64 a, .int .u64 s, .slice (some (0, 0)) n (.atl n)] true), (2, .cells [.slice (some (19, 0)) 3 (.rest 1), .bool false] true), (3, .cells [.int .u8 (.ofNat 71), .int .u8 (.ofNat 80)] true), (17, .dead), (18, .cells [.int .u8 (.ofNat 2)] true), (19, .cells [.int .u8 (.ofNat 71), .int .u8 (.ofNat 80), .int .u8 (.ofNat 2)] true)] 20
noncomputable def vc2_s2 (m t a s : Int) (o : AO) (n : Nat) : ASt := mkSt [(0, o), (1, .cells [.int .i64 (.ofNat 2), .int .u64 m, .int .u64 t, .int .u64 a, .int .u64 s, .slice (some (0, 0)) n (.atl n)] true), (2, .cells [.slice (some (34, 0)) 35 (.rest 1), .bool false] true), (3, .cells [.int .u8 (.ofNat 71), .int .u8 (.ofNat 80)] true), (17, .dead), (18, .cells [.int .u8 (.ofNat 2)] true), (19, .dead), (20, .cells [.int .u8 (wrapF .u8 (shrF m 56)), .int .u8 (wrapF .u8 (shrF m 48)), .int .u8 (wrapF .u8 (shrF m 40)), .int .u8 (wrapF .u8 (shrF m 32)), .int .u8 (wrapF .u8 (shrF m 24)), .int .u8 (wrapF .u8 (shrF m 16)), .int .u8 (wrapF .u8 (shrF m 8)), .int .u8 (wrapF .u8 (shrF m 0))] true), (21, .dead), (22, .cells [.int .u8 (wrapF .u8 (shrF t 56)), .int .u8 (wrapF .u8 (shrF t 48)), .int .u8 (wrapF .u8 (shrF t 40)), .int .u8 (wrapF .u8 (shrF t 32)), .int .u8 (wrapF .u8 (shrF t 24)), .int .u8 (wrapF .u8 (shrF t 16)), .int .u8 (wrapF .u8 (shrF t 8)), .int .u8 (wrapF .u8 (shrF t 0))] true), (23, .dead), (24, .cells [.int .u8 (wrapF .u8 (shrF a 56)), .int .u8 (wrapF .u8 (shrF a 48)), .int .u8 (wrapF .u8 (shrF a 40)), .int .u8 (wrapF .u8 (shrF a 32)), .int .u8 (wrapF .u8 (shrF a 24)), .int .u8 (wrapF .u8 (shrF a 16)), .int .u8 (wrapF .u8 (shrF a 8)), .int .u8 (wrapF .u8 (shrF a 0))] true), (25, .dead), (33, .cells [.int .u8 (wrapF .u8 (shrF s 56)), .int .u8 (wrapF .u8 (shrF s 48)), .int .u8 (wrapF .u8 (shrF s 40)), .int .u8 (wrapF .u8 (shrF s 32)), .int .u8 (wrapF .u8 (shrF s 24)), .int .u8 (wrapF .u8 (shrF s 16)), .int .u8 (wrapF .u8 (shrF s 8)), .int .u8 (wrapF .u8 (shrF s 0))] true), (34, .cells [.int .u8 (.ofNat 71), .int .u8 (.ofNat 80), .int .u8 (.ofNat 2), .int .u8 (wrapF .u8 (shrF m 56)), .int .u8 (wrapF .u8 (shrF m 48)), .int .u8 (wrapF .u8 (shrF m 40)), .int .u8 (wrapF .u8 (shrF m 32)), .int .u8 (wrapF .u8 (shrF m 24)), .int .u8 (wrapF .u8 (shrF m 16)), .int .u8 (wrapF .u8 (shrF m 8)), .int .u8 (wrapF .u8 (shrF m 0)), .int .u8 (wrapF .u8 (shrF t 56)), .int .u8 (wrapF .u8 (shrF t 48)), .int .u8 (wrapF .u8 (shrF t 40)), .int .u8 (wrapF .u8 (shrF t 32)), .int .u8 (wrapF .u8 (shrF t 24)), .int .u8 (wrapF .u8 (shrF t 16)), .int .u8 (wrapF .u8 (shrF t 8)), .int .u8 (wrapF .u8 (shrF t 0)), .int .u8 (wrapF .u8 (shrF a 56)), .int .u8 (wrapF .u8 (shrF a 48)), .int .u8 (wrapF .u8 (shrF a 40)), .int .u8 (wrapF .u8 (shrF a 32)), .int .u8 (wrapF .u8 (shrF a 24)), .int .u8 (wrapF .u8 (shrF a 16)), .int .u8 (wrapF .u8 (shrF a 8)), .int .u8 (wrapF .u8 (shrF a 0)), .int .u8 (wrapF .u8 (shrF s 56)), .int .u8 (wrapF .u8 (shrF s 48)), .int .u8 (wrapF .u8 (shrF s 40)), .int .u8 (wrapF .u8 (shrF s 32)), .int .u8 (wrapF .u8 (shrF s 24)), .int .u8 (wrapF .u8 (shrF s 16)), .int .u8 (wrapF .u8 (shrF s 8)), .int .u8 (wrapF .u8 (shrF s 0))] true)] 35
noncomputable def vc2_s3 (m t a s : Int) (o : AO) (n : Nat) (r1 : List AV) : ASt := mkSt [(0, o), (1, .cells [.int .i64 (.ofNat 2), .int .u64 m, .int .u64 t, .int .u64 a, .int .u64 s, .slice (some (0, 0)) n (.atl n)] true), (2, .cells [.slice (some (40, 0)) (37 + n) (.rest 1), .bool false] true), (40, .cells r1 true)] 41
noncomputable def vc2_s4 (m t a s : Int) (o : AO) (n : Nat) (r1 : List AV) : ASt := mkSt [(0, o), (1, .cells [.int .i64 (.ofNat 2), .int .u64 m, .int .u64 t, .int .u64 a, .int .u64 s, .slice (some (0, 0)) n (.atl n)] true), (2, .cells [.slice (some (40, 0)) (37 + n) (.rest 1), .bool false] true), (40, .cells r1 true), (41, .cells [] true)] 42
noncomputable def vc2_s5 (m t a s : Int) (o : AO) (n : Nat) (r1 : List AV) : ASt := mkSt [(0, o), (1, .cells [.int .i64 (.ofNat 2), .int .u64 m, .int .u64 t, .int .u64 a, .int .u64 s, .slice (some (0, 0)) n (.atl n)] true), (2, .cells [.slice (some (40, 0)) (37 + n) (.rest 1), .bool false] true), (40, .cells r1 true), (41, .cells [] true), (42, .cells r1 true)] 43
noncomputable def vc2_s6 (m t a s : Int) (o : AO) (n : Nat) (xs : Nat → Int) (r1 : List AV) : ASt := mkSt [(0, o), (1, .cells [.int .i64 (.ofNat 2), .int .u64 m, .int .u64 t, .int .u64 a, .int .u64 s, .slice (some (0, 0)) n (.atl n)] true), (2, .cells [.slice (some (40, 0)) (37 + n) (.rest 1), .bool false] true), (40, .cells r1 true), (41, .cells [] true), (42, .cells r1 true), (43, .cells (cl xs) true)] 44
noncomputable def vc2_s7 (m t a s : Int) (o : AO) (n : Nat) (xs : Nat → Int) (r1 r2 : List AV) : ASt := mkSt [(0, o), (1, .cells [.int .i64 (.ofNat 2), .int .u64 m, .int .u64 t, .int .u64 a, .int .u64 s, .slice (some (0, 0)) n (.atl n)] true), (2, .cells [.slice (some (40, 0)) (37 + n) (.rest 1), .bool false] true), (40, .cells r1 true), (41, .cells [] true), (42, .dead), (43, .cells (cl xs) true), (44, .cells r2 true)] 45
noncomputable def vc2_s8 (r2 : List AV) : ASt := mkSt [(44, .cells r2 true)] 45
theorem vc2 (q : CallT) (k m t a s : Int) (v : AV) (o : AO) (n : Nat) (xs : Nat → Int) (w1 w2 w3 : AV) (r1 r2 r3 : List AV) (Q : AV × ASt → Prop) :
  ((M E (drawA E) (sm q) 55).call 58 [.agg [.int .i64 (.ofNat 2), .int .u64 m, .int .u64 t, .int .u64 a, .int .u64 s, .slice (some (0, 0)) n (.atl n)]] (vc2_s0 m t a s o n) = some (.bool true, vc2_s0 m t a s o n) ∧ aLoad E 28 (.ptr (some (1, 1))) (vc2_s1 m t a s o n) = some (.int .u64 m, vc2_s1 m t a s o n) ∧ holdsO [(some (.int .i64 (.ofNat 2)), .int .i64 (.ofNat 2)), (some (.int .u64 m), .int .u64 m), (some (.int .u64 m), .int .u64 m), (some (.int .u64 t), .int .u64 t), (some (.int .u64 t), .int .u64 t), (some (.int .u64 t), .int .u64 t)] ∧ (M E (drawA E) (sm q) 51).call 38 [.ptr (some (2, 0)), .slice (some (0, 0)) n (.atl n)] (vc2_s2 m t a s o n) = some (.ptr (some (2, 0)), vc2_s3 m t a s o n r1) ∧ holdsO [(some (.slice (some (0, 0)) n (.atl n)), .slice (some (0, 0)) n (.atl n))] ∧ aBuiltinM E .append [25, 25] [.slice (some (41, 0)) 0 (.known 0), .slice (some (40, 0)) (37 + n) (.rest 1)] (vc2_s4 m t a s o n r1) = some (.slice (some (42, 0)) (37 + n) (.rest 1), vc2_s5 m t a s o n r1) ∧ (M E (drawA E) (sm q) 51).call 59 [.slice (some (42, 0)) (37 + n) (.rest 1)] (vc2_s5 m t a s o n r1) = some (.agg (cl xs), vc2_s5 m t a s o n r1) ∧ aBuiltinM E .append [25, 25] [.slice (some (42, 0)) (37 + n) (.rest 1), .slice (some (43, 0)) 4 (.known 32)] (vc2_s6 m t a s o n xs r1) = some (.slice (some (44, 0)) (37 + n + 4) (.rest 1), vc2_s7 m t a s o n xs r1 r2) ∧ Q (.tuple [.slice (some (44, 0)) (37 + n + 4) (.rest 1), .int .i64 (.ofNat 0)], vc2_s8 r2)) =
  (t2 q k m t a s v o n xs w1 w2 w3 r1 r2 r3).allY (fun r => Q (r.1, canS [44] r.2)) (.v (.bool true, vc2_s0 m t a s o n) (.v (.int .u64 m, vc2_s1 m t a s o n) (.v (.ptr (some (2, 0)), vc2_s3 m t a s o n r1) (.v (.slice (some (42, 0)) (37 + n) (.rest 1), vc2_s5 m t a s o n r1) (.v (.agg (cl xs), vc2_s5 m t a s o n r1) (.v (.slice (some (44, 0)) (37 + n + 4) (.rest 1), vc2_s7 m t a s o n xs r1 r2) .nil)))))) := by kernel_rfl
theorem Eok : Env.Ok Try.prog E := envEx_ok (xs := []) ⟨⟨Try.func22, Try.call22⟩, ⟨Try.func58, Try.call58⟩, ⟨Try.func90, Try.call90⟩, ⟨Try.func78, Try.call78⟩, ⟨Try.func79, Try.call79⟩, ⟨Try.func37, Try.call37⟩, ⟨Try.func44, Try.call44⟩, ⟨Try.func38, Try.call38⟩, ⟨Try.func14, Try.call14⟩, ⟨Try.func47, Try.call47⟩, trivial⟩ trivial (by kernel_rfl)
def wl (w : Int) : List Int := [wrapF .u8 (shrF w 24), wrapF .u8 (shrF w 16), wrapF .u8 (shrF w 8), wrapF .u8 (shrF w 0)]
def outL (s : S8) : List Int := wl s.a ++ (wl s.b ++ (wl s.c ++ (wl s.d ++ (wl s.e ++ (wl s.f ++ (wl s.g ++ wl s.h))))))
def hx (s : S8) (i : Nat) : Int := (outL s).getD i 0
theorem outI_cl (s : S8) : outI s = .agg (cl (hx s)) := rfl
def intsOf (row : List AV) : List Int := (bytesZ row).getD []
noncomputable def hashX (row : List AV) : Nat → Int := hx (sumZ row.length fun j => (intsOf row).getD j 0)
def be8 (x : Int) : List AV := [.int .u8 (wrapF .u8 (shrF x 56)), .int .u8 (wrapF .u8 (shrF x 48)), .int .u8 (wrapF .u8 (shrF x 40)), .int .u8 (wrapF .u8 (shrF x 32)), .int .u8 (wrapF .u8 (shrF x 24)), .int .u8 (wrapF .u8 (shrF x 16)), .int .u8 (wrapF .u8 (shrF x 8)), .int .u8 (wrapF .u8 (shrF x 0))]
def hd (k : Nat) (m t : Int) : List AV := .int .u8 (.ofNat 71) :: .int .u8 (.ofNat 80) :: .int .u8 (.ofNat k) :: (be8 m ++ be8 t)
def tl4 (xs : Nat → Int) : List AV := [.int .u8 (xs 0), .int .u8 (xs 1), .int .u8 (xs 2), .int .u8 (xs 3)]
theorem sum_at {S : ASt} {i o n : Nat} {c : Cap} {cs row : List AV} {rw : Bool} {zs : List Int} (hg : S.h.get i = some (.cells cs rw)) (ht : takeL cs o n = some row) (hz : bytesZ row = some zs) (h0 : 0 < n) (hn : n < 1099511627776) :
    sumSumZ 59 59 [.slice (some (i, o)) n c] S = some (.agg (cl (hashX row)), S) := by
  have hl := (takeL_ok ht).1
  subst hl
  have e : hashX row = hx (sumZ row.length fun j => zs.getD j 0) := by
    unfold hashX intsOf
    rw [hz]; rfl
  rw [e, ← outI_cl]
  unfold sumSumZ
  simp only [Nat.beq_refl, cond_true, blt_t h0, blt_t hn, hg, ht, hz]
open Classical in
noncomputable def mayC : CallT := fun g args st => bif Nat.beq 58 g then (match args with
  | [.agg [.int .i64 k, .int .u64 m, .int .u64 t, .int .u64 a, .int .u64 s, v]] => if h : ∃ l, SlB st v l ∧ l.length < 9223372036854775808 then some (.bool (pkb.mayB k m t a s h.choose.length), st) else none
  | _ => none) else none
theorem ap25 : appT E 25 25 = some (1, 1) := by kernel_rfl
theorem mayC_ok : CallsOK Try.prog mayC := by
  intro B w0 g args st r hr ι w args' hsr hv
  unfold mayC at hr
  cases hf : Nat.beq 58 g
  · rw [hf] at hr; cases hr
  rw [hf, cond_true] at hr
  have := nbeq hf
  subst this
  split at hr
  · split at hr
    · rename_i hx
      simp only [Option.some.injEq] at hr
      subst hr
      exact pkb.may _ _ _ _ _ hx.choose_spec.1 hx.choose_spec.2 B w0 ι w args' hsr hv
    · cases hr
  · cases hr
open Classical in
theorem mayC_at {st : ASt} {v : AV} {l : List Nat} {k m t a s : Int} (h : SlB st v l) (hb : l.length < 9223372036854775808) : mayC 58 [pV k m t a s v] st = some (.bool (pkb.mayB k m t a s l.length), st) := by
  have hx : ∃ l, SlB st v l ∧ l.length < 9223372036854775808 := ⟨l, h, hb⟩
  have e : hx.choose = l := hx.choose_spec.1.inj h
  show (if h : ∃ l, SlB st v l ∧ l.length < 9223372036854775808 then some (AV.bool (pkb.mayB k m t a s h.choose.length), st) else none) = _
  rw [dif_pos hx, e]
noncomputable def qB (tab : List (Nat × List AV × ASt × (AV × ASt))) : CallT := orC mayC (orC (sumSumZ 59) (tabC tab))
theorem qB_ok {tab : List (Nat × List AV × ASt × (AV × ASt))} (h : ∀ e, e ∈ tab → Call1 Try.prog e.1 e.2.1 e.2.2.1 e.2.2.2) : CallsOK Try.prog (sm (qB tab)) := onlyC_ok (orC_ok mayC_ok (orC_ok sumPart.sum_ok (tabC_ok h)))
theorem may_at {tab : List (Nat × List AV × ASt × (AV × ASt))} {S : ASt} {v : AV} {l : List Nat} {k m t a s : Int} {j : Nat} (h : SlB S v l) (hb : l.length < 9223372036854775808) :
    (M E (drawA E) (sm (qB tab)) (j + 1)).call 58 [pV k m t a s v] S = some (.bool (pkb.mayB k m t a s l.length), S) := call_at (onlyC_at rfl (orC_l (mayC_at h hb)))
theorem hash_at {tab : List (Nat × List AV × ASt × (AV × ASt))} {S : ASt} {i o n j : Nat} {c : Cap} {cs row : List AV} {rw : Bool} {zs : List Int} (hg : S.h.get i = some (.cells cs rw)) (ht : takeL cs o n = some row) (hz : bytesZ row = some zs) (h0 : 0 < n) (hn : n < 1099511627776) :
    (M E (drawA E) (sm (qB tab)) (j + 1)).call 59 [.slice (some (i, o)) n c] S = some (.agg (cl (hashX row)), S) := call_at (onlyC_at rfl (orC_r rfl (orC_l (sum_at hg ht hz h0 hn))))
section
variable {S : ASt} {v : AV} {l : List Nat} {m t a s : Int}
theorem pR {k : Int} {v1 : AV} {o : AO} (h : SlB S v l) (r : RoArg S 0 v v1 o) (A : ArgB 0 v1 o l) : RoArg S 0 (pV k m t a s v) (pV k m t a s v1) o := by
  have hc : v.isCell = true ∧ v1.isCell = true := by cases h <;> cases A <;> exact ⟨rfl, rfl⟩
  exact RoArg.agg (pre := [.int .i64 k, .int .u64 m, .int .u64 t, .int .u64 a, .int .u64 s]) (post := []) r hc.1 hc.2 (fun c hc => by
    simp only [List.mem_cons, List.not_mem_nil, or_false] at hc
    rcases hc with rfl | rfl | rfl | rfl | rfl <;> simp [refsV]) (fun c hc => by cases hc)
theorem hold6 {k : Int} : holdsO [(some (AV.int IntKind.i64 k), AV.int IntKind.i64 k), (some (AV.int IntKind.u64 m), AV.int IntKind.u64 m), (some (AV.int IntKind.u64 m), AV.int IntKind.u64 m), (some (AV.int IntKind.u64 t), AV.int IntKind.u64 t), (some (AV.int IntKind.u64 t), AV.int IntKind.u64 t), (some (AV.int IntKind.u64 t), AV.int IntKind.u64 t)] := by
  simp [holdsO, avEq]
theorem be8_refs (x : Int) : ∀ c, c ∈ be8 x → refsV 0 c := fun c hc => by
  simp only [be8, List.mem_cons, List.not_mem_nil, or_false] at hc
  rcases hc with rfl | rfl | rfl | rfl | rfl | rfl | rfl | rfl <;> simp [refsV]
theorem hd_refs (k : Nat) (m t : Int) : ∀ c, c ∈ hd k m t → refsV 0 c := fun c hc => by
  simp only [hd, List.mem_cons, List.mem_append] at hc
  rcases hc with rfl | rfl | rfl | hc | hc
  · simp [refsV]
  · simp [refsV]
  · simp [refsV]
  · exact be8_refs _ c hc
  · exact be8_refs _ c hc
theorem tl4_refs (xs : Nat → Int) : ∀ c, c ∈ tl4 xs → refsV 0 c := fun c hc => by
  simp only [tl4, List.mem_cons, List.not_mem_nil, or_false] at hc
  rcases hc with rfl | rfl | rfl | rfl <;> simp [refsV]
theorem app_refs {x y : List AV} (hx : ∀ c, c ∈ x → refsV 0 c) (hy : ∀ c, c ∈ y → refsV 0 c) : ∀ c, c ∈ x ++ y → refsV 0 c := fun c hc => (List.mem_append.1 hc).elim (hx c) (hy c)
theorem bytesF {k : Int} (h : SlB S v l) (hb : l.length < 9223372036854775808) (hm : pkb.mayB k m t a s l.length = false) :
    Call1 Try.prog 22 [pV k m t a s v] S (.tuple [.slice none 0 (.known 0), .int .i64 (.ofNat 2)], outS (fun j => S.next + j) [] S (S.next + 45)) := by
  obtain ⟨v1, o, r, A⟩ := h.ro 0
  refine Call1.frame1 (Q1 := fun q => q = (AV.tuple [.slice none 0 (.known 0), .int .i64 (.ofNat 2)], mkSt [] 2)) (pR h r A) (fun B w0 ι w args' _ hsr hv => run_of_tm Eok (qB_ok (tab := []) (fun e he => by cases he)) (Eq.mp (vcF (qB []) k m t a s v1 o 0 (fun _ => 0) undefA undefA undefA [] [] [] (fun q => q = (AV.tuple [.slice none 0 (.known 0), .int .i64 (.ofNat 2)], mkSt [] 2))) ⟨(may_at (A.toSl (by kernel_rfl)) hb).trans (by rw [hm]), rfl⟩) B w0 ι w args' hsr hv) (by omega) (fun q hq => ?_)
  · subst hq
    exact ⟨BackV.eq rfl, by show S.next + 2 ≤ S.next + 45; omega, fun p hp => by cases hp⟩
noncomputable def row1 (m t a : Int) : List AV := hd 1 m t
theorem bytes1 (h : SlB S v l) (hb : l.length < 9223372036854775808) (hm : pkb.mayB (.ofNat 1) m t a s l.length = true) :
    Call1 Try.prog 22 [pV (.ofNat 1) m t a s v] S (.tuple [.slice (some (S.next + 27, 0)) 23 (.rest 1), .int .i64 (.ofNat 0)], outS (fun j => S.next + j) [(27, .cells (row1 m t a ++ tl4 (hashX (row1 m t a))) true)] S (S.next + 45)) := by
  obtain ⟨v1, o, r, A⟩ := h.ro 0
  refine Call1.frame1 (Q1 := fun q => q = (AV.tuple [.slice (some (27, 0)) 23 (.rest 1), .int .i64 (.ofNat 0)], mkSt [(27, .cells (row1 m t a ++ tl4 (hashX (row1 m t a))) true)] 28)) (pR h r A)
    (fun B w0 ι w args' _ hsr hv => run_of_tm Eok (qB_ok (tab := []) (fun e he => by cases he)) (Eq.mp (vc1 (qB []) 0 m t a s v1 o 0 (hashX (row1 m t a)) undefA undefA undefA [] [] [] (fun q => q = (AV.tuple [.slice (some (27, 0)) 23 (.rest 1), .int .i64 (.ofNat 0)], mkSt [(27, .cells (row1 m t a ++ tl4 (hashX (row1 m t a))) true)] 28))) ⟨(may_at (A.toSl (by kernel_rfl)) hb).trans (by rw [hm]), by kernel_rfl, hold6, hash_at (cs := row1 m t a) (row := row1 m t a) (rw := true) (zs := intsOf (row1 m t a)) (by kernel_rfl) (by kernel_rfl) (by kernel_rfl) (by omega) (by omega), by kernel_rfl⟩) B w0 ι w args' hsr hv) (by omega) (fun q hq => ?_)
  · subst hq
    refine ⟨BackV.eq rfl, by show S.next + 28 ≤ S.next + 45; omega, fun p hp => ?_⟩
    simp only [List.mem_cons, List.not_mem_nil, or_false] at hp
    subst hp
    exact ⟨Nat.le_of_ble_eq_true rfl, by show S.next + 27 < S.next + 45; omega, .inr ⟨rfl, _, (by kernel_rfl : (mkSt [(27, AO.cells (row1 m t a ++ tl4 (hashX (row1 m t a))) true)] 28).h.get 27 = some (.cells (row1 m t a ++ tl4 (hashX (row1 m t a))) true)), BackO.row (app_refs (hd_refs _ _ _) (tl4_refs _))⟩⟩
noncomputable def row4 (m t a : Int) : List AV := hd 4 m t
theorem bytes4 (h : SlB S v l) (hb : l.length < 9223372036854775808) (hm : pkb.mayB (.ofNat 4) m t a s l.length = true) :
    Call1 Try.prog 22 [pV (.ofNat 4) m t a s v] S (.tuple [.slice (some (S.next + 27, 0)) 23 (.rest 1), .int .i64 (.ofNat 0)], outS (fun j => S.next + j) [(27, .cells (row4 m t a ++ tl4 (hashX (row4 m t a))) true)] S (S.next + 45)) := by
  obtain ⟨v1, o, r, A⟩ := h.ro 0
  refine Call1.frame1 (Q1 := fun q => q = (AV.tuple [.slice (some (27, 0)) 23 (.rest 1), .int .i64 (.ofNat 0)], mkSt [(27, .cells (row4 m t a ++ tl4 (hashX (row4 m t a))) true)] 28)) (pR h r A)
    (fun B w0 ι w args' _ hsr hv => run_of_tm Eok (qB_ok (tab := []) (fun e he => by cases he)) (Eq.mp (vc4 (qB []) 0 m t a s v1 o 0 (hashX (row4 m t a)) undefA undefA undefA [] [] [] (fun q => q = (AV.tuple [.slice (some (27, 0)) 23 (.rest 1), .int .i64 (.ofNat 0)], mkSt [(27, .cells (row4 m t a ++ tl4 (hashX (row4 m t a))) true)] 28))) ⟨(may_at (A.toSl (by kernel_rfl)) hb).trans (by rw [hm]), by kernel_rfl, hold6, hash_at (cs := row4 m t a) (row := row4 m t a) (rw := true) (zs := intsOf (row4 m t a)) (by kernel_rfl) (by kernel_rfl) (by kernel_rfl) (by omega) (by omega), by kernel_rfl⟩) B w0 ι w args' hsr hv) (by omega) (fun q hq => ?_)
  · subst hq
    refine ⟨BackV.eq rfl, by show S.next + 28 ≤ S.next + 45; omega, fun p hp => ?_⟩
    simp only [List.mem_cons, List.not_mem_nil, or_false] at hp
    subst hp
    exact ⟨Nat.le_of_ble_eq_true rfl, by show S.next + 27 < S.next + 45; omega, .inr ⟨rfl, _, (by kernel_rfl : (mkSt [(27, AO.cells (row4 m t a ++ tl4 (hashX (row4 m t a))) true)] 28).h.get 27 = some (.cells (row4 m t a ++ tl4 (hashX (row4 m t a))) true)), BackO.row (app_refs (hd_refs _ _ _) (tl4_refs _))⟩⟩
noncomputable def row3 (m t a : Int) : List AV := hd 3 m t ++ be8 a
theorem bytes3 (h : SlB S v l) (hb : l.length < 9223372036854775808) (hm : pkb.mayB (.ofNat 3) m t a s l.length = true) :
    Call1 Try.prog 22 [pV (.ofNat 3) m t a s v] S (.tuple [.slice (some (S.next + 29, 0)) 31 (.rest 1), .int .i64 (.ofNat 0)], outS (fun j => S.next + j) [(29, .cells (row3 m t a ++ tl4 (hashX (row3 m t a))) true)] S (S.next + 45)) := by
  obtain ⟨v1, o, r, A⟩ := h.ro 0
  refine Call1.frame1 (Q1 := fun q => q = (AV.tuple [.slice (some (29, 0)) 31 (.rest 1), .int .i64 (.ofNat 0)], mkSt [(29, .cells (row3 m t a ++ tl4 (hashX (row3 m t a))) true)] 30)) (pR h r A)
    (fun B w0 ι w args' _ hsr hv => run_of_tm Eok (qB_ok (tab := []) (fun e he => by cases he)) (Eq.mp (vc3 (qB []) 0 m t a s v1 o 0 (hashX (row3 m t a)) undefA undefA undefA [] [] [] (fun q => q = (AV.tuple [.slice (some (29, 0)) 31 (.rest 1), .int .i64 (.ofNat 0)], mkSt [(29, .cells (row3 m t a ++ tl4 (hashX (row3 m t a))) true)] 30))) ⟨(may_at (A.toSl (by kernel_rfl)) hb).trans (by rw [hm]), by kernel_rfl, hold6, hash_at (cs := row3 m t a) (row := row3 m t a) (rw := true) (zs := intsOf (row3 m t a)) (by kernel_rfl) (by kernel_rfl) (by kernel_rfl) (by omega) (by omega), by kernel_rfl⟩) B w0 ι w args' hsr hv) (by omega) (fun q hq => ?_)
  · subst hq
    refine ⟨BackV.eq rfl, by show S.next + 30 ≤ S.next + 45; omega, fun p hp => ?_⟩
    simp only [List.mem_cons, List.not_mem_nil, or_false] at hp
    subst hp
    exact ⟨Nat.le_of_ble_eq_true rfl, by show S.next + 29 < S.next + 45; omega, .inr ⟨rfl, _, (by kernel_rfl : (mkSt [(29, AO.cells (row3 m t a ++ tl4 (hashX (row3 m t a))) true)] 30).h.get 29 = some (.cells (row3 m t a ++ tl4 (hashX (row3 m t a))) true)), BackO.row (app_refs (app_refs (hd_refs _ _ _) (be8_refs _)) (tl4_refs _))⟩⟩
theorem Call1.pick {P : Program} {f : Nat} {args : List AV} {S R : ASt} {v : AV} {ls : List (Nat × AO)} {nx : Nat} (h : Call1 P f args S (v, R)) (hp : ∀ p, p ∈ ls → R.h.get p.1 = some p.2) (hn : R.next ≤ nx) : Call1 P f args S (v, mkSt ls nx) := by
  intro B w0 ι w args' hsr hv
  obtain ⟨k1, k2⟩ := h B w0 ι w args' hsr hv
  refine ⟨k1, k2.mono fun e w' ⟨x, ι', he, hle, g1, g2⟩ => ⟨x, ι', he, hle, SR.sub g1 (fun k y hy => ?_) hn, g2⟩⟩
  rcases foldl_get D ls .e k y hy with ⟨p, p1, p2, p3⟩ | hy
  · subst p2; subst p3; exact hp p p1
  · rw [T.get_e] at hy; cases hy
def headI (m t a s : Int) : List Int := .ofNat 71 :: .ofNat 80 :: .ofNat 2 :: ([wrapF .u8 (shrF m 56), wrapF .u8 (shrF m 48), wrapF .u8 (shrF m 40), wrapF .u8 (shrF m 32), wrapF .u8 (shrF m 24), wrapF .u8 (shrF m 16), wrapF .u8 (shrF m 8), wrapF .u8 (shrF m 0)] ++ ([wrapF .u8 (shrF t 56), wrapF .u8 (shrF t 48), wrapF .u8 (shrF t 40), wrapF .u8 (shrF t 32), wrapF .u8 (shrF t 24), wrapF .u8 (shrF t 16), wrapF .u8 (shrF t 8), wrapF .u8 (shrF t 0)] ++ ([wrapF .u8 (shrF a 56), wrapF .u8 (shrF a 48), wrapF .u8 (shrF a 40), wrapF .u8 (shrF a 32), wrapF .u8 (shrF a 24), wrapF .u8 (shrF a 16), wrapF .u8 (shrF a 8), wrapF .u8 (shrF a 0)] ++ [wrapF .u8 (shrF s 56), wrapF .u8 (shrF s 48), wrapF .u8 (shrF s 40), wrapF .u8 (shrF s 32), wrapF .u8 (shrF s 24), wrapF .u8 (shrF s 16), wrapF .u8 (shrF s 8), wrapF .u8 (shrF s 0)])))
def head2 (m t a s : Int) : List AV := hd 2 m t ++ (be8 a ++ be8 s)
def row2 (m t a s : Int) (l : List Nat) : List AV := (head2 m t a s ++ wri.two l.length) ++ l.map cellU
def row2I (m t a s : Int) (l : List Nat) : List Int := (headI m t a s ++ [wrapF .u8 (shrF (wrapF .u64 (.ofNat l.length)) 8), wrapF .u8 (shrF (wrapF .u64 (.ofNat l.length)) 0)]) ++ l.map Int.ofNat
theorem row2_ints (m t a s : Int) (l : List Nat) : row2 m t a s l = (row2I m t a s l).map (AV.int .u8) := by
  unfold row2 row2I
  rw [List.map_append, List.map_append, List.map_map]
  rfl
theorem row2_len (m t a s : Int) (l : List Nat) : (row2 m t a s l).length = 37 + l.length := by
  simp [row2, head2, hd, be8, wri.two]
  omega
theorem head2_refs (m t a s : Int) : ∀ c, c ∈ head2 m t a s → refsV 0 c := app_refs (hd_refs _ _ _) (app_refs (be8_refs _) (be8_refs _))
theorem row2_refs (m t a s : Int) (l : List Nat) : ∀ c, c ∈ row2 m t a s l → refsV 0 c := app_refs (app_refs (head2_refs _ _ _ _) (wri.two_refs _)) (refU l)
theorem may2_len (h : pkb.mayB (.ofNat 2) m t a s l.length = true) : l ≠ [] ∧ l.length ≤ 4000 := by
  have e2 : eqF (.ofNat 2) (.ofNat 2) = true := rfl
  have e1 : eqF (.ofNat 2) (.ofNat 1) = false := rfl
  unfold pkb.mayB at h
  rw [e2, e1] at h
  cases hm : eqF m (.ofNat 0) <;> rw [hm] at h <;> simp only [cond_true, cond_false, Bool.false_eq_true] at h
  cases ht : eqF t (.ofNat 0) <;> rw [ht] at h <;> simp only [cond_true, cond_false, Bool.false_eq_true, Bool.not_false] at h
  cases hs : ltF (.ofNat 0) s <;> rw [hs] at h <;> simp only [cond_true, cond_false, Bool.false_eq_true] at h
  cases hn : ltF (.ofNat l.length) (.ofNat 1) <;> rw [hn] at h <;> simp only [cond_true, cond_false, Bool.false_eq_true] at h
  rw [ltF_nn] at hn h
  simp at hn h
  exact ⟨hn, h⟩
noncomputable def st22 (m t a s : Int) (l : List Nat) : ASt := vc2_s2 m t a s (.cells (l.map cellU) false) l.length
noncomputable def st23 (m t a s : Int) (l : List Nat) : ASt := vc2_s3 m t a s (.cells (l.map cellU) false) l.length (row2 m t a s l)
noncomputable def tab2 (m t a s : Int) (l : List Nat) : List (Nat × List AV × ASt × (AV × ASt)) := [(38, [AV.ptr (some (2, 0)), v2 l.length], st22 m t a s l, (AV.ptr (some (2, 0)), st23 m t a s l))]
theorem tab2_ok (h0 : l ≠ []) (hl : l.length ≤ 4000) : ∀ e, e ∈ tab2 m t a s l → Call1 Try.prog e.1 e.2.1 e.2.2.1 e.2.2.2 := by
  intro e he
  simp only [tab2, List.mem_cons, List.not_mem_nil, or_false] at he
  subst he
  have := wri.blob (S := st22 m t a s l) (R := head2 m t a s) (l := l) (i := 2) (r := 34) (i0 := 0) (o0 := 0) (c := .atl l.length) (cs := l.map cellU) (rw := false) (by kernel_rfl) (by kernel_rfl) (by decide) (show 2 < 35 by decide) (show 34 < 35 by decide) (by kernel_rfl) takeU (by decide) (by decide) (head2_refs m t a s) h0 (by omega) (show 35 < 1099511627776 by decide)
  refine Call1.pick this (fun p hp => ?_) (show 41 ≤ 41 by decide)
  simp only [List.mem_cons, List.not_mem_nil, or_false] at hp
  rcases hp with rfl | rfl | rfl | rfl <;> kernel_rfl
theorem bytes2 (h : SlB S v l) (hb : l.length < 9223372036854775808) (hm : pkb.mayB (.ofNat 2) m t a s l.length = true) :
    Call1 Try.prog 22 [pV (.ofNat 2) m t a s v] S (.tuple [.slice (some (S.next + 44, 0)) (37 + l.length + 4) (.rest 1), .int .i64 (.ofNat 0)], outS (fun j => S.next + j) [(44, .cells (row2 m t a s l ++ tl4 (hashX (row2 m t a s l))) true)] S (S.next + 45)) := by
  obtain ⟨h0, hl⟩ := may2_len hm
  have hn0 : 0 < l.length := List.length_pos_iff.2 h0
  obtain ⟨v1, o, r, A⟩ := h.ro 0
  cases A with
  | nil => exact absurd rfl h0
  | zero => exact absurd rfl h0
  | row _ =>
  have A := ArgB.row (i := 0) h0
  have len := row2_len m t a s l
  have all : ∀ {n : Nat}, n = 37 + l.length → takeL (row2 m t a s l) 0 n = some (row2 m t a s l) := fun {n} hn => by
    subst hn
    have e : (row2 m t a s l).take (37 + l.length) = row2 m t a s l := List.take_of_length_le (Nat.le_of_eq len)
    unfold takeL
    simp only [List.drop_zero, e, len, Nat.beq_refl, cond_true]
  refine Call1.frame1 (Q1 := fun q => q = (AV.tuple [.slice (some (44, 0)) (37 + l.length + 4) (.rest 1), .int .i64 (.ofNat 0)], mkSt [(44, .cells (row2 m t a s l ++ tl4 (hashX (row2 m t a s l))) true)] 45)) (pR h r A)
    (fun B w0 ι w args' _ hsr hv => run_of_tm Eok (qB_ok (tab2_ok (m := m) (t := t) (a := a) (s := s) h0 hl)) (Eq.mp (vc2 (qB (tab2 m t a s l)) 0 m t a s undefA (.cells (l.map cellU) false) l.length (hashX (row2 m t a s l)) undefA undefA undefA (row2 m t a s l) (row2 m t a s l ++ tl4 (hashX (row2 m t a s l))) [] (fun q => q = (AV.tuple [.slice (some (44, 0)) (37 + l.length + 4) (.rest 1), .int .i64 (.ofNat 0)], mkSt [(44, .cells (row2 m t a s l ++ tl4 (hashX (row2 m t a s l))) true)] 45)))
      ⟨(may_at (A.toSl (by kernel_rfl)) hb).trans (by rw [hm]), by kernel_rfl, hold6, call_at (onlyC_at rfl (orC_r rfl (orC_r rfl (tabC_hd 38 _ _ _ _)))), ?_, ?_, ?_, ?_, rfl⟩) B w0 ι w args' hsr hv) (by omega) (fun q hq => ?_)
  · subst hq
    refine ⟨BackV.eq rfl, by show S.next + 45 ≤ S.next + 45; omega, fun p hp => ?_⟩
    simp only [List.mem_cons, List.not_mem_nil, or_false] at hp
    subst hp
    exact ⟨Nat.le_of_ble_eq_true rfl, by show S.next + 44 < S.next + 45; omega, .inr ⟨rfl, _, (by kernel_rfl : (mkSt [(44, AO.cells (row2 m t a s l ++ tl4 (hashX (row2 m t a s l))) true)] 45).h.get 44 = some (.cells (row2 m t a s l ++ tl4 (hashX (row2 m t a s l))) true)), BackO.row (app_refs (row2_refs _ _ _ _ _) (tl4_refs _))⟩⟩
  · simp [holdsO, avEq, locEq, capEq]
  · exact (append_zero_at ap25 (n := 37 + l.length) (k := 41) (cs := []) (rw := true) (by kernel_rfl) (first_at (cs := row2 m t a s l) (rw := true) (by kernel_rfl) (by rw [Nat.mul_one]; exact all rfl)) (by kernel_rfl) (by omega) (by omega) (by omega)).trans (by kernel_rfl)
  · exact hash_at (cs := row2 m t a s l) (row := row2 m t a s l) (rw := true) (zs := row2I m t a s l) (by kernel_rfl) (all rfl) (by rw [row2_ints]; exact bytesZ_map _) (by omega) (by omega)
  · exact (append_grow_at (l := 37 + l.length) (cs := row2 m t a s l) (new := tl4 (hashX (row2 m t a s l))) ap25 (n := 4) (by kernel_rfl) (by kernel_rfl) (by kernel_rfl) (by rw [len, Nat.mul_one]) (by omega) (by omega) (by omega) (by omega)).trans (by kernel_rfl)
end
end Go.Proofs.Ytlnohbilfogheaa.pky
end
section
open Go Go.Ax Go.Proofs.Ytlnohbilfogheaa
namespace Go.Proofs.Ytlnohbilfogheaa.psz
set_option linter.unusedVariables false
noncomputable def fns : List (Nat × Func) := [(6, Try.f6), (23, Try.f23), (24, Try.f24)]
noncomputable def E : Env := envEx Try.prog [0, 3, 4, 5, 25, 28, 31, 33, 34, 61, 63, 89, 104] fns []
def fl0 : Fl := ⟨[], [], [], []⟩
noncomputable def pV (k m t a s : Int) (v : AV) : AV := .agg [.int .i64 k, .int .u64 m, .int .u64 t, .int .u64 a, .int .u64 s, v]
noncomputable def flsK : List (Nat × Fl) := [(24, ⟨[5], [], [], []⟩)]
noncomputable def tK (q : CallT) (r : List AV) : Tr (AV × ASt) := (TM E (onlyC [22] q) flsK fl0 60).call 24 [] (mkSt [] 0)
def bX (m : Int) (i : Nat) : Int := wrapF .u8 (shrF m i)

noncomputable def vcK_s0 : ASt := mkSt [] 0
noncomputable def vcK_s1 (r : List AV) : ASt := mkSt [(27, .cells r true)] 45
noncomputable def vcK_s2 : ASt := mkSt [] 45
theorem vcK (q : CallT) (r : List AV) (Q : AV × ASt → Prop) :
  ((M E (drawA E) (onlyC [22] q) 56).call 22 [.agg [.int .i64 (.ofNat 1), .int .u64 (.ofNat 1), .int .u64 (.ofNat 0), .int .u64 (.ofNat 0), .int .u64 (.ofNat 0), .slice none 0 (.known 0)]] (vcK_s0) = some (.tuple [.slice (some (27, 0)) 23 (.rest 1), .int .i64 (.ofNat 0)], vcK_s1 r) ∧ Q (.bool true, vcK_s2)) =
  (tK q r).allY (fun r => Q (r.1, canS [] r.2)) (.v (.tuple [.slice (some (27, 0)) 23 (.rest 1), .int .i64 (.ofNat 0)], vcK_s1 r) .nil) := by kernel_rfl
theorem bX_eq (M i : Nat) : bX (.ofNat M) i = .ofNat (M / 2 ^ i % 256) := by
  unfold bX
  show wrapF .u8 (Int.ofNat (M / 2 ^ i)) = _
  have e : modN (.ofNat (M / 2 ^ i)) (big .u8) = M / 2 ^ i % 256 := rfl
  unfold wrapF
  have hb : Nat.blt (modN (.ofNat (M / 2 ^ i)) (big .u8)) (half .u8) = true := by
    rw [e]; exact blt_t (Nat.mod_lt _ (by decide))
  show (bif Nat.blt (modN (.ofNat (M / 2 ^ i)) (big .u8)) (half .u8) then Int.ofNat (modN (.ofNat (M / 2 ^ i)) (big .u8)) else _) = _
  rw [hb, e]; rfl
theorem fn1 : AllFn Try.prog fns := ⟨⟨Try.func6, Try.call6⟩, ⟨Try.func23, Try.call23⟩, ⟨Try.func24, Try.call24⟩, trivial⟩
theorem Eok : Env.Ok Try.prog E := envEx_ok (xs := []) fn1 trivial (by kernel_rfl)
noncomputable def tabK : List (Nat × List AV × ASt × (AV × ASt)) := [(22, [pV (.ofNat 1) (.ofNat 1) (.ofNat 0) (.ofNat 0) (.ofNat 0) (.slice none 0 (.known 0))], mkSt [] 0, (.tuple [.slice (some (27, 0)) 23 (.rest 1), .int .i64 (.ofNat 0)], mkSt [(27, .cells (pky.row1 (.ofNat 1) (.ofNat 0) (.ofNat 0) ++ pky.tl4 (pky.hashX (pky.row1 (.ofNat 1) (.ofNat 0) (.ofNat 0)))) true)] 45))]
theorem tabK_ok : ∀ e, e ∈ tabK → Call1 Try.prog e.1 e.2.1 e.2.2.1 e.2.2.2 := by
  intro e he
  simp only [tabK, List.mem_cons, List.not_mem_nil, or_false] at he
  subst he
  exact pky.bytes1 (S := mkSt [] 0) (v := .slice none 0 (.known 0)) (l := []) (m := .ofNat 1) (t := .ofNat 0) (a := .ofNat 0) (s := .ofNat 0) .nil (by decide) (by kernel_rfl)
theorem known0 : AtMem Try.prog 24 [] (mkSt [] 0) (.bool true) :=
  AtMem.of_tm Eok (onlyC_ok (tabC_ok tabK_ok)) (Eq.mp (vcK (tabC tabK) (pky.row1 (.ofNat 1) (.ofNat 0) (.ofNat 0) ++ pky.tl4 (pky.hashX (pky.row1 (.ofNat 1) (.ofNat 0) (.ofNat 0)))) (fun r => r.1 = .bool true)) ⟨call_at (onlyC_at rfl (tabC_hd 22 _ _ _ _)), rfl⟩)
theorem known (S : ASt) : Call1 Try.prog 24 [] S (.bool true, S) := Call1.ro (os := []) known0 (by simp [refsV]) (args := []) trivial rfl fun j x hj => by
  have : (mkSt [] 0).h.get j = none := T.get_e j
  rw [this] at hj; cases hj
def kC : CallT := fun f args st => bif Nat.beq 24 f then (match args with | [] => some (.bool true, st) | _ => none) else none
theorem kC_ok : CallsOK Try.prog kC := by
  intro B w0 f args st r hr ι w args' hsr hv
  unfold kC at hr
  cases hf : Nat.beq 24 f
  · rw [hf] at hr; cases hr
  rw [hf, cond_true] at hr
  have := nbeq hf
  subst this
  split at hr
  · cases hr; exact known st B w0 ι w args' hsr hv
  · cases hr
theorem may_kind {k m t a s : Int} {n : Nat} (h : pkb.mayB k m t a s n = true) : k = .ofNat 1 ∨ k = .ofNat 2 ∨ k = .ofNat 3 ∨ k = .ofNat 4 := by
  by_cases h1 : k = .ofNat 1
  · exact .inl h1
  by_cases h2 : k = .ofNat 2
  · exact .inr (.inl h2)
  by_cases h3 : k = .ofNat 3
  · exact .inr (.inr (.inl h3))
  by_cases h4 : k = .ofNat 4
  · exact .inr (.inr (.inr h4))
  exfalso
  have f : ∀ {x : Int}, k ≠ x → eqF k x = false := fun {x} hx => by rw [eqF_eq]; simpa using hx
  unfold pkb.mayB at h
  rw [f h1, f h2, f h3, f h4] at h
  revert h
  cases eqF m (.ofNat 0) <;> cases eqF t (.ofNat 0) <;> intro h <;> cases h
section
variable {k m t a s : Int} {v : AV} {o : AO} {l : List Nat}
end
end Go.Proofs.Ytlnohbilfogheaa.psz
end
section
open Go Go.Ax Go.Proofs.Ytlnohbilfogheaa
namespace Go.Proofs.Ytlnohbilfogheaa.psz
set_option linter.unusedVariables false
section
variable {k m t a s : Int} {v : AV} {o : AO} {l : List Nat}
end
end Go.Proofs.Ytlnohbilfogheaa.psz
end
section
open Go Go.Ax Go.Proofs.Ytlnohbilfogheaa
namespace Go.Proofs.Ytlnohbilfogheaa.psz
set_option linter.unusedVariables false
noncomputable section
open Go.ChangeShapes Go.WideShapes Go.ChangeAt Go.RowKit Go.Deep
section
variable {H : Type} {enc : TypeId × Value → H} {P : Program} {w : World} {base : Nat} {spare : Nat → Bool} {held : Bool} {fuel : Nat} {t : TypeId} {cs : List Value} {x : DataW H × List MemPlace}
end
theorem own : ownKnob Try.prog.godebug = none := by kernel_rfl
theorem laidOut : laidOutB Try.prog = true := by kernel_rfl
theorem same_below {W W' : World} (h : Below W.heap.size W W') {p : MemPlace} (hp : p.block < W.heap.size) : W.sameAt W' p := by
  cases p with
  | cell b off => exact h.cell (p := ⟨b, off, none⟩) hp
  | map b => exact h.block b hp
theorem sl22 : sliceT E 25 = some 1 := by kernel_rfl
theorem spot_none {W : World} {a : Addr} {v : Value} (h : W.cell? (a.add 0) = some v) : a.spot = none := by
  obtain ⟨b, off, spot⟩ := a
  cases spot with
  | none => rfl
  | some s =>
    unfold World.cell? at h
    simp only [Addr.add, if_true] at h
    split at h
    · simp at h
    · cases h
theorem arg_nil {W : World} (i : Nat) : ∃ (l : List Nat) (vl : AV) (o : AO) (r : Option (Nat × Nat × List AV)), (∀ x, x ∈ l → x < 256) ∧ ArgB i vl o l ∧ ArgAt E W 25 1 i l.length (.slice none 0 0) (l.map cellU) vl o r :=
  ⟨[], _, _, _, (fun x h => by cases h), .nil, ArgAt.mk_nil sl22⟩
theorem arg_bytes {W : World} (j : Nat) {a : Addr} {len cap : Nat} {B : Nat → Nat} (hl : len ≤ cap) (hi : ∀ i, i < len → W.cell? (a.add i) = some (.int .u8 (.ofNat (B i))) ∧ B i < 256) :
    ∃ (l : List Nat) (vl : AV) (o : AO) (r : Option (Nat × Nat × List AV)), (∀ x, x ∈ l → x < 256) ∧ ArgB j vl o l ∧ ArgAt E W 25 1 j l.length (.slice (some a) len cap) (l.map cellU) vl o r := by
  by_cases h0 : len = 0
  · subst h0
    exact ⟨[], _, _, _, (fun x h => by cases h), .zero, ArgAt.mk_zero sl22⟩
  · have hsp := spot_none (hi 0 (by omega)).1
    obtain ⟨b, off, spot⟩ := a
    simp only at hsp
    subst hsp
    have hlen : ((List.range len).map B).length = len := by simp
    have hne : (List.range len).map B ≠ [] := fun e => by rw [e] at hlen; simp at hlen; omega
    have hB := ArgB.row (i := j) hne
    rw [hlen] at hB
    refine ⟨(List.range len).map B, .slice (some (j, 0)) len (.atl len), .cells (((List.range len).map B).map cellU) false, some (b, off, ((List.range len).map B).map cellU), fun x hx => ?_, hB, ?_⟩
    · obtain ⟨i, hi', rfl⟩ := List.mem_map.1 hx
      exact (hi i (by simpa using hi')).2
    rw [hlen]
    have := ArgAt.mk_row (E := E) (W := W) (t := 25) (z := 1) (i := j) (n := len) (b := b) (off := off) (cap := cap) (cs := ((List.range len).map B).map cellU) sl22
      (by intro e; have := congrArg List.length e; simp at this; omega) hl (fun k v hk => ?_)
    · exact this
    · have hk2 : k < len := by
        have := (List.getElem?_eq_some_iff.1 hk).1
        simpa using this
      have hv : v = cellU (B k) := by
        simp [hk2] at hk
        exact hk.symm
      subst hv
      exact ⟨rfl, _, by have := (hi k hk2).1; rw [add_none] at this; exact this, fun ι => .int _ _⟩
theorem bytes_arg {H : Type} {enc : TypeId × Value → H} {W : World} {base fuel : Nat} {spare : Nat → Bool} {held : Bool} (j : Nat) {cs : List Value} {x : DataW H × List MemPlace}
    (hf : DataW.trod enc Try.prog W base spare held fuel 25 cs = some x) :
    ∃ v, cs = [v] ∧ ∃ (l : List Nat) (vl : AV) (o : AO) (r : Option (Nat × Nat × List AV)), (∀ x, x ∈ l → x < 256) ∧ ArgB j vl o l ∧ ArgAt E W 25 1 j l.length v (l.map cellU) vl o r ∧ l.length < 9223372036854775808 := by
  rcases open_ints Try.underlying25 Try.underlying5 (by kernel_rfl) hf with ⟨hcs, _⟩ | ⟨a, len', cap', zs, hcs, _, hl, hmx, hm, _, hi, hw⟩
  · obtain ⟨l, vl, o, r, h1, h2, h3⟩ := arg_nil (W := W) j
    refine ⟨_, hcs, [], _, _, _, (fun x h => by cases h), .nil, ArgAt.mk_nil sl22, by decide⟩
  · refine ⟨_, hcs, ?_⟩
    obtain ⟨l, vl, o, r, h1, h2, h3⟩ := arg_bytes (W := W) j (a := a) (len := len') (cap := cap') (B := fun i => (zs.getD i 0).toNat) hl fun i hlt => by
      have hlz : i < zs.length := by rw [hm]; split <;> omega
      have h1 := hi i hlz
      have h2 := hw (zs.getD i 0) (by rw [List.getD_eq_getElem?_getD, List.getElem?_eq_getElem hlz]; exact List.getElem_mem hlz)
      have h3 : 0 ≤ zs.getD i 0 ∧ zs.getD i 0 ≤ 255 := by
        simp only [Lit.wf, Bool.and_eq_true, decide_eq_true_eq] at h2
        exact h2
      refine ⟨?_, by omega⟩
      rw [h1]
      congr 2
      show zs.getD i 0 = Int.ofNat (zs.getD i 0).toNat
      have := Int.toNat_of_nonneg h3.1
      exact this.symm
    have hlen : l.length ≤ len' := by
      have hv := h3.vr (fun _ => r.map fun q => ⟨q.1, q.2.1, 0⟩) (fun q hq => ⟨0, by simp [hq]⟩)
      cases h2 with
      | nil => exact Nat.zero_le _
      | zero => exact Nat.zero_le _
      | row _ => cases hv; exact Nat.le_refl _
    exact ⟨l, vl, o, r, h1, h2, h3, by have : maxLen = 9223372036854775807 := rfl; omega⟩
theorem law_at {P : Program} {f : Nat} {args : List AV} {args' : Array Value} {B : Prot} (hB : ∀ i, ¬ B.rs i) {W : World} (hall : ∀ k, k < W.heap.size → B.all k) {ι : Ren} {st : ASt} (hsr : SR B W ι st W) (hv : VRs ι args args')
    (h : AtMem P f args st (.bool true)) : Calls P f args' W fun e w' => e = .returned (.bool true) ∧ Below W.heap.size W w' := by
  have := (h B W ι W args' hB hsr hv).2
  rw [callsIn_wide] at this
  refine this.mono ?_
  rintro e w' ⟨⟨v, st'⟩, hv, x, ι', rfl, _, h2, h3⟩
  simp only at hv h3
  subst hv
  cases h3
  exact ⟨rfl, h2.below.os, h2.below.tape, h2.below.output, h2.below.size, fun k hk => h2.below.block k (hall k hk)⟩
def row1 (r0 : Option (Nat × Nat × List AV)) : Nat → Option (Nat × Nat × List AV) := fun i => if i = 0 then r0 else none
end
end Go.Proofs.Ytlnohbilfogheaa.psz
end
end
