/-
  OWN WORK, A PART: an abstract machine for the program's text that the kernel can run, and the proof that it is sound: what it answers is what the program answers; contracts of functions by it. No condition.
-/
import Derived.Test.YtidmijpfoodkoaaRows
import Derived.Test.YtidmijpfoodkoaaWaF
section
open Go Go.Ax Go.Proofs
namespace Go.Proofs.Ytidmijpfoodkoaa.gho
set_option linter.unusedVariables false
def fl0 : Fl := ⟨[], [], [], []⟩
def nI (n : Nat) : AV := .int .i64 (.ofNat n)
def gU (z : Int) : AV := .int .u64 z
def nilA : AV := .slice none 0 (.known 0)
def sU (i n : Nat) : AV := .slice (some (i, 0)) n (.atl n)
noncomputable def EI : Env := envEx Try.prog [0, 3, 4, 48, 57] [(54, Try.f54), (44, Try.f44), (28, Try.f28), (27, Try.f27)] []
noncomputable def M1 (R : AO) : ASt := mkSt [(0, R)] 1
noncomputable def M2 (R R1 : AO) : ASt := mkSt [(0, R), (1, R1)] 2
-- Index
noncomputable def c54 : Code := Option.getD Try.f54.body .skip
noncomputable def L54 : Code := lopB (blkB (seqR (seqL (dropC 0 c54))))
noncomputable def fr54 (g : Int) (n i : Nat) : AFr := xFr [(0, sU 0 n), (1, gU g), (4, nI 0), (7, nI n), (8, nI i)] 19
noncomputable def tAr (g a : Int) (n i : Nat) (R : AO) : Tr (Exit × AFr × ASt) := (TM EI noSum [] fl0 60).ex ⟨[14, 15], [], [9, 16], []⟩ none L54 (fr54 g n i) (M1 R)
noncomputable def tAz (g : Int) (n : Nat) (R : AO) : Tr (Exit × AFr × ASt) := (TM EI noSum [] fl0 60).ex fl0 none (dropC 1 c54) (fr54 g n n) (M1 R)
noncomputable def tA0 (g : Int) : Tr (AV × ASt) := (TM EI noSum [] fl0 60).call 54 [nilA, gU g] (mkSt [] 0)
noncomputable def tA1 (g : Int) : Tr (AV × ASt) := (TM EI noSum [] fl0 60).call 54 [.slice0, gU g] (mkSt [] 0)
noncomputable def tAc (q : CallT) (V : AV) (g z : Int) (S : ASt) : Tr (AV × ASt) := (TM EI (onlyC [54] q) [(44, ⟨[7], [], [], []⟩)] fl0 60).call 44 [V, gU g] S
-- place
noncomputable def c28 : Code := Option.getD Try.f28.body .skip
noncomputable def L28 : Code := lopB (blkB (seqR (seqL (dropC 0 c28))))
noncomputable def fr28 (g : Int) (n i : Nat) : AFr := xFr [(0, sU 0 n), (1, gU g), (4, nI 0), (5, nI i)] 19
noncomputable def tBr (g a : Int) (n i : Nat) (R : AO) : Tr (Exit × AFr × ASt) := (TM EI noSum [] fl0 60).ex ⟨[14, 15], [], [9, 17], []⟩ none L28 (fr28 g n i) (M1 R)
noncomputable def tBz (g : Int) (n : Nat) (R : AO) : Tr (Exit × AFr × ASt) := (TM EI noSum [] fl0 60).ex fl0 none (dropC 1 c28) (fr28 g n n) (M1 R)
-- same
noncomputable def c27 : Code := Option.getD Try.f27.body .skip
noncomputable def L27 : Code := lopB (blkB (seqR (seqL (dropC 1 c27))))
noncomputable def fr27 (n i : Nat) : AFr := xFr [(0, sU 0 n), (1, sU 1 n), (4, .bool false), (5, nI i)] 26
noncomputable def tCa (n : Nat) (R R1 : AO) : Tr (Exit × AFr × ASt) := (TM EI noSum [] fl0 60).ex ⟨[10], [], [], []⟩ none (preC 1 c27) { m := putArgs [sU 0 n, sU 1 n] 0 .e, n := 26, defs := [] } (M2 R R1)
noncomputable def tCr (n i : Nat) (a : Int) (R R1 : AO) : Tr (Exit × AFr × ASt) := (TM EI noSum [] fl0 60).ex ⟨[19, 20, 23, 24, 25], [], [14], []⟩ none L27 (fr27 n i) (M2 R R1)
noncomputable def tCz (n : Nat) (R R1 : AO) : Tr (Exit × AFr × ASt) := (TM EI noSum [] fl0 60).ex fl0 none (dropC 2 c27) (fr27 n n) (M2 R R1)
noncomputable def vcAr_s0 (R : AO) : ASt := mkSt [(0, R)] 1
theorem vcAr (g : Int) (a : Int) (n : Nat) (i : Nat) (R : AO) (Q : Exit × AFr × ASt → Prop) (Q2 : Exit × Option AV → Prop) :
  (ifB (ltF (.ofNat i) (.ofNat n)) (still (vcAr_s0 R) (aIndexAddr EI 57 (.slice (some (0, 0)) n (.atl n)) (.int .i64 (.ofNat i))) = some (.ptr (some (0, i)), vcAr_s0 R) ∧ aLoad EI 48 (.ptr (some (0, i))) (vcAr_s0 R) = some (.int .u64 a, vcAr_s0 R) ∧ ifB (eqF g a) (Q2 (.ret, some (.int .i64 (.ofNat i)))) (Q (.normal, xFr [(0, .slice (some (0, 0)) n (.atl n)), (1, .int .u64 g), (4, .int .i64 (.ofNat 0)), (7, .int .i64 (.ofNat n)), (8, .int .i64 (wrapF .i64 (.ofNat i + .ofNat 1)))] 19, vcAr_s0 R))) (Q (.exit 0, xFr [(0, .slice (some (0, 0)) n (.atl n)), (1, .int .u64 g), (4, .int .i64 (.ofNat 0)), (7, .int .i64 (.ofNat n)), (8, .int .i64 (.ofNat i))] 19, vcAr_s0 R))) =
  (tAr g a n i R).allY (mixQ EI Try.f54 [0, 1, 4, 7, 8] [0, 1, 2, 3] Q Q2) (.b (.v (.ptr (some (0, i)), vcAr_s0 R) (.v (.int .u64 a, vcAr_s0 R) (.b .nil .nil))) .nil) := by kernel_rfl
theorem vcAz (g : Int) (n : Nat) (R : AO) (Q : Exit × Option AV → Prop) :
  (Q (.ret, some (.int .i64 (Int.negSucc 0)))) =
  (tAz g n R).allY (fun r => Q (r.1, ans (leaveA EI Try.f54 r.2.1 r.2.2))) (.nil) := by kernel_rfl
noncomputable def vcA0_s0 : ASt := mkSt [] 0
theorem vcA0 (g : Int) (Q : AV × ASt → Prop) :
  (Q (.int .i64 (Int.negSucc 0), vcA0_s0)) =
  (tA0 g).allY (fun r => Q (r.1, canS [0, 1, 2, 3] r.2)) (.nil) := by kernel_rfl
noncomputable def vcA1_s0 : ASt := mkSt [] 0
theorem vcA1 (g : Int) (Q : AV × ASt → Prop) :
  (Q (.int .i64 (Int.negSucc 0), vcA1_s0)) =
  (tA1 g).allY (fun r => Q (r.1, canS [0, 1, 2, 3] r.2)) (.nil) := by kernel_rfl
noncomputable def vcBr_s0 (R : AO) : ASt := mkSt [(0, R)] 1
theorem vcBr (g : Int) (a : Int) (n : Nat) (i : Nat) (R : AO) (Q : Exit × AFr × ASt → Prop) (Q2 : Exit × Option AV → Prop) :
  (ifB (ltF (.ofNat i) (.ofNat n)) (still (vcBr_s0 R) (aIndexAddr EI 57 (.slice (some (0, 0)) n (.atl n)) (.int .i64 (.ofNat i))) = some (.ptr (some (0, i)), vcBr_s0 R) ∧ aLoad EI 48 (.ptr (some (0, i))) (vcBr_s0 R) = some (.int .u64 a, vcBr_s0 R) ∧ ifB (eqF a g) (Q2 (.ret, some (.int .i64 (.ofNat i)))) (Q (.normal, xFr [(0, .slice (some (0, 0)) n (.atl n)), (1, .int .u64 g), (4, .int .i64 (.ofNat 0)), (5, .int .i64 (wrapF .i64 (.ofNat i + .ofNat 1)))] 19, vcBr_s0 R))) (Q (.exit 0, xFr [(0, .slice (some (0, 0)) n (.atl n)), (1, .int .u64 g), (4, .int .i64 (.ofNat 0)), (5, .int .i64 (.ofNat i))] 19, vcBr_s0 R))) =
  (tBr g a n i R).allY (mixQ EI Try.f28 [0, 1, 4, 5] [0, 1, 2, 3] Q Q2) (.b (.v (.ptr (some (0, i)), vcBr_s0 R) (.v (.int .u64 a, vcBr_s0 R) (.b .nil .nil))) .nil) := by kernel_rfl
theorem vcBz (g : Int) (n : Nat) (R : AO) (Q : Exit × Option AV → Prop) :
  (Q (.ret, some (.int .i64 (Int.negSucc 0)))) =
  (tBz g n R).allY (fun r => Q (r.1, ans (leaveA EI Try.f28 r.2.1 r.2.2))) (.nil) := by kernel_rfl
noncomputable def vcCa_s0 (R : AO) (R1 : AO) : ASt := mkSt [(0, R), (1, R1)] 2
theorem vcCa (n : Nat) (R : AO) (R1 : AO) (Q : Exit × AFr × ASt → Prop) (Q2 : Exit × Option AV → Prop) :
  (still (vcCa_s0 R R1) (aBin EI .neq 3 (.tmp 7) (.tmp 9) (.int .i64 (.ofNat n)) (.int .i64 (.ofNat n))) = some (.bool false, vcCa_s0 R R1) ∧ Q (.normal, xFr [(0, .slice (some (0, 0)) n (.atl n)), (1, .slice (some (1, 0)) n (.atl n)), (4, .bool false)] 26, vcCa_s0 R R1)) =
  (tCa n R R1).allY (mixQ EI Try.f27 [0, 1, 4] [0, 1, 2, 3] Q Q2) (.v (.bool false, vcCa_s0 R R1) .nil) := by kernel_rfl
noncomputable def vcCr_s0 (R : AO) (R1 : AO) : ASt := mkSt [(0, R), (1, R1)] 11
noncomputable def vcCr_s1 (R : AO) (R1 : AO) : ASt := mkSt [(0, R), (1, R1)] 2
theorem vcCr (n : Nat) (i : Nat) (a : Int) (R : AO) (R1 : AO) (Q : Exit × AFr × ASt → Prop) :
  (ifB (ltF (.ofNat i) (.ofNat n)) (still (vcCr_s0 R R1) (aIndexAddr EI 57 (.slice (some (0, 0)) n (.atl n)) (.int .i64 (.ofNat i))) = some (.ptr (some (0, i)), vcCr_s0 R R1) ∧ aLoad EI 48 (.ptr (some (0, i))) (vcCr_s0 R R1) = some (.int .u64 a, vcCr_s0 R R1) ∧ still (vcCr_s0 R R1) (aIndexAddr EI 57 (.slice (some (1, 0)) n (.atl n)) (.int .i64 (.ofNat i))) = some (.ptr (some (1, i)), vcCr_s0 R R1) ∧ aLoad EI 48 (.ptr (some (1, i))) (vcCr_s0 R R1) = some (.int .u64 a, vcCr_s0 R R1) ∧ still (vcCr_s0 R R1) (aBin EI .neq 48 (.tmp 20) (.tmp 24) (.int .u64 a) (.int .u64 a)) = some (.bool false, vcCr_s0 R R1) ∧ Q (.normal, xFr [(0, .slice (some (0, 0)) n (.atl n)), (1, .slice (some (1, 0)) n (.atl n)), (4, .bool false), (5, .int .i64 (wrapF .i64 (.ofNat i + .ofNat 1)))] 26, vcCr_s0 R R1)) (Q (.exit 0, xFr [(0, .slice (some (0, 0)) n (.atl n)), (1, .slice (some (1, 0)) n (.atl n)), (4, .bool false), (5, .int .i64 (.ofNat i))] 26, vcCr_s1 R R1))) =
  (tCr n i a R R1).allY (fun r => Q (canR [0, 1, 4, 5] [0, 1, 2, 3] r)) (.b (.v (.ptr (some (0, i)), vcCr_s0 R R1) (.v (.int .u64 a, vcCr_s0 R R1) (.v (.ptr (some (1, i)), vcCr_s0 R R1) (.v (.int .u64 a, vcCr_s0 R R1) (.v (.bool false, vcCr_s0 R R1) .nil))))) .nil) := by kernel_rfl
theorem vcCz (n : Nat) (R : AO) (R1 : AO) (Q : Exit × Option AV → Prop) :
  (Q (.ret, some (.bool true))) =
  (tCz n R R1).allY (fun r => Q (r.1, ans (leaveA EI Try.f27 r.2.1 r.2.2))) (.nil) := by kernel_rfl
end Go.Proofs.Ytidmijpfoodkoaa.gho
end

section
open Go Go.Ax Go.Proofs
namespace Go.Proofs.Ytidmijpfoodkoaa.gho
set_option linter.unusedVariables false
theorem EIok : Env.Ok Try.prog EI := envEx_ok (xs := []) ⟨⟨Try.func54, Try.call54⟩, ⟨Try.func44, Try.call44⟩, ⟨Try.func28, Try.call28⟩, ⟨Try.func27, Try.call27⟩, trivial⟩ trivial (by kernel_rfl)
theorem is57 : sliceT EI 57 = some 1 := by kernel_rfl
theorem ic48 : cellT EI 48 = true := by kernel_rfl
def rowU (x : List Int) : AO := .cells (x.map gU) false
theorem gU_refs {c : List Int} : ∀ v, v ∈ c.map gU → refsV 0 v := fun v hv => by
  obtain ⟨z, _, rfl⟩ := List.mem_map.1 hv
  simp [gU, refsV]
section
variable {x y : List Int} {i n k : Nat} {a g : Int} {S : ASt} {p : Int → Bool} {E : Env} {c : Cap}
def idxP (p : Int → Bool) (x : List Int) : Int := match x.findIdx? p with
  | some i => .ofNat i
  | none => .negSucc 0
theorem idx_found (h0 : ∀ j r, j < i → x[j]? = some r → p r = false) (hr : x[i]? = some a) (hp : p a = true) : idxP p x = .ofNat i := by
  have hi : i < x.length := (List.getElem?_eq_some_iff.1 hr).1
  have h : x.findIdx? p = some i := by
    rw [List.findIdx?_eq_some_iff_getElem]
    refine ⟨hi, ?_, fun j hj => ?_⟩
    · rw [List.getElem?_eq_getElem hi] at hr
      simp only [Option.some.injEq] at hr
      rw [hr]; exact hp
    · have := h0 j x[j] hj (List.getElem?_eq_getElem (by omega))
      simp [this]
  unfold idxP
  rw [h]
theorem idx_none (h0 : ∀ j r, j < x.length → x[j]? = some r → p r = false) : idxP p x = .negSucc 0 := by
  have h : x.findIdx? p = none := by
    rw [List.findIdx?_eq_none_iff]
    intro r hr
    obtain ⟨j, hj, e⟩ := List.getElem_of_mem hr
    exact h0 j r hj (by rw [List.getElem?_eq_getElem hj, e])
  unfold idxP
  rw [h]
theorem idx_any : (!ltF (idxP p x) (.ofNat 0)) = x.any p := by
  cases h : x.any p with
  | true =>
    rw [List.any_eq_true] at h
    obtain ⟨r, hx, hp⟩ := h
    obtain ⟨i, hi⟩ : ∃ i, x.findIdx? p = some i := by
      cases e : x.findIdx? p with
      | some i => exact ⟨i, rfl⟩
      | none =>
        rw [List.findIdx?_eq_none_iff] at e
        rw [e r hx] at hp; cases hp
    unfold idxP
    rw [hi]
    show (!ltF (.ofNat i) (.ofNat 0)) = true
    rw [ltF_nn]; simp
  | false =>
    rw [List.any_eq_false] at h
    have e : x.findIdx? p = none := by
      rw [List.findIdx?_eq_none_iff]
      intro r hx
      have := h r hx
      simpa using this
    unfold idxP
    rw [e]; rfl
theorem wI {i n : Nat} (hi : i < n) (hn : n < 4611686018427387904) : wrapF .i64 (Int.ofNat i + Int.ofNat 1) = .ofNat (i + 1) := by
  rw [show (Int.ofNat i + Int.ofNat 1) = Int.ofNat (i + 1) from rfl, wrap_nat (by omega)]
theorem nlt' {P : Prop} (hi : i < n) (h : ltF (.ofNat i) (.ofNat n) = false) : P := by
  rw [ltF_nn] at h
  exact absurd hi (of_decide_eq_false h)
theorem uidx (hE : sliceT E 57 = some 1) (hi : i < n) : still S (aIndexAddr E 57 (.slice (some (k, 0)) n c) (.int .i64 (.ofNat i))) = some (.ptr (some (k, i)), S) := by
  have := idx_at (E := E) (t := 57) (i := k) (o := 0) (n := n) (c := c) (kd := .i64) hE hi
  rw [Nat.zero_add, Nat.mul_one] at this
  exact still_of this
theorem uload {rw : Bool} {cs : List AV} (hE : cellT E 48 = true) (hS : S.h.get k = some (.cells cs rw)) (ha : cs[i]? = some (gU a)) : aLoad E 48 (.ptr (some (k, i))) S = some (.int .u64 a, S) := load_at hE hS ha
theorem urow (ha : x[i]? = some a) : (x.map gU)[i]? = some (gU a) := by rw [List.getElem?_map, ha]; rfl
noncomputable def m1 (x : List Int) : ASt := M1 (rowU x)
def QA1 (x : List Int) (g : Int) (i : Nat) (q : Exit × AFr × ASt) : Prop := ((∃ r, x[i]? = some r ∧ eqF g r = false) ∧ Stops 1 .normal (fr54 g x.length (i + 1)) (m1 x) q) ∨ (i = x.length ∧ Stops 1 (.exit 0) (fr54 g x.length i) (m1 x) q)
def QA2 (x : List Int) (g : Int) (i : Nat) (q : Exit × Option AV) : Prop := q.1 = .ret ∧ (∃ r, x[i]? = some r ∧ eqF g r = true) ∧ q.2 = some (nI i)
def QAL (x : List Int) (g : Int) (i : Nat) (q : Exit × AFr × ASt) : Prop := (q.1 = .ret ∧ (∃ r, x[i]? = some r ∧ eqF g r = true) ∧ ans (leaveA EI Try.f54 q.2.1 q.2.2) = some (nI i)) ∨ QA1 x g i q
theorem roundA (hl : x.length < 4611686018427387904) (hi : i ≤ x.length) : Trip Try.prog 1 none L54 (fr54 g x.length i) (m1 x) (QAL x g i) := by
  have fin : ∀ q : Exit × AFr × ASt, q.1 ≠ .ret → QA1 x g i (canR [0, 1, 4, 7, 8] [0, 1, 2, 3] q) → QAL x g i q := fun q _ h => .inr (h.imp (fun h => ⟨h.1, h.2.can⟩) (fun h => ⟨h.1, h.2.can⟩))
  have fin2 : ∀ q : Exit × AFr × ASt, q.1 = .ret → QA2 x g i (.ret, ans (leaveA EI Try.f54 q.2.1 q.2.2)) → QAL x g i q := fun q h1 h => .inl ⟨h1, h.2.1, h.2.2⟩
  by_cases e : i < x.length
  · obtain ⟨r, hr⟩ : ∃ r, x[i]? = some r := ⟨_, List.getElem?_eq_getElem e⟩
    refine Trip.runM EIok noSum_ok (Eq.mp (vcAr g r x.length i (rowU x) (QA1 x g i) (QA2 x g i)) (ifB_mk (fun _ => ⟨uidx is57 e, uload (rw := false) ic48 (by kernel_rfl) (urow hr), ifB_mk (fun h => ⟨rfl, ⟨r, hr, h⟩, rfl⟩) (fun h => .inl ⟨⟨r, hr, h⟩, rfl, ?_⟩)⟩) fun h => nlt' e h)) fin2 fin
    rw [wI e hl]; exact Wk.refl _ _ _
  · have ek : i = x.length := by omega
    refine Trip.runM EIok noSum_ok (Eq.mp (vcAr g 0 x.length i (rowU x) (QA1 x g i) (QA2 x g i)) (ifB_mk (fun h => ?_) fun _ => .inr ⟨ek, rfl, Wk.refl _ _ _⟩)) fin2 fin
    rw [ltF_nn] at h
    exact absurd (of_decide_eq_true h) e
def QZ (f : Func) (z : Int) (q : Exit × AFr × ASt) : Prop := (q.1 = .normal ∨ q.1 = .ret) ∧ ans (leaveA EI f q.2.1 q.2.2) = some (.int .i64 z)
theorem shape54 : c54 = .seq (seqL c54) (.seq (.seq (seqL (seqL (dropC 0 c54))) (.block 0 (.loop L54))) (dropC 1 c54)) := by kernel_rfl
theorem at54 (hl : x.length < 4611686018427387904) : AtMem Try.prog 54 [sU 0 x.length, gU g] (m1 x) (.int .i64 (idxP (eqF g) x)) := by
  refine AtMem.of_trip EIok (fn := Try.f54) (by kernel_rfl) (c := c54) (by kernel_rfl) (by kernel_rfl) ?_
  have hfr : ({ m := putArgs [sU 0 x.length, gU g] 0 .e, n := Try.f54.ntmps, defs := [] } : AFr) = { m := putArgs [sU 0 x.length, gU g] 0 .e, n := 19, defs := [] } := by kernel_rfl
  rw [hfr, shape54]
  refine Trip.seqC EIok noSum_ok (n := 60) [0, 1, 4] [0, 1, 2, 3] (F := xFr [(0, sU 0 x.length), (1, gU g), (4, nI 0)] 19) (S := m1 x) (by kernel_rfl) ?_
  refine Trip.seq (R := fun q => (q.1 ≠ .normal ∧ QZ Try.f54 (idxP (eqF g) x) q) ∨ ((∀ j r, j < x.length → x[j]? = some r → eqF g r = false) ∧ Stops 1 .normal (fr54 g x.length x.length) (m1 x) q))
    (Trip.seqC EIok noSum_ok (n := 60) [0, 1, 4, 7, 8] [0, 1, 2, 3] (F := fr54 g x.length 0) (S := m1 x) (by kernel_rfl) (Trip.block (Trip.loop (fun μ fr st => ∃ k, k ≤ x.length ∧ μ = x.length - k ∧ (∀ j r, j < k → x[j]? = some r → eqF g r = false) ∧ fr = fr54 g x.length k ∧ st = m1 x) ?_ x.length ⟨0, by omega, by omega, fun j r hj => absurd hj (by omega), rfl, rfl⟩))) (fun fr' st' hq => ?_) (fun e fr' st' hne hq => ?_)
  · rintro μ fr st ⟨k, hk, rfl, h0, rfl, rfl⟩
    refine (roundA hl hk).mono ?_
    rintro ⟨e, fr', st'⟩ (⟨h1, ⟨r, h2, h3⟩, h4⟩ | ⟨⟨r, h2, h3⟩, h4, h5⟩ | ⟨h2, h4, h5⟩)
    · simp only at h1
      subst h1
      refine .inl ⟨by simp, .inr rfl, ?_⟩
      rw [idx_found h0 h2 h3]; exact h4
    · simp only at h4
      subst h4
      have hk2 : k < x.length := (List.getElem?_eq_some_iff.1 h2).1
      refine ⟨x.length - (k + 1), _, _, by omega, h5, k + 1, by omega, rfl, fun j r' hj hr' => ?_, rfl, rfl⟩
      by_cases e : j = k
      · subst e; rw [h2] at hr'; cases hr'; exact h3
      · exact h0 j r' (by omega) hr'
    · simp only at h4
      subst h4
      subst h2
      exact ⟨fun _ => .inr ⟨h0, rfl, h5⟩, fun h => absurd rfl h⟩
  · rcases hq with ⟨h1, _⟩ | ⟨h0, h1, h2⟩
    · exact absurd rfl h1
    · refine Trip.less h2 ((Trip.runY EIok noSum_ok (Eq.mp (vcAz g x.length (rowU x) (fun q => q = (.ret, some (.int .i64 (.negSucc 0))))) rfl)).mono fun q hq => ⟨.inr (congrArg Prod.fst hq), ?_⟩)
      rw [idx_none h0]
      exact congrArg Prod.snd hq
  · rcases hq with ⟨_, h1⟩ | ⟨_, h1, _⟩
    · exact h1
    · exact absurd h1 hne
def QB1 (x : List Int) (g : Int) (i : Nat) (q : Exit × AFr × ASt) : Prop := ((∃ r, x[i]? = some r ∧ eqF r g = false) ∧ Stops 1 .normal (fr28 g x.length (i + 1)) (m1 x) q) ∨ (i = x.length ∧ Stops 1 (.exit 0) (fr28 g x.length i) (m1 x) q)
def QB2 (x : List Int) (g : Int) (i : Nat) (q : Exit × Option AV) : Prop := q.1 = .ret ∧ (∃ r, x[i]? = some r ∧ eqF r g = true) ∧ q.2 = some (nI i)
def QBL (x : List Int) (g : Int) (i : Nat) (q : Exit × AFr × ASt) : Prop := (q.1 = .ret ∧ (∃ r, x[i]? = some r ∧ eqF r g = true) ∧ ans (leaveA EI Try.f28 q.2.1 q.2.2) = some (nI i)) ∨ QB1 x g i q
theorem roundB (hl : x.length < 4611686018427387904) (hi : i ≤ x.length) : Trip Try.prog 1 none L28 (fr28 g x.length i) (m1 x) (QBL x g i) := by
  have fin : ∀ q : Exit × AFr × ASt, q.1 ≠ .ret → QB1 x g i (canR [0, 1, 4, 5] [0, 1, 2, 3] q) → QBL x g i q := fun q _ h => .inr (h.imp (fun h => ⟨h.1, h.2.can⟩) (fun h => ⟨h.1, h.2.can⟩))
  have fin2 : ∀ q : Exit × AFr × ASt, q.1 = .ret → QB2 x g i (.ret, ans (leaveA EI Try.f28 q.2.1 q.2.2)) → QBL x g i q := fun q h1 h => .inl ⟨h1, h.2.1, h.2.2⟩
  by_cases e : i < x.length
  · obtain ⟨r, hr⟩ : ∃ r, x[i]? = some r := ⟨_, List.getElem?_eq_getElem e⟩
    refine Trip.runM EIok noSum_ok (Eq.mp (vcBr g r x.length i (rowU x) (QB1 x g i) (QB2 x g i)) (ifB_mk (fun _ => ⟨uidx is57 e, uload (rw := false) ic48 (by kernel_rfl) (urow hr), ifB_mk (fun h => ⟨rfl, ⟨r, hr, h⟩, rfl⟩) (fun h => .inl ⟨⟨r, hr, h⟩, rfl, ?_⟩)⟩) fun h => nlt' e h)) fin2 fin
    rw [wI e hl]; exact Wk.refl _ _ _
  · have ek : i = x.length := by omega
    refine Trip.runM EIok noSum_ok (Eq.mp (vcBr g 0 x.length i (rowU x) (QB1 x g i) (QB2 x g i)) (ifB_mk (fun h => ?_) fun _ => .inr ⟨ek, rfl, Wk.refl _ _ _⟩)) fin2 fin
    rw [ltF_nn] at h
    exact absurd (of_decide_eq_true h) e
theorem shape28 : c28 = .seq (seqL c28) (.seq (.seq (seqL (seqL (dropC 0 c28))) (.block 0 (.loop L28))) (dropC 1 c28)) := by kernel_rfl
theorem at28 (hl : x.length < 4611686018427387904) : AtMem Try.prog 28 [sU 0 x.length, gU g] (m1 x) (.int .i64 (idxP (fun r => eqF r g) x)) := by
  refine AtMem.of_trip EIok (fn := Try.f28) (by kernel_rfl) (c := c28) (by kernel_rfl) (by kernel_rfl) ?_
  have hfr : ({ m := putArgs [sU 0 x.length, gU g] 0 .e, n := Try.f28.ntmps, defs := [] } : AFr) = { m := putArgs [sU 0 x.length, gU g] 0 .e, n := 19, defs := [] } := by kernel_rfl
  rw [hfr, shape28]
  refine Trip.seqC EIok noSum_ok (n := 60) [0, 1, 4] [0, 1, 2, 3] (F := xFr [(0, sU 0 x.length), (1, gU g), (4, nI 0)] 19) (S := m1 x) (by kernel_rfl) ?_
  refine Trip.seq (R := fun q => (q.1 ≠ .normal ∧ QZ Try.f28 (idxP (fun r => eqF r g) x) q) ∨ ((∀ j r, j < x.length → x[j]? = some r → eqF r g = false) ∧ Stops 1 .normal (fr28 g x.length x.length) (m1 x) q))
    (Trip.seqC EIok noSum_ok (n := 60) [0, 1, 4, 5] [0, 1, 2, 3] (F := fr28 g x.length 0) (S := m1 x) (by kernel_rfl) (Trip.block (Trip.loop (fun μ fr st => ∃ k, k ≤ x.length ∧ μ = x.length - k ∧ (∀ j r, j < k → x[j]? = some r → eqF r g = false) ∧ fr = fr28 g x.length k ∧ st = m1 x) ?_ x.length ⟨0, by omega, by omega, fun j r hj => absurd hj (by omega), rfl, rfl⟩))) (fun fr' st' hq => ?_) (fun e fr' st' hne hq => ?_)
  · rintro μ fr st ⟨k, hk, rfl, h0, rfl, rfl⟩
    refine (roundB hl hk).mono ?_
    rintro ⟨e, fr', st'⟩ (⟨h1, ⟨r, h2, h3⟩, h4⟩ | ⟨⟨r, h2, h3⟩, h4, h5⟩ | ⟨h2, h4, h5⟩)
    · simp only at h1
      subst h1
      refine .inl ⟨by simp, .inr rfl, ?_⟩
      rw [idx_found (p := fun r => eqF r g) h0 h2 h3]; exact h4
    · simp only at h4
      subst h4
      have hk2 : k < x.length := (List.getElem?_eq_some_iff.1 h2).1
      refine ⟨x.length - (k + 1), _, _, by omega, h5, k + 1, by omega, rfl, fun j r' hj hr' => ?_, rfl, rfl⟩
      by_cases e : j = k
      · subst e; rw [h2] at hr'; cases hr'; exact h3
      · exact h0 j r' (by omega) hr'
    · simp only at h4
      subst h4
      subst h2
      exact ⟨fun _ => .inr ⟨h0, rfl, h5⟩, fun h => absurd rfl h⟩
  · rcases hq with ⟨h1, _⟩ | ⟨h0, h1, h2⟩
    · exact absurd rfl h1
    · refine Trip.less h2 ((Trip.runY EIok noSum_ok (Eq.mp (vcBz g x.length (rowU x) (fun q => q = (.ret, some (.int .i64 (.negSucc 0))))) rfl)).mono fun q hq => ⟨.inr (congrArg Prod.fst hq), ?_⟩)
      rw [idx_none (p := fun r => eqF r g) h0]
      exact congrArg Prod.snd hq
  · rcases hq with ⟨_, h1⟩ | ⟨_, h1, _⟩
    · exact h1
    · exact absurd h1 hne
noncomputable def m2 (x : List Int) : ASt := M2 (rowU x) (rowU x)
theorem une {t t' ty : Nat} {kd : IntKind} (h : ∀ z : Int, aBin E .neq ty (.tmp t) (.tmp t') (.int kd z) (.int kd z) = some (.bool (!eqF z z))) (z : Int) : still S (aBin E .neq ty (.tmp t) (.tmp t') (.int kd z) (.int kd z)) = some (.bool false, S) := by
  rw [h, eqF_self]; rfl
theorem rowU_came : Came (rowU x) := .inr ⟨_, _, rfl, gU_refs⟩
def QC (x : List Int) (i : Nat) (q : Exit × AFr × ASt) : Prop := (i < x.length ∧ Stops 2 .normal (fr27 x.length (i + 1)) (m2 x) q) ∨ (i = x.length ∧ Stops 2 (.exit 0) (fr27 x.length i) (m2 x) q)
theorem roundC (hl : x.length < 4611686018427387904) (hi : i ≤ x.length) : Trip Try.prog 2 none L27 (fr27 x.length i) (m2 x) (QC x i) := by
  have fin : ∀ {a : Int} {ys}, (tCr x.length i a (rowU x) (rowU x)).allY (fun r => QC x i (canR [0, 1, 4, 5] [0, 1, 2, 3] r)) ys → Trip Try.prog 2 none L27 (fr27 x.length i) (m2 x) (QC x i) := fun h =>
    (Trip.runY EIok noSum_ok h).mono fun r hr => hr.imp (fun h => ⟨h.1, h.2.can⟩) (fun h => ⟨h.1, h.2.can⟩)
  by_cases e : i < x.length
  · obtain ⟨a, ha⟩ : ∃ a, x[i]? = some a := ⟨_, List.getElem?_eq_getElem e⟩
    refine fin (a := a) (Eq.mp (vcCr x.length i a (rowU x) (rowU x) (QC x i)) (ifB_mk (fun _ => ⟨uidx is57 e, uload (rw := false) ic48 (by kernel_rfl) (urow ha), uidx is57 e, uload (rw := false) ic48 (by kernel_rfl) (urow ha), une (fun z => by kernel_rfl) a, .inl ⟨e, rfl, ?_⟩⟩) fun h => nlt' e h))
    rw [wI e hl]
    have hs : StP [0, 1] (vcCr_s0 (rowU x) (rowU x)) [(0, rowU x), (1, rowU x)] := .came rowU_came rfl (by kernel_rfl) (.came rowU_came rfl (by kernel_rfl) .nil)
    exact Wk.heldX (kb := 2) [0, 1] (by kernel_rfl) (by kernel_rfl) [0, 1, 4, 5] (by kernel_rfl) hs
  · have ek : i = x.length := by omega
    refine fin (a := 0) (Eq.mp (vcCr x.length i 0 (rowU x) (rowU x) (QC x i)) (ifB_mk (fun h => ?_) fun _ => .inr ⟨ek, rfl, Wk.refl _ _ _⟩))
    rw [ltF_nn] at h
    exact absurd (of_decide_eq_true h) e
theorem shape27 : dropC 1 c27 = .seq (.seq (seqL (seqL (dropC 1 c27))) (.block 0 (.loop L27))) (dropC 2 c27) := by kernel_rfl
theorem at27 (hl : x.length < 4611686018427387904) : AtMem Try.prog 27 [sU 0 x.length, sU 1 x.length] (m2 x) (.bool true) := by
  refine AtMem.of_trip EIok (fn := Try.f27) (by kernel_rfl) (c := c27) (by kernel_rfl) (by kernel_rfl) ?_
  have hfr : ({ m := putArgs [sU 0 x.length, sU 1 x.length] 0 .e, n := Try.f27.ntmps, defs := [] } : AFr) = { m := putArgs [sU 0 x.length, sU 1 x.length] 0 .e, n := 26, defs := [] } := by kernel_rfl
  rw [hfr]
  refine Trip.preM EIok noSum_ok (fn := Try.f27) (k := 1) (kf := [0, 1, 4]) (ko := [0, 1, 2, 3]) (Q1 := fun q => q = (.normal, xFr [(0, sU 0 x.length), (1, sU 1 x.length), (4, .bool false)] 26, m2 x)) (Q2 := fun _ => False) (by kernel_rfl)
    (Eq.mp (vcCa x.length (rowU x) (rowU x) (fun q => q = (.normal, xFr [(0, sU 0 x.length), (1, sU 1 x.length), (4, .bool false)] 26, m2 x)) (fun _ => False)) ⟨une (fun z => by kernel_rfl) _, by kernel_rfl⟩) ?_ (fun r _ h => h.elim) (fun r h1 _ h => absurd (congrArg Prod.fst h) h1)
  rintro F' S' h
  cases h
  rw [shape27]
  refine Trip.seq (R := Stops 2 .normal (fr27 x.length x.length) (m2 x)) (Trip.seqC EIok noSum_ok (n := 60) [0, 1, 4, 5] [0, 1, 2, 3] (F := fr27 x.length 0) (S := m2 x) (by kernel_rfl) (Trip.block (Trip.loop (fun μ fr st => ∃ k, k ≤ x.length ∧ μ = x.length - k ∧ fr = fr27 x.length k ∧ st = m2 x) ?_ x.length ⟨0, by omega, by omega, rfl, rfl⟩))) (fun fr' st' hq => ?_) (fun e fr' st' hne hq => absurd hq.1 hne)
  · rintro μ fr st ⟨k, hk, rfl, rfl, rfl⟩
    refine (roundC hl hk).mono ?_
    rintro ⟨e, fr', st'⟩ (⟨h2, h4, h5⟩ | ⟨h2, h4, h5⟩)
    · simp only at h4
      subst h4
      exact ⟨x.length - (k + 1), _, _, by omega, h5, k + 1, by omega, rfl, rfl, rfl⟩
    · simp only at h4
      subst h4
      subst h2
      exact ⟨fun _ => ⟨rfl, h5⟩, fun h => absurd rfl h⟩
  · exact Trip.less hq.2 ((Trip.runY EIok noSum_ok (Eq.mp (vcCz x.length (rowU x) (rowU x) (fun q => q = (.ret, some (.bool true)))) rfl)).mono fun q hq => ⟨.inr (congrArg Prod.fst hq), congrArg Prod.snd hq⟩)
inductive SlV (S : ASt) : AV → List Int → Prop
  | nil : SlV S nilA []
  | zero : SlV S .slice0 []
  | row {k o : Nat} {cp : Cap} {cs : List AV} {rw : Bool} {x : List Int} (h : S.h.get k = some (.cells cs rw)) (ht : takeL cs o x.length = some (x.map gU)) : SlV S (.slice (some (k, o)) x.length cp) x
theorem VR.to0 {ι κ : Ren} {q : Nat × Nat} {v : Value} (h : VR ι (.slice (some q) 0 c) v) : VR κ .slice0 v := by
  cases h with
  | slice _ _ _ c' L _ hL hc hl => exact .slice0 _ _
theorem read1 {f : Nat} {v F V : AV} (hV : SlV S V x) (hF : refsV 0 F) (hp : refsV 0 v)
    (hrun : x ≠ [] → AtMem Try.prog f [sU 0 x.length, F] (m1 x) v) (h0 : x = [] → AtMem Try.prog f [nilA, F] (mkSt [] 0) v) (h1 : x = [] → AtMem Try.prog f [.slice0, F] (mkSt [] 0) v) : Call1 Try.prog f [V, F] S (v, S) := by
  have none : ∀ {A A' : AV}, (∀ (ι κ : Ren) y, VR ι A' y → VR κ A y) → AtMem Try.prog f [A, F] (mkSt [] 0) v → Call1 Try.prog f [A', F] S (v, S) := fun {A A'} hA hrun =>
    Call1.read hrun hp (l := []) rfl (fun j x hj => by
      have : (mkSt [] 0).h.get j = Option.none := T.get_e j
      rw [this] at hj; cases hj) (fun j q hq => by simp at hq) fun ι args' hv => ⟨hv.size, fun k y y' hy hy' => by
      match k, hy with
      | 0, hy => simp at hy; subst hy; exact hA ι _ _ (hv.at_ 0 _ y' rfl hy')
      | 1, hy => simp at hy; subst hy; exact (hv.at_ 1 _ y' rfl hy').noRef hF
      | k + 2, hy => simp at hy⟩
  cases hV with
  | nil => exact none (fun ι κ y h => h.noRef (by simp [refsV, nilA])) (h0 rfl)
  | zero => exact none (fun ι κ y h => h.noRef (by simp [refsV])) (h1 rfl)
  | @row k o cp cs rw x h ht =>
    by_cases e : x = []
    · subst e
      exact none (fun ι κ y h => VR.to0 h) (h1 rfl)
    · refine Call1.read (hrun e) hp (l := [(k, o, x.map gU)]) rfl (fun j y hj => ?_) (fun j q hq => ?_) fun ι args' hv => ⟨hv.size, fun i y y' hy hy' => ?_⟩
      · obtain ⟨rfl, rfl⟩ := get1 hj
        exact ⟨_, rfl, rfl⟩
      · match j, hq with
        | 0, hq => simp at hq; subst hq; exact ⟨by simpa using e, gU_refs, cs, rw, h, by rw [List.length_map]; exact ht⟩
        | j + 1, hq => simp at hq
      · match i, hy with
        | 0, hy => simp at hy; subst hy; exact VR.rowR (l := [(k, o, x.map gU)]) rfl rfl rfl (hv.at_ 0 _ y' rfl hy')
        | 1, hy => simp at hy; subst hy; exact (hv.at_ 1 _ y' rfl hy').noRef hF
        | i + 2, hy => simp at hy
theorem index_any {V : AV} (hV : SlV S V x) (hl : x.length < 4611686018427387904) : Call1 Try.prog 54 [V, gU g] S (.int .i64 (idxP (eqF g) x), S) :=
  read1 hV (by simp [refsV, gU]) (by simp [refsV]) (fun _ => at54 hl) (fun e => by subst e; exact AtMem.of_tm EIok noSum_ok (Eq.mp (vcA0 g (fun q => q.1 = .int .i64 (.negSucc 0))) rfl)) (fun e => by subst e; exact AtMem.of_tm EIok noSum_ok (Eq.mp (vcA1 g (fun q => q.1 = .int .i64 (.negSucc 0))) rfl))
end
end Go.Proofs.Ytidmijpfoodkoaa.gho
end

section
open Go Go.Ax Go.Proofs
namespace Go.Proofs.Ytidmijpfoodkoaa.gho
set_option linter.unusedVariables false
def slU (k n : Nat) : AV := .slice (some (k, 0)) n (.rest 1)
def pO (k : Nat) : AV := .ptr (some (k, 0))
def tO (V : AV) : AO := .cells [.map (some 1), V] true
def bxT : AO := .cells [pO 0] true
def bxG (g : Int) : AO := .cells [gU g] true
def bxS (V : AV) : AO := .cells [V] true
def asOf : Code → Code
  | .rangeFunc _ _ a _ => a
  | _ => .skip
def boOf : Code → Code
  | .rangeFunc _ _ _ b => b
  | _ => .skip
noncomputable def EU : Env := envEx Try.prog [0, 3, 4, 28, 48, 49, 51, 52, 54, 56, 57, 73, 89, 91, 93, 94] [(22, Try.f22), (24, Try.f24), (25, Try.f25), (26, Try.f26), (45, Try.f45), (46, Try.f46), (47, Try.f47), (55, Try.f55), (56, Try.f56)] []
noncomputable def flH : List (Nat × Fl) := [(25, ⟨[16], [8], [], []⟩), (46, fl0)]
-- AppendSeq
noncomputable def c56 : Code := Option.getD Try.f56.body .skip
noncomputable def c55 : Code := Option.getD Try.f55.body .skip
noncomputable def L55 : Code := lopB (blkB c55)
noncomputable def r56 : Code := blkB (seqR (seqL (dropC 0 c56)))
noncomputable def as56 : Code := asOf r56
noncomputable def bo56 : Code := boOf r56
def clO (i j : Nat) : AV := .clos 55 [pO i, pO j]
noncomputable def frR : AFr := xFr [(2, pO 5), (6, clO 3 4)] 13
noncomputable def lrU : AO := .loop .ready none frR [7] as56 bo56 6
noncomputable def SU0 (V : AV) (M R : AO) (g : Int) : ASt := mkSt [(0, tO V), (1, M), (2, R), (3, bxT), (4, bxG g)] 5
noncomputable def SU1 (V : AV) (M R : AO) (g : Int) : ASt := mkSt [(0, tO V), (1, M), (2, R), (3, bxT), (4, bxG g), (5, bxS nilA)] 6
noncomputable def SU (V : AV) (M R : AO) (g : Int) (Vs : AV) (X : AO) : ASt := mkSt [(0, tO V), (1, M), (2, R), (3, bxT), (4, bxG g), (5, bxS Vs), (6, .defd), (7, lrU), (8, X)] 9
noncomputable def fr55 (l i j : Nat) : AFr := xFr [(0, .yield l), (1, pO i), (2, pO j)] 21
noncomputable def tUx (V : AV) (M R : AO) (g : Int) (Vs : AV) (X : AO) : Tr (Exit × AFr × ASt) := (TM EU noSum flH ⟨[11], [], [], []⟩ 60).ex ⟨[12, 14], [6, 18], [], []⟩ none L55 (fr55 7 3 4) (SU V M R g Vs X)
noncomputable def tUy (V : AV) (M R : AO) (g p : Int) (Vs : AV) (X : AO) : Tr (Exit × AFr × ASt) := (TM EU noSum flH ⟨[11], [], [], []⟩ 60).ex ⟨[12, 14], [6, 18], [], []⟩ none L55 (fr55 7 3 4) (SU V M R g Vs X)
noncomputable def tUr (V : AV) (M R : AO) (g p : Int) (n : Nat) (Vs : AV) (X W : AO) : Tr (Exit × AFr × ASt) := (TM EU noSum flH ⟨[11], [], [], []⟩ 60).ex ⟨[12, 14], [6, 18], [], []⟩ none L55 (fr55 7 3 4) (SU V M R g Vs X)
noncomputable def frZ : AFr := { m := frR.m, n := 13, defs := [6] }
noncomputable def SUz (V : AV) (M R : AO) (Vs : AV) (X : AO) : ASt := mkSt [(0, tO V), (1, M), (2, R), (5, bxS Vs), (6, .defd), (8, X)] 9
noncomputable def tUz (V : AV) (M R : AO) (Vs : AV) (X : AO) : Tr (Exit × AFr × ASt) := (TM EU noSum [] fl0 60).ex fl0 none (dropC 1 c56) frZ (SUz V M R Vs X)
-- Collect, Up
noncomputable def tUc (q : CallT) (V : AV) (M R : AO) (g : Int) (Vs : AV) (X : AO) : Tr (AV × ASt) := (TM EU (onlyC [56] q) [(47, ⟨[4], [], [], []⟩), (45, fl0), (26, ⟨[], [7, 8], [], []⟩)] fl0 60).call 26 [pO 0, gU g] (mkSt [(0, tO V), (1, M), (2, R)] 3)
noncomputable def vcUx_s0 (V : AV) (M : AO) (R : AO) (g : Int) (Vs : AV) (X : AO) : ASt := mkSt [(0, .cells [.map (some 1), V] true), (1, M), (2, R), (3, .cells [.ptr (some (0, 0))] true), (4, .cells [.int .u64 g] true), (5, .cells [Vs] true), (6, .defd), (7, .loop LoopState.ready none (mkFr [(0, .any), (1, .any), (2, .ptr (some (5, 0))), (3, .any), (4, .any), (5, .any), (6, .clos 55 [.ptr (some (3, 0)), .ptr (some (4, 0))]), (7, .any), (8, .any), (9, .any), (10, .any), (11, .any), (12, .any)] 13 []) [7] as56 bo56 6), (8, X)] 9
theorem vcUx (V : AV) (M : AO) (R : AO) (g : Int) (Vs : AV) (X : AO) (Q : Exit × AFr × ASt → Prop) :
  (still (vcUx_s0 V M R g Vs X) (aLookup EU 89 (.map (some 1)) (.int .u64 g) true (vcUx_s0 V M R g Vs X)) = some (.tuple [.int .u64 (.ofNat 0), .bool false], vcUx_s0 V M R g Vs X) ∧ Q (.exit 0, xFr [(0, .yield 7), (1, .ptr (some (3, 0))), (2, .ptr (some (4, 0)))] 21, vcUx_s0 V M R g Vs X)) =
  (tUx V M R g Vs X).allY (fun r => Q (canR [0, 1, 2] [0, 1, 2, 3, 4, 5, 6, 7, 8, 9, 10, 11, 12, 13, 14, 15, 16, 17, 18, 19, 20, 21, 22, 23, 24, 25, 26, 27, 28, 29, 30, 31, 32, 33, 34, 35, 36, 37, 38, 39, 40, 41, 42, 43, 44, 45, 46, 47, 48, 49, 50, 51, 52, 53, 54, 55, 56, 57, 58, 59, 60, 61, 62, 63, 64, 65, 66, 67, 68, 69, 70, 71, 72, 73, 74, 75, 76, 77, 78, 79, 80, 81, 82, 83, 84, 85, 86, 87, 88, 89, 90, 91, 92, 93, 94, 95, 96, 97, 98, 99] r)) (.v (.tuple [.int .u64 (.ofNat 0), .bool false], vcUx_s0 V M R g Vs X) .nil) := by kernel_rfl
noncomputable def vcUy_s0 (V : AV) (M : AO) (R : AO) (g : Int) (Vs : AV) (X : AO) : ASt := mkSt [(0, .cells [.map (some 1), V] true), (1, M), (2, R), (3, .cells [.ptr (some (0, 0))] true), (4, .cells [.int .u64 g] true), (5, .cells [Vs] true), (6, .defd), (7, .loop LoopState.ready none (mkFr [(0, .any), (1, .any), (2, .ptr (some (5, 0))), (3, .any), (4, .any), (5, .any), (6, .clos 55 [.ptr (some (3, 0)), .ptr (some (4, 0))]), (7, .any), (8, .any), (9, .any), (10, .any), (11, .any), (12, .any)] 13 []) [7] as56 bo56 6), (8, X)] 9
noncomputable def vcUy_s1 (V : AV) (M : AO) (R : AO) (g : Int) (Vs : AV) (X : AO) : ASt := mkSt [(0, .cells [.map (some 1), V] true), (1, M), (2, R), (3, .cells [.ptr (some (0, 0))] true), (4, .cells [.int .u64 g] true), (5, .cells [Vs] true), (6, .defd), (7, .loop LoopState.ready none (mkFr [(0, .any), (1, .any), (2, .ptr (some (5, 0))), (3, .any), (4, .any), (5, .any), (6, .clos 55 [.ptr (some (3, 0)), .ptr (some (4, 0))]), (7, .any), (8, .any), (9, .any), (10, .any), (11, .any), (12, .any)] 13 []) [7] as56 bo56 6), (8, X)] 16
noncomputable def vcUy_s2 (V : AV) (M : AO) (R : AO) (p : Int) (Vs : AV) (X : AO) : ASt := mkSt [(0, .cells [.map (some 1), V] true), (1, M), (2, R), (3, .cells [.ptr (some (0, 0))] true), (4, .cells [.int .u64 p] true), (5, .cells [Vs] true), (6, .defd), (7, .loop LoopState.ready none (mkFr [(0, .any), (1, .any), (2, .ptr (some (5, 0))), (3, .any), (4, .any), (5, .any), (6, .clos 55 [.ptr (some (3, 0)), .ptr (some (4, 0))]), (7, .any), (8, .any), (9, .any), (10, .any), (11, .any), (12, .any)] 13 []) [7] as56 bo56 6), (8, X)] 16
theorem vcUy (V : AV) (M : AO) (R : AO) (g : Int) (p : Int) (Vs : AV) (X : AO) (Q : Exit × AFr × ASt → Prop) :
  (still (vcUy_s0 V M R g Vs X) (aLookup EU 89 (.map (some 1)) (.int .u64 g) true (vcUy_s0 V M R g Vs X)) = some (.tuple [.int .u64 p, .bool true], vcUy_s0 V M R g Vs X) ∧ still (vcUy_s1 V M R g Vs X) (aLookup EU 89 (.map (some 1)) (.int .u64 g) false (vcUy_s1 V M R g Vs X)) = some (.int .u64 p, vcUy_s1 V M R g Vs X) ∧ holdsO [] ∧ still (vcUy_s2 V M R p Vs X) (aBin EU .eql 48 (.tmp 13) (.const (.int .u64 0)) (.int .u64 p) (.int .u64 (.ofNat 0))) = some (.bool true, vcUy_s2 V M R p Vs X) ∧ Q (.ret, xFr [(0, .yield 7), (1, .ptr (some (3, 0))), (2, .ptr (some (4, 0)))] 21, vcUy_s2 V M R p Vs X)) =
  (tUy V M R g p Vs X).allY (fun r => Q (canR [0, 1, 2] [0, 1, 2, 3, 4, 5, 6, 7, 8, 9, 10, 11, 12, 13, 14, 15, 16, 17, 18, 19, 20, 21, 22, 23, 24, 25, 26, 27, 28, 29, 30, 31, 32, 33, 34, 35, 36, 37, 38, 39, 40, 41, 42, 43, 44, 45, 46, 47, 48, 49, 50, 51, 52, 53, 54, 55, 56, 57, 58, 59, 60, 61, 62, 63, 64, 65, 66, 67, 68, 69, 70, 71, 72, 73, 74, 75, 76, 77, 78, 79, 80, 81, 82, 83, 84, 85, 86, 87, 88, 89, 90, 91, 92, 93, 94, 95, 96, 97, 98, 99] r)) (.v (.tuple [.int .u64 p, .bool true], vcUy_s0 V M R g Vs X) (.v (.int .u64 p, vcUy_s1 V M R g Vs X) (.v (.bool true, vcUy_s2 V M R p Vs X) .nil))) := by kernel_rfl
noncomputable def vcUr_s0 (V : AV) (M : AO) (R : AO) (g : Int) (Vs : AV) (X : AO) : ASt := mkSt [(0, .cells [.map (some 1), V] true), (1, M), (2, R), (3, .cells [.ptr (some (0, 0))] true), (4, .cells [.int .u64 g] true), (5, .cells [Vs] true), (6, .defd), (7, .loop LoopState.ready none (mkFr [(0, .any), (1, .any), (2, .ptr (some (5, 0))), (3, .any), (4, .any), (5, .any), (6, .clos 55 [.ptr (some (3, 0)), .ptr (some (4, 0))]), (7, .any), (8, .any), (9, .any), (10, .any), (11, .any), (12, .any)] 13 []) [7] as56 bo56 6), (8, X)] 9
noncomputable def vcUr_s1 (V : AV) (M : AO) (R : AO) (g : Int) (Vs : AV) (X : AO) : ASt := mkSt [(0, .cells [.map (some 1), V] true), (1, M), (2, R), (3, .cells [.ptr (some (0, 0))] true), (4, .cells [.int .u64 g] true), (5, .cells [Vs] true), (6, .defd), (7, .loop LoopState.ready none (mkFr [(0, .any), (1, .any), (2, .ptr (some (5, 0))), (3, .any), (4, .any), (5, .any), (6, .clos 55 [.ptr (some (3, 0)), .ptr (some (4, 0))]), (7, .any), (8, .any), (9, .any), (10, .any), (11, .any), (12, .any)] 13 []) [7] as56 bo56 6), (8, X)] 16
noncomputable def vcUr_s2 (V : AV) (M : AO) (R : AO) (p : Int) (Vs : AV) (X : AO) : ASt := mkSt [(0, .cells [.map (some 1), V] true), (1, M), (2, R), (3, .cells [.ptr (some (0, 0))] true), (4, .cells [.int .u64 p] true), (5, .cells [Vs] true), (6, .defd), (7, .loop LoopState.ready none (mkFr [(0, .any), (1, .any), (2, .ptr (some (5, 0))), (3, .any), (4, .any), (5, .any), (6, .clos 55 [.ptr (some (3, 0)), .ptr (some (4, 0))]), (7, .any), (8, .any), (9, .any), (10, .any), (11, .any), (12, .any)] 13 []) [7] as56 bo56 6), (8, X)] 16
noncomputable def vcUr_s3 (V : AV) (M : AO) (R : AO) (p : Int) (Vs : AV) (X : AO) : ASt := mkSt [(0, .cells [.map (some 1), V] true), (1, M), (2, R), (3, .cells [.ptr (some (0, 0))] true), (4, .cells [.int .u64 p] true), (5, .cells [Vs] true), (6, .defd), (7, .loop LoopState.busy none (mkFr [(0, .any), (1, .any), (2, .ptr (some (5, 0))), (3, .any), (4, .any), (5, .any), (6, .clos 55 [.ptr (some (3, 0)), .ptr (some (4, 0))]), (7, .any), (8, .any), (9, .any), (10, .any), (11, .any), (12, .any)] 13 []) [7] as56 bo56 6), (8, X), (16, .cells [.int .u64 p] true)] 17
noncomputable def vcUr_s4 (V : AV) (M : AO) (R : AO) (p : Int) (Vs : AV) (W : AO) : ASt := mkSt [(0, .cells [.map (some 1), V] true), (1, M), (2, R), (3, .cells [.ptr (some (0, 0))] true), (4, .cells [.int .u64 p] true), (5, .cells [Vs] true), (6, .defd), (7, .loop LoopState.busy none (mkFr [(0, .any), (1, .any), (2, .ptr (some (5, 0))), (3, .any), (4, .any), (5, .any), (6, .clos 55 [.ptr (some (3, 0)), .ptr (some (4, 0))]), (7, .any), (8, .any), (9, .any), (10, .any), (11, .any), (12, .any)] 13 []) [7] as56 bo56 6), (8, .dead), (16, .cells [.int .u64 p] true), (17, W)] 18
noncomputable def vcUr_s5 (V : AV) (M : AO) (R : AO) (p : Int) (n : Nat) (W : AO) : ASt := mkSt [(0, .cells [.map (some 1), V] true), (1, M), (2, R), (3, .cells [.ptr (some (0, 0))] true), (4, .cells [.int .u64 p] true), (5, .cells [.slice (some (17, 0)) (n + 1) (.rest 1)] true), (6, .defd), (7, .loop LoopState.ready none (mkFr [(0, .any), (1, .any), (2, .ptr (some (5, 0))), (3, .any), (4, .any), (5, .any), (6, .clos 55 [.ptr (some (3, 0)), .ptr (some (4, 0))]), (7, .any), (8, .any), (9, .any), (10, .any), (11, .any), (12, .any)] 13 []) [7] as56 bo56 6), (8, .dead), (16, .cells [.int .u64 p] true), (17, W)] 18
theorem vcUr (V : AV) (M : AO) (R : AO) (g : Int) (p : Int) (n : Nat) (Vs : AV) (X : AO) (W : AO) (Q : Exit × AFr × ASt → Prop) :
  (still (vcUr_s0 V M R g Vs X) (aLookup EU 89 (.map (some 1)) (.int .u64 g) true (vcUr_s0 V M R g Vs X)) = some (.tuple [.int .u64 p, .bool true], vcUr_s0 V M R g Vs X) ∧ still (vcUr_s1 V M R g Vs X) (aLookup EU 89 (.map (some 1)) (.int .u64 g) false (vcUr_s1 V M R g Vs X)) = some (.int .u64 p, vcUr_s1 V M R g Vs X) ∧ holdsO [] ∧ still (vcUr_s2 V M R p Vs X) (aBin EU .eql 48 (.tmp 13) (.const (.int .u64 0)) (.int .u64 p) (.int .u64 (.ofNat 0))) = some (.bool false, vcUr_s2 V M R p Vs X) ∧ aBuiltinM EU .append [57, 57] [Vs, .slice (some (16, 0)) 1 (.known 1)] (vcUr_s3 V M R p Vs X) = some (.slice (some (17, 0)) (n + 1) (.rest 1), vcUr_s4 V M R p Vs W) ∧ Q (.normal, xFr [(0, .yield 7), (1, .ptr (some (3, 0))), (2, .ptr (some (4, 0)))] 21, vcUr_s5 V M R p n W)) =
  (tUr V M R g p n Vs X W).allY (fun r => Q (canR [0, 1, 2] [0, 1, 2, 3, 4, 5, 6, 7, 8, 9, 10, 11, 12, 13, 14, 15, 16, 17, 18, 19, 20, 21, 22, 23, 24, 25, 26, 27, 28, 29, 30, 31, 32, 33, 34, 35, 36, 37, 38, 39, 40, 41, 42, 43, 44, 45, 46, 47, 48, 49, 50, 51, 52, 53, 54, 55, 56, 57, 58, 59, 60, 61, 62, 63, 64, 65, 66, 67, 68, 69, 70, 71, 72, 73, 74, 75, 76, 77, 78, 79, 80, 81, 82, 83, 84, 85, 86, 87, 88, 89, 90, 91, 92, 93, 94, 95, 96, 97, 98, 99] r)) (.v (.tuple [.int .u64 p, .bool true], vcUr_s0 V M R g Vs X) (.v (.int .u64 p, vcUr_s1 V M R g Vs X) (.v (.bool false, vcUr_s2 V M R p Vs X) (.v (.slice (some (17, 0)) (n + 1) (.rest 1), vcUr_s4 V M R p Vs W) .nil)))) := by kernel_rfl
noncomputable def vcUz_s0 (V : AV) (M : AO) (R : AO) (Vs : AV) (X : AO) : ASt := mkSt [(0, .cells [.map (some 1), V] true), (1, M), (2, R), (5, .cells [Vs] true), (6, .defd), (8, X)] 9
theorem vcUz (V : AV) (M : AO) (R : AO) (Vs : AV) (X : AO) (Q : Exit × AFr × ASt → Prop) :
  (Q (.ret, { m := (xFr [(4, Vs)] 13).m, n := 13, defs := [6] }, vcUz_s0 V M R Vs X)) =
  (tUz V M R Vs X).allY (fun r => Q (canR [4] [0, 1, 2, 3, 4, 5, 6, 7, 8, 9, 10, 11, 12, 13, 14, 15, 16, 17, 18, 19, 20, 21, 22, 23, 24, 25, 26, 27, 28, 29, 30, 31, 32, 33, 34, 35, 36, 37, 38, 39, 40, 41, 42, 43, 44, 45, 46, 47, 48, 49, 50, 51, 52, 53, 54, 55, 56, 57, 58, 59, 60, 61, 62, 63, 64, 65, 66, 67, 68, 69, 70, 71, 72, 73, 74, 75, 76, 77, 78, 79, 80, 81, 82, 83, 84, 85, 86, 87, 88, 89, 90, 91, 92, 93, 94, 95, 96, 97, 98, 99] r)) (.nil) := by kernel_rfl
noncomputable def vcUc_s0 (V : AV) (M : AO) (R : AO) (g : Int) : ASt := mkSt [(0, .cells [.map (some 1), V] true), (1, M), (2, R), (3, .cells [.ptr (some (0, 0))] true), (4, .cells [.int .u64 g] true)] 5
noncomputable def vcUc_s1 (V : AV) (M : AO) (R : AO) (X : AO) : ASt := mkSt [(0, .cells [.map (some 1), V] true), (1, M), (2, R), (3, .dead), (4, .dead), (13, X)] 85
theorem vcUc (q : CallT) (V : AV) (M : AO) (R : AO) (g : Int) (Vs : AV) (X : AO) (Q : AV × ASt → Prop) :
  ((Ax.M EU (drawA EU) (onlyC [56] q) 52).call 56 [.slice none 0 (.known 0), .clos 55 [.ptr (some (3, 0)), .ptr (some (4, 0))]] (vcUc_s0 V M R g) = some (Vs, vcUc_s1 V M R X) ∧ Q (Vs, vcUc_s1 V M R X)) =
  (tUc q V M R g Vs X).allY (fun r => Q (r.1, canS [0, 1, 2, 3, 4, 5, 6, 7, 8, 9, 10, 11, 12, 13, 14, 15, 16, 17, 18, 19, 20, 21, 22, 23, 24, 25, 26, 27, 28, 29, 30, 31, 32, 33, 34, 35, 36, 37, 38, 39, 40, 41, 42, 43, 44, 45, 46, 47, 48, 49, 50, 51, 52, 53, 54, 55, 56, 57, 58, 59, 60, 61, 62, 63, 64, 65, 66, 67, 68, 69, 70, 71, 72, 73, 74, 75, 76, 77, 78, 79, 80, 81, 82, 83, 84, 85, 86, 87, 88, 89, 90, 91, 92, 93, 94, 95, 96, 97, 98, 99] r.2)) (.v (Vs, vcUc_s1 V M R X) .nil) := by kernel_rfl
end Go.Proofs.Ytidmijpfoodkoaa.gho
end

section
open Go Go.Ax Go.Proofs
namespace Go.Proofs.Ytidmijpfoodkoaa.gho
set_option linter.unusedVariables false
theorem EUok : Env.Ok Try.prog EU := envEx_ok (xs := []) ⟨⟨Try.func22, Try.call22⟩, ⟨Try.func24, Try.call24⟩, ⟨Try.func25, Try.call25⟩, ⟨Try.func26, Try.call26⟩, ⟨Try.func45, Try.call45⟩, ⟨Try.func46, Try.call46⟩, ⟨Try.func47, Try.call47⟩, ⟨Try.func55, Try.call55⟩, ⟨Try.func56, Try.call56⟩, trivial⟩ trivial (by kernel_rfl)
def rankK : List (Int × Int) → Int → Nat
  | [], _ => 0
  | p :: l, g => bif eqF g p.1 then 0 else rankK l g + 1
def upF (l : List (Int × Int)) : Nat → Int → List Int
  | 0, _ => []
  | n + 1, g => bif hasK l g then (bif eqF (parK l g) (.ofNat 0) then [] else parK l g :: upF l n (parK l g)) else []
def up (l : List (Int × Int)) (g : Int) : List Int := upF l (rankK l g + 1) g
structure TreeOk (l : List (Int × Int)) : Prop where
  par : ∀ g, hasK l g = true → eqF (parK l g) (.ofNat 0) = false → hasK l (parK l g) = true ∧ rankK l (parK l g) < rankK l g
section
variable {l : List (Int × Int)} {g p : Int} {n k : Nat} {c : Cap} {cs : List AV} {S : ASt} {e e' : List Int}
theorem upF_stable (h : TreeOk l) : ∀ (n m : Nat) (g : Int), rankK l g < n → rankK l g < m → upF l n g = upF l m g
  | 0, _, _, h1, _ => absurd h1 (by omega)
  | _, 0, _, _, h2 => absurd h2 (by omega)
  | n + 1, m + 1, g, h1, h2 => by
    unfold upF
    cases hg : hasK l g with
    | false => rfl
    | true =>
      cases hp : eqF (parK l g) (.ofNat 0) with
      | true => rfl
      | false =>
        have := (h.par g hg hp).2
        simp only [cond_true, cond_false]
        rw [upF_stable h n m (parK l g) (by omega) (by omega)]
theorem up_none (h : hasK l g = false) : up l g = [] := by unfold up upF; rw [h]; rfl
theorem up_root (h : eqF (parK l g) (.ofNat 0) = true) : up l g = [] := by
  unfold up upF
  rw [h]
  cases hasK l g <;> rfl
theorem up_step (h : TreeOk l) (hg : hasK l g = true) (hp : eqF (parK l g) (.ofNat 0) = false) : up l g = parK l g :: up l (parK l g) := by
  have := (h.par g hg hp).2
  show upF l (rankK l g + 1) g = _
  conv => lhs; unfold upF
  rw [hg, hp]
  simp only [cond_true, cond_false]
  rw [upF_stable h (rankK l g) (rankK l (parK l g) + 1) (parK l g) (by omega) (by omega)]
  rfl
def mO (l : List (Int × Int)) : AO := .map (encM .u64 l 0) l.length
def vR (n : Nat) (c : Cap) : AV := .slice (some (2, 0)) n c
def Uv (k : Nat) : List Int → AV
  | [] => nilA
  | x :: e => slU k (e.length + 1)
def Ux : List Int → AO
  | [] => .dead
  | x :: e => .cells ((x :: e).map gU) true
theorem Ux_came : Came (Ux e) := by
  cases e with
  | nil => exact .inl rfl
  | cons x e => exact .inr ⟨_, _, rfl, gU_refs⟩
theorem Uv_app : Uv k (e ++ [p]) = slU k (e.length + 1) := by
  cases e with
  | nil => rfl
  | cons x e => show slU k ((e ++ [p]).length + 1) = _; rw [List.length_append]; rfl
theorem Ux_app : Ux (e ++ [p]) = .cells ((e ++ [p]).map gU) true := by cases e <;> rfl
theorem ml89 : mapT EU 89 .u64 = true := by kernel_rfl
theorem ap57 : appT EU 57 57 = some (1, 8) := by kernel_rfl
theorem lk_t {st : ASt} (hS : st.h.get 1 = some (mO l)) (h : hasK l g = true) : still st (aLookup EU 89 (.map (some 1)) (.int .u64 g) true st) = some (.tuple [.int .u64 (parK l g), .bool true], st) := by
  rw [lookup_at ml89 hS, h]; rfl
theorem lk_n {st : ASt} (hS : st.h.get 1 = some (mO l)) (h : hasK l g = false) : still st (aLookup EU 89 (.map (some 1)) (.int .u64 g) true st) = some (.tuple [.int .u64 (.ofNat 0), .bool false], st) := by
  rw [lookup_at ml89 hS, h]; rfl
theorem lk_p {st : ASt} (hS : st.h.get 1 = some (mO l)) (h : hasK l g = true) : still st (aLookup EU 89 (.map (some 1)) (.int .u64 g) false st) = some (.int .u64 (parK l g), st) := by
  rw [lookup_at ml89 hS, h]; rfl
theorem eq_b {t ty : Nat} {x : Operand} {kd : IntKind} {w : Bool} (h : ∀ z : Int, aBin EU .eql ty (.tmp t) x (.int kd z) (.int kd (.ofNat 0)) = some (.bool (eqF z (.ofNat 0)))) (hw : eqF p (.ofNat 0) = w) : still S (aBin EU .eql ty (.tmp t) x (.int kd p) (.int kd (.ofNat 0))) = some (.bool w, S) := by
  rw [h, hw]; rfl
theorem app_one {st : ASt} {a b : Nat} (hx : st.h.get b = some (.cells [gU p] true)) (he : st.h.get a = some (Ux e)) (hl : e.length < 100000) :
    aBuiltinM EU .append [57, 57] [Uv a e, .slice (some (b, 0)) 1 (.known 1)] st = some (slU st.next (e.length + 1), (st.put a .dead).add (.cells ((e ++ [p]).map gU) true)) ∨
    (e = [] ∧ aBuiltinM EU .append [57, 57] [Uv a e, .slice (some (b, 0)) 1 (.known 1)] st = some (slU st.next (e.length + 1), st.add (.cells ((e ++ [p]).map gU) true))) := by
  cases e with
  | nil => exact .inr ⟨rfl, append_nil_at ap57 rfl (first_at hx rfl) (by decide) (by decide) (by decide)⟩
  | cons x e =>
    have hl : e.length + 1 < 100000 := hl
    refine .inl ((append_grow_at (l := e.length + 1) (cs := (x :: e).map gU) ap57 rfl (first_at hx rfl) he (by simp) (by decide) (by decide) (by omega) (by omega)).trans ?_)
    show _ = some (slU st.next (e.length + 1 + 1), (st.put a .dead).add (.cells (((x :: e) ++ [p]).map gU) true))
    rw [List.map_append]; rfl
noncomputable abbrev SUl (l : List (Int × Int)) (n : Nat) (c : Cap) (cs : List AV) (g : Int) (e : List Int) : ASt := SU (vR n c) (mO l) (.cells cs true) g (Uv 8 e) (Ux e)
theorem mO_ren {ids : List Nat} : RenO ids (mO l) (mO l) := RenO.map encM_refs
theorem frR_refs : ∀ t, refsV 8 ((frR.m.get t).getD undefA) := by
  intro t
  unfold frR
  rw [xFr_get]
  by_cases ht : t < 13
  · simp only [ht, if_true]
    rcases lkp_mem (l := [(2, pO 5), (6, clO 3 4)]) (t := t) with e | ⟨p, p1, _, p3⟩
    · rw [e]; simp [refsV]
    · rw [← p3]
      simp only [List.mem_cons, List.not_mem_nil, or_false] at p1
      rcases p1 with rfl | rfl <;> simp [refsV, pO, clO]
  · simp only [ht, if_false]; simp [undefA, refsV]
def QU (l : List (Int × Int)) (n : Nat) (c : Cap) (cs : List AV) (g : Int) (e : List Int) (q : Exit × AFr × ASt) : Prop :=
  (hasK l g = false ∧ Stops 8 (.exit 0) (fr55 7 3 4) (SUl l n c cs g e) q) ∨
  (hasK l g = true ∧ eqF (parK l g) (.ofNat 0) = true ∧ Stops 8 .ret (fr55 7 3 4) (SUl l n c cs (parK l g) e) q) ∨
  (hasK l g = true ∧ eqF (parK l g) (.ofNat 0) = false ∧ Stops 8 .normal (fr55 7 3 4) (SUl l n c cs (parK l g) (e ++ [parK l g])) q)
theorem QU.can {q : Exit × AFr × ASt} {ko : List Nat} (h : QU l n c cs g e (canR [0, 1, 2] ko q)) : QU l n c cs g e q :=
  h.imp (fun h => ⟨h.1, h.2.can⟩) (fun h => h.imp (fun h => ⟨h.1, h.2.1, h.2.2.can⟩) (fun h => ⟨h.1, h.2.1, h.2.2.can⟩))
theorem roundU (hc : ∀ v, v ∈ cs → refsV 0 v) (hl : e.length < 100000) : Trip Try.prog 8 none L55 (fr55 7 3 4) (SUl l n c cs g e) (QU l n c cs g e) := by
  have base : ∀ {st : ASt} {ids : List Nat} {a : Nat} {g' : Int} {e' : List Int}, ids = [0, 1, 2, 3, 4, 5, 6, 7, a] → idxN ids a 0 = some 8 → st.h.get 0 = some (tO (vR n c)) → st.h.get 1 = some (mO l) → st.h.get 2 = some (.cells cs true) → st.h.get 3 = some bxT → st.h.get 4 = some (bxG g') →
      st.h.get 5 = some (bxS (Uv a e')) → st.h.get 6 = some .defd → st.h.get 7 = some lrU → st.h.get a = some (Ux e') →
      StP ids st [(0, tO (vR n c)), (1, mO l), (2, .cells cs true), (3, bxT), (4, bxG g'), (5, bxS (Uv 8 e')), (6, .defd), (7, lrU), (8, Ux e')] := fun he hi h0 h1 h2 h3 h4 h5 h6 h7 h8 => by
    subst he
    refine .cons 0 _ rfl h0 (.of rfl) <| .cons 1 _ rfl h1 mO_ren <| .cons 2 _ rfl h2 (.row hc) <| .cons 3 _ rfl h3 (.of rfl) <| .cons 4 _ rfl h4 (.of rfl) <| .cons 5 _ rfl h5 ?_ <| .cons 6 _ rfl h6 (.keep (kb := 8) rfl trivial) <| .cons 7 _ rfl h7 (.keep (kb := 8) rfl ⟨frR_refs, by decide⟩) <| .came Ux_came rfl h8 .nil
    rename_i e'
    cases e' with
    | nil => exact .of rfl
    | cons x e' => exact .of (by simp [bxS, Uv, slU, renO, allR, mapR, renT, renV, hi])
  cases hg : hasK l g with
  | false =>
    exact (Trip.runY EUok noSum_ok (Eq.mp (vcUx (vR n c) (mO l) (.cells cs true) g (Uv 8 e) (Ux e) (QU l n c cs g e)) ⟨lk_n (by kernel_rfl) hg, .inl ⟨hg, rfl, Wk.refl _ _ _⟩⟩)).mono fun q hq => hq.can
  | true =>
    cases hp : eqF (parK l g) (.ofNat 0) with
    | true =>
      refine (Trip.runY EUok noSum_ok (Eq.mp (vcUy (vR n c) (mO l) (.cells cs true) g (parK l g) (Uv 8 e) (Ux e) (QU l n c cs g e)) ⟨lk_t (by kernel_rfl) hg, lk_p (by kernel_rfl) hg, trivial, eq_b (fun z => by kernel_rfl) hp, .inr (.inl ⟨hg, hp, rfl, ?_⟩)⟩)).mono fun q hq => hq.can
      exact Wk.heldX (kb := 8) [0, 1, 2, 3, 4, 5, 6, 7, 8] (by kernel_rfl) (by kernel_rfl) [0, 1, 2] (by kernel_rfl) (base (a := 8) rfl rfl (by kernel_rfl) (by kernel_rfl) (by kernel_rfl) (by kernel_rfl) (by kernel_rfl) (by kernel_rfl) (by kernel_rfl) (by kernel_rfl) (by kernel_rfl))
    | false =>
      have happ : aBuiltinM EU .append [57, 57] [Uv 8 e, .slice (some (16, 0)) 1 (.known 1)] (vcUr_s3 (vR n c) (mO l) (.cells cs true) (parK l g) (Uv 8 e) (Ux e)) = some (.slice (some (17, 0)) (e.length + 1) (.rest 1), vcUr_s4 (vR n c) (mO l) (.cells cs true) (parK l g) (Uv 8 e) (.cells ((e ++ [parK l g]).map gU) true)) := by
        rcases app_one (a := 8) (b := 16) (p := parK l g) (e := e) (st := vcUr_s3 (vR n c) (mO l) (.cells cs true) (parK l g) (Uv 8 e) (Ux e)) (by kernel_rfl) (by kernel_rfl) hl with h | ⟨rfl, h⟩
        · exact h.trans (by kernel_rfl)
        · exact h.trans (by kernel_rfl)
      refine (Trip.runY EUok noSum_ok (Eq.mp (vcUr (vR n c) (mO l) (.cells cs true) g (parK l g) e.length (Uv 8 e) (Ux e) (.cells ((e ++ [parK l g]).map gU) true) (QU l n c cs g e)) ⟨lk_t (by kernel_rfl) hg, lk_p (by kernel_rfl) hg, trivial, eq_b (fun z => by kernel_rfl) hp, happ, .inr (.inr ⟨hg, hp, rfl, ?_⟩)⟩)).mono fun q hq => hq.can
      exact Wk.heldX (kb := 8) [0, 1, 2, 3, 4, 5, 6, 7, 17] (by kernel_rfl) (by kernel_rfl) [0, 1, 2] (by kernel_rfl) (base (a := 17) rfl rfl (by kernel_rfl) (by kernel_rfl) (by kernel_rfl) (by kernel_rfl) (by kernel_rfl) (by rw [Uv_app]; kernel_rfl) (by kernel_rfl) (by kernel_rfl) (by rw [Ux_app]; kernel_rfl))
end
end Go.Proofs.Ytidmijpfoodkoaa.gho
end

section
open Go Go.Ax Go.Proofs
namespace Go.Proofs.Ytidmijpfoodkoaa.gho
set_option linter.unusedVariables false
section
variable {l : List (Int × Int)} {g p : Int} {n k : Nat} {c : Cap} {cs : List AV} {S : ASt} {e e' : List Int}
theorem loopU (hc : ∀ v, v ∈ cs → refsV 0 v) (hT : TreeOk l) (hl : (up l g).length < 100000) :
    Trip Try.prog 8 none c55 (fr55 7 3 4) (SUl l n c cs g []) fun q => (q.1 = .normal ∨ q.1 = .ret) ∧ ∃ g', Wk 8 q.2.1 q.2.2 (fr55 7 3 4) (SUl l n c cs g' (up l g)) := by
  have hsh : c55 = .block 0 (.loop L55) := by kernel_rfl
  rw [hsh]
  refine Trip.block (Trip.loop (fun μ fr st => ∃ g' e, up l g = e ++ up l g' ∧ μ = rankK l g' ∧ fr = fr55 7 3 4 ∧ st = SUl l n c cs g' e) ?_ (rankK l g) ⟨g, [], rfl, rfl, rfl, rfl⟩)
  rintro μ fr st ⟨g', e, he, rfl, rfl, rfl⟩
  have hel : e.length < 100000 := by rw [he, List.length_append] at hl; omega
  refine (roundU hc hel).mono ?_
  rintro ⟨x, fr', st'⟩ (⟨h1, h2, h3⟩ | ⟨h1, h2, h3, h4⟩ | ⟨h1, h2, h3, h4⟩)
  · simp only at h2
    subst h2
    rw [up_none h1, List.append_nil] at he
    rw [he]
    exact ⟨fun _ => ⟨.inl rfl, _, h3⟩, fun h => absurd rfl h⟩
  · simp only at h3
    subst h3
    rw [up_root h2, List.append_nil] at he
    rw [he]
    exact ⟨.inr rfl, _, h4⟩
  · simp only at h3
    subst h3
    exact ⟨rankK l (parK l g'), _, _, (hT.par g' h1 h2).2, h4, parK l g', e ++ [parK l g'], by rw [he, up_step hT h1 h2, List.append_assoc]; rfl, rfl, rfl, rfl⟩
theorem shape56 : c56 = .seq (seqL c56) (.seq (.seq (seqL (seqL (dropC 0 c56))) (.block 0 r56)) (dropC 1 c56)) := by kernel_rfl
theorem range56 : r56 = .rangeFunc (.tmp 6) #[7] as56 bo56 := by kernel_rfl
noncomputable abbrev SV0 (l : List (Int × Int)) (n : Nat) (c : Cap) (cs : List AV) (g : Int) : ASt := SU0 (vR n c) (mO l) (.cells cs true) g
theorem trip56 (hc : ∀ v, v ∈ cs → refsV 0 v) (hT : TreeOk l) (hl : (up l g).length < 100000) :
    Trip Try.prog 5 none c56 { m := putArgs [nilA, clO 3 4] 0 .e, n := 13, defs := [] } (SV0 l n c cs g) fun q => (q.1 = .normal ∨ q.1 = .ret) ∧ ∃ v, leaveA EU Try.f56 q.2.1 q.2.2 = some v ∧ v = (Uv 8 (up l g), (SUz (vR n c) (mO l) (.cells cs true) (Uv 8 (up l g)) (Ux (up l g))).put 6 .dead) := by
  rw [shape56]
  refine Trip.seqC EUok noSum_ok (n := 60) [1, 2] [0, 1, 2, 3, 4, 5] (F := xFr [(1, clO 3 4), (2, pO 5)] 13) (S := SU1 (vR n c) (mO l) (.cells cs true) g) (by kernel_rfl) ?_
  refine Trip.seq (R := fun q => q = (.normal, frZ, SUz (vR n c) (mO l) (.cells cs true) (Uv 8 (up l g)) (Ux (up l g)))) (Trip.seqC EUok noSum_ok (n := 60) [2, 6] [0, 1, 2, 3, 4, 5] (F := frR) (S := SU1 (vR n c) (mO l) (.cells cs true) g) (by kernel_rfl) ?_) (fun fr' st' hq => ?_) (fun e fr' st' hne hq => absurd (congrArg Prod.fst hq) hne)
  · rw [range56]
    refine Trip.block (Trip.weak (Q := fun q => q.1 = .normal ∧ ∃ g', q.2.1 = frZ ∧ q.2.2 = (SUl l n c cs g' (up l g)).put 7 .dead) ?_ fun q hq => ?_)
    · refine Trip.range EUok (f := 55) (caps := [pO 3, pO 4]) (by kernel_rfl) (fn := Try.f55) (by kernel_rfl) (cb := c55) (by kernel_rfl) (l := 7) (by kernel_rfl) (by kernel_rfl) (R := fun v => ∃ g', v.2 = SUl l n c cs g' (up l g)) ?_ ?_
      · have e1 : ({ m := putArgs (AV.yield 7 :: [pO 3, pO 4]) 0 .e, n := Try.f55.ntmps, defs := [] } : AFr) = { m := putArgs [.yield 7, pO 3, pO 4] 0 .e, n := 21, defs := [] } := by kernel_rfl
        rw [e1]
        have e2 : ((SU1 (vR n c) (mO l) (.cells cs true) g).add .defd).add (.loop .ready none frR (#[7] : Array Tmp).toList as56 bo56 (SU1 (vR n c) (mO l) (.cells cs true) g).next) = mkSt [(0, tO (vR n c)), (1, mO l), (2, .cells cs true), (3, bxT), (4, bxG g), (5, bxS nilA), (6, .defd), (7, lrU)] 8 := by kernel_rfl
        rw [e2]
        refine Trip.less (fr' := fr55 7 3 4) (st' := SUl l n c cs g []) ?_ ?_
        · refine Wk.trans (Wk.can 8 [0, 1, 2] [0, 1, 2, 3, 4, 5, 6, 7] _ _) ?_
          have e3 : canF [0, 1, 2] ({ m := putArgs [.yield 7, pO 3, pO 4] 0 .e, n := 21, defs := [] } : AFr) = fr55 7 3 4 := by kernel_rfl
          have e4 : canS [0, 1, 2, 3, 4, 5, 6, 7] (mkSt [(0, tO (vR n c)), (1, mO l), (2, .cells cs true), (3, bxT), (4, bxG g), (5, bxS nilA), (6, .defd), (7, lrU)] 8) = mkSt [(0, tO (vR n c)), (1, mO l), (2, .cells cs true), (3, bxT), (4, bxG g), (5, bxS nilA), (6, .defd), (7, lrU)] 8 := by kernel_rfl
          rw [e3, e4]
          exact Wk.heldX (kb := 8) [0, 1, 2, 3, 4, 5, 6, 7, 8] (by kernel_rfl) (by kernel_rfl) [0, 1, 2] (by kernel_rfl)
            (.cons 0 (tO (vR n c)) rfl (by kernel_rfl) (.of rfl) <| .cons 1 (mO l) rfl (by kernel_rfl) mO_ren <| .cons 2 (.cells cs true) rfl (by kernel_rfl) (.row hc) <| .cons 3 bxT rfl (by kernel_rfl) (.of rfl) <| .cons 4 (bxG g) rfl (by kernel_rfl) (.of rfl) <| .cons 5 (bxS nilA) rfl (by kernel_rfl) (.of rfl) <| .cons 6 .defd rfl (by kernel_rfl) (.keep (kb := 8) rfl trivial) <| .cons 7 lrU rfl (by kernel_rfl) (.keep (kb := 8) rfl ⟨frR_refs, by decide⟩) <| .dead (by decide) .nil)
        · refine Trip.weak (loopU hc hT hl) fun q ⟨h1, g', h2⟩ => ⟨_, _, h2, h1, ?_⟩
          exact ⟨(retV [], SUl l n c cs g' (up l g)), by kernel_rfl, g', rfl⟩
      · rintro v ⟨g', hv⟩
        refine ⟨.ready, none, frR, [7], as56, bo56, 6, by rw [hv]; kernel_rfl, (fun e => by cases e), rfl, g', rfl, by rw [hv]⟩
    · obtain ⟨h1, g', h2, h3⟩ := hq
      refine ⟨frZ, SUz (vR n c) (mO l) (.cells cs true) (Uv 8 (up l g)) (Ux (up l g)), ?_, ?_⟩
      · rw [h2, h3]
        refine Wk.pick (ls := [(0, tO (vR n c)), (1, mO l), (2, .cells cs true), (5, bxS (Uv 8 (up l g))), (6, .defd), (8, Ux (up l g))]) (nx := 9) ?_ (Nat.le_refl 9)
        intro p hp
        simp only [List.mem_cons, List.not_mem_nil, or_false] at hp
        rcases hp with rfl | rfl | rfl | rfl | rfl | rfl <;> kernel_rfl
      · obtain ⟨x, fr', st'⟩ := q
        simp only at h1
        subst h1
        rfl
  · cases hq
    refine Trip.mono (Trip.endW (kf := [4]) (Trip.runY EUok noSum_ok (Eq.mp (vcUz (vR n c) (mO l) (.cells cs true) (Uv 8 (up l g)) (Ux (up l g)) (fun r => r = (.ret, { m := (xFr [(4, Uv 8 (up l g))] 13).m, n := 13, defs := [6] }, SUz (vR n c) (mO l) (.cells cs true) (Uv 8 (up l g)) (Ux (up l g))))) rfl)) (Wk.refl _ _ _)) fun q hq => ?_
    subst hq
    exact ⟨.inr rfl, _, (by kernel_rfl : _ = some (Uv 8 (up l g), (SUz (vR n c) (mO l) (.cells cs true) (Uv 8 (up l g)) (Ux (up l g))).put 6 .dead)), rfl⟩
theorem get3 {o o1 o2 : AO} {j : Nat} {x : AO} (h : (mkSt [(0, o), (1, o1), (2, o2)] 3).h.get j = some x) : (j = 0 ∧ x = o) ∨ (j = 1 ∧ x = o1) ∨ (j = 2 ∧ x = o2) := by
  have hg : (mkSt [(0, o), (1, o1), (2, o2)] 3).h.get j = if j = 2 then some o2 else if j = 1 then some o1 else if j = 0 then some o else none := by
    show ((((T.e : T AO).set D 0 _).set D 1 _).set D 2 _).get j = _
    rw [T.get_set, T.get_set, T.get_set, T.get_e]
  rw [hg] at h
  by_cases e2 : j = 2
  · simp [e2] at h; exact .inr (.inr ⟨e2, h.symm⟩)
  · by_cases e1 : j = 1
    · simp [e1] at h; exact .inr (.inl ⟨e1, h.symm⟩)
    · by_cases e : j = 0
      · simp [e] at h; exact .inl ⟨e, h.symm⟩
      · simp [e, e1, e2] at h
structure TreeAt (S : ASt) (l : List (Int × Int)) (n : Nat) (c : Cap) (cs : List AV) : Prop where
  t : S.h.get 0 = some (tO (vR n c))
  m : S.h.get 1 = some (mO l)
  r : S.h.get 2 = some (.cells cs true)
  refs : ∀ v, v ∈ cs → refsV 0 v
noncomputable abbrev TR (l : List (Int × Int)) (n : Nat) (c : Cap) (cs : List AV) : ASt := mkSt [(0, tO (vR n c)), (1, mO l), (2, .cells cs true)] 3
theorem tO_back {nx : Nat} : BackO (gK 3 nx) (tO (vR n c)) (tO (vR n c)) := .cells rfl
theorem mO_back {gg : Nat → Nat} : BackO gg (mO l) (mO l) := BackO.mapKeep encM_refs
theorem tree_same {f : Nat} {args : List AV} {Q1 : AV × ASt → Prop} {ot : List (Nat × AO)} {v : AV} (hS : TreeAt S l n c cs)
    (hrun : ∀ B w0 ι W args', (∀ i, ¬ B.rs i) → SR B w0 ι (TR l n c cs) W → VRs ι args args' → (callFunc f args').run Try.prog W = .ok (.enter f args') W ∧ CallsIn Fence.wide 0 Try.prog f args' W fun e w' => ∃ v, Q1 v ∧ Post B w0 ι v e w')
    (hargs : ∀ v, v ∈ args → renV (List.range 3) v = some v)
    (hb : ∀ q, Q1 q → BackV (gK 3 S.next) q.1 v ∧ q.2.next ≤ 100 ∧ q.2.h.get 0 = some (tO (vR n c)) ∧ q.2.h.get 1 = some (mO l) ∧ q.2.h.get 2 = some (.cells cs true) ∧
      ∀ p, p ∈ ot → 3 ≤ p.1 ∧ p.1 < 100 ∧ (p.2 = .dead ∨ p.2.own = true ∧ ∃ a, q.2.h.get p.1 = some a ∧ BackO (gK 3 S.next) a p.2)) :
    Call1 Try.prog f args S (v, outS (gK 3 S.next) ((0, tO (vR n c)) :: (1, mO l) :: (2, .cells cs true) :: ot) S (S.next + 100)) := by
  refine Call1.same (S := S) 3 3 (Nat.le_refl 3) hrun rfl (fun j hj => ?_) (fun j x hj => ?_) hargs fun q hq => ?_
  · match j, hj with
    | 0, _ => exact ⟨_, hS.t, by simp [tO]⟩
    | 1, _ => exact ⟨_, hS.m, by simp [mO]⟩
    | 2, _ => exact ⟨_, hS.r, by simp⟩
  · rcases get3 hj with ⟨rfl, rfl⟩ | ⟨rfl, rfl⟩ | ⟨rfl, rfl⟩
    · exact ⟨by decide, fun _ => ⟨by decide, hS.t, .of (by kernel_rfl)⟩⟩
    · exact ⟨by decide, fun _ => ⟨by decide, hS.m, mO_ren⟩⟩
    · exact ⟨by decide, fun _ => ⟨by decide, hS.r, .row hS.refs⟩⟩
  · obtain ⟨b1, b2, b3, b4, b5, b6⟩ := hb q hq
    refine ⟨b1, by omega, by omega, fun p hp => ?_, fun j x hj ho => ?_⟩
    · rcases List.mem_cons.1 hp with rfl | hp
      · exact ⟨(by show 0 < S.next + 100; omega), .inl (by show 0 < 3; decide), fun _ => ⟨_, (by kernel_rfl : _ = some (tO (vR n c))), rfl⟩, .inr ⟨rfl, _, b3, tO_back⟩⟩
      · rcases List.mem_cons.1 hp with rfl | hp
        · exact ⟨(by show 1 < S.next + 100; omega), .inl (by show 1 < 3; decide), fun _ => ⟨_, (by kernel_rfl : _ = some (mO l)), rfl⟩, .inr ⟨rfl, _, b4, mO_back⟩⟩
        · rcases List.mem_cons.1 hp with rfl | hp
          · exact ⟨(by show 2 < S.next + 100; omega), .inl (by show 2 < 3; decide), fun _ => ⟨_, (by kernel_rfl : _ = some (.cells cs true)), rfl⟩, .inr ⟨rfl, _, b5, .row hS.refs⟩⟩
          · obtain ⟨c1, c2, c3⟩ := b6 p hp
            have hg : gK 3 S.next p.1 = S.next + p.1 := by
              unfold gK
              cases h : Nat.blt p.1 3 with
              | false => rfl
              | true => rw [Nat.blt_eq] at h; omega
            exact ⟨by rw [hg]; omega, .inr c1, fun h => absurd h (by omega), c3⟩
    · rcases get3 hj with ⟨rfl, rfl⟩ | ⟨rfl, rfl⟩ | ⟨rfl, rfl⟩
      · exact ⟨_, List.mem_cons_self, rfl⟩
      · exact ⟨_, List.mem_cons_of_mem _ List.mem_cons_self, rfl⟩
      · exact ⟨_, List.mem_cons_of_mem _ (List.mem_cons_of_mem _ List.mem_cons_self), rfl⟩
end
end Go.Proofs.Ytidmijpfoodkoaa.gho
end

section
open Go Go.Ax Go.Proofs
namespace Go.Proofs.Ytidmijpfoodkoaa.gho
set_option linter.unusedVariables false
section
variable {l : List (Int × Int)} {g p : Int} {n k : Nat} {c : Cap} {cs : List AV} {S : ASt} {e e' : List Int}
theorem Uv_back {gg : Nat → Nat} {j : Nat} (h : gg k = j) : BackV gg (Uv k e) (Uv j e) := by
  cases e with
  | nil => exact .eq rfl
  | cons x e => exact .eq (by simp [mapV, Uv, slU, h])
theorem Ux_back {gg : Nat → Nat} {q : ASt} (h : q.h.get k = some (Ux e)) : Ux e = .dead ∨ (Ux e).own = true ∧ ∃ a, q.h.get k = some a ∧ BackO gg a (Ux e) := by
  cases e with
  | nil => exact .inl rfl
  | cons x e => exact .inr ⟨rfl, _, h, .row gU_refs⟩
theorem get5 {o0 o1 o2 o3 o4 : AO} {j : Nat} {x : AO} (h : (mkSt [(0, o0), (1, o1), (2, o2), (3, o3), (4, o4)] 5).h.get j = some x) : (j = 0 ∧ x = o0) ∨ (j = 1 ∧ x = o1) ∨ (j = 2 ∧ x = o2) ∨ (j = 3 ∧ x = o3) ∨ (j = 4 ∧ x = o4) := by
  have hg : (mkSt [(0, o0), (1, o1), (2, o2), (3, o3), (4, o4)] 5).h.get j = if j = 4 then some o4 else if j = 3 then some o3 else if j = 2 then some o2 else if j = 1 then some o1 else if j = 0 then some o0 else none := by
    show ((((((T.e : T AO).set D 0 _).set D 1 _).set D 2 _).set D 3 _).set D 4 _).get j = _
    rw [T.get_set, T.get_set, T.get_set, T.get_set, T.get_set, T.get_e]
  rw [hg] at h
  by_cases e4 : j = 4
  · simp [e4] at h; exact .inr (.inr (.inr (.inr ⟨e4, h.symm⟩)))
  · by_cases e3 : j = 3
    · simp [e3] at h; exact .inr (.inr (.inr (.inl ⟨e3, h.symm⟩)))
    · by_cases e2 : j = 2
      · simp [e2] at h; exact .inr (.inr (.inl ⟨e2, h.symm⟩))
      · by_cases e1 : j = 1
        · simp [e1] at h; exact .inr (.inl ⟨e1, h.symm⟩)
        · by_cases e : j = 0
          · simp [e] at h; exact .inl ⟨e, h.symm⟩
          · simp [e, e1, e2, e3, e4] at h
theorem apps_at (hc : ∀ v, v ∈ cs → refsV 0 v) (hT : TreeOk l) (hl : (up l g).length < 100000) :
    Call1 Try.prog 56 [.slice none 0 (.known 0), .clos 55 [.ptr (some (3, 0)), .ptr (some (4, 0))]] (vcUc_s0 (vR n c) (mO l) (.cells cs true) g) (Uv 13 (up l g), vcUc_s1 (vR n c) (mO l) (.cells cs true) (Ux (up l g))) := by
  have hcall := Trip.call EUok (f := 56) (fn := Try.f56) (c := c56) (by kernel_rfl) (by kernel_rfl) (args := [nilA, clO 3 4]) (st := SV0 l n c cs g) (by kernel_rfl) (R := fun v => v = (Uv 8 (up l g), (SUz (vR n c) (mO l) (.cells cs true) (Uv 8 (up l g)) (Ux (up l g))).put 6 .dead))
    (by
      have e1 : ({ m := putArgs [nilA, clO 3 4] 0 .e, n := Try.f56.ntmps, defs := [] } : AFr) = { m := putArgs [nilA, clO 3 4] 0 .e, n := 13, defs := [] } := by kernel_rfl
      rw [e1]
      exact trip56 hc hT hl)
  refine Call1.mem (S1 := outS (gK 5 5) [(0, tO (vR n c)), (1, mO l), (2, .cells cs true), (3, .dead), (4, .dead), (8, Ux (up l g))] (SV0 l n c cs g) 85) (by kernel_rfl) ?_
  refine Call1.same (S := SV0 l n c cs g) (S1 := SV0 l n c cs g) (args := [nilA, clO 3 4]) 5 5 (Nat.le_refl 5) (fun B w0 ι W args' hB hsr hv => hcall B hB w0 ι W args' hsr hv) rfl (fun j hj => ?_) (fun j x hj => ?_) (fun v hv => ?_) fun q hq => ?_
  · match j, hj with
    | 0, _ => exact ⟨_, (by kernel_rfl : _ = some (tO (vR n c))), by simp [tO]⟩
    | 1, _ => exact ⟨_, (by kernel_rfl : _ = some (mO l)), by simp [mO]⟩
    | 2, _ => exact ⟨_, (by kernel_rfl : _ = some (.cells cs true)), by simp⟩
    | 3, _ => exact ⟨_, (by kernel_rfl : _ = some bxT), by simp [bxT]⟩
    | 4, _ => exact ⟨_, (by kernel_rfl : _ = some (bxG g)), by simp [bxG]⟩
  · rcases get5 hj with ⟨rfl, rfl⟩ | ⟨rfl, rfl⟩ | ⟨rfl, rfl⟩ | ⟨rfl, rfl⟩ | ⟨rfl, rfl⟩
    · exact ⟨by decide, fun _ => ⟨by decide, by kernel_rfl, .of (by kernel_rfl)⟩⟩
    · exact ⟨by decide, fun _ => ⟨by decide, by kernel_rfl, mO_ren⟩⟩
    · exact ⟨by decide, fun _ => ⟨by decide, by kernel_rfl, .row hc⟩⟩
    · exact ⟨by decide, fun _ => ⟨by decide, by kernel_rfl, .of (by kernel_rfl)⟩⟩
    · exact ⟨by decide, fun _ => ⟨by decide, by kernel_rfl, .of (by kernel_rfl)⟩⟩
  · simp only [List.mem_cons, List.not_mem_nil, or_false] at hv
    rcases hv with rfl | rfl <;> kernel_rfl
  · subst hq
    refine ⟨Uv_back rfl, by show 5 + 9 ≤ 85; decide, by show 5 + 5 ≤ 85; decide, fun p hp => ?_, fun j x hj ho => ?_⟩
    · simp only [List.mem_cons, List.not_mem_nil, or_false] at hp
      rcases hp with rfl | rfl | rfl | rfl | rfl | rfl
      · exact ⟨by show 0 < 85; decide, .inl (by show 0 < 5; decide), fun _ => ⟨_, (by kernel_rfl : _ = some (tO (vR n c))), rfl⟩, .inr ⟨rfl, _, (by kernel_rfl : _ = some (tO (vR n c))), .cells rfl⟩⟩
      · exact ⟨by show 1 < 85; decide, .inl (by show 1 < 5; decide), fun _ => ⟨_, (by kernel_rfl : _ = some (mO l)), rfl⟩, .inr ⟨rfl, _, (by kernel_rfl : _ = some (mO l)), mO_back⟩⟩
      · exact ⟨by show 2 < 85; decide, .inl (by show 2 < 5; decide), fun _ => ⟨_, (by kernel_rfl : _ = some (.cells cs true)), rfl⟩, .inr ⟨rfl, _, (by kernel_rfl : _ = some (.cells cs true)), .row hc⟩⟩
      · exact ⟨by show 3 < 85; decide, .inl (by show 3 < 5; decide), fun _ => ⟨_, (by kernel_rfl : _ = some bxT), rfl⟩, .inl rfl⟩
      · exact ⟨by show 4 < 85; decide, .inl (by show 4 < 5; decide), fun _ => ⟨_, (by kernel_rfl : _ = some (bxG g)), rfl⟩, .inl rfl⟩
      · exact ⟨by show 13 < 85; decide, .inr (by show 5 ≤ 8; decide), fun h => absurd (show 8 < 5 from h) (by decide), Ux_back (by kernel_rfl)⟩
    · rcases get5 hj with ⟨rfl, rfl⟩ | ⟨rfl, rfl⟩ | ⟨rfl, rfl⟩ | ⟨rfl, rfl⟩ | ⟨rfl, rfl⟩
      · exact ⟨(0, tO (vR n c)), by simp, rfl⟩
      · exact ⟨(1, mO l), by simp, rfl⟩
      · exact ⟨(2, .cells cs true), by simp, rfl⟩
      · exact ⟨(3, .dead), by simp, rfl⟩
      · exact ⟨(4, .dead), by simp, rfl⟩
theorem up_at (hS : TreeAt S l n c cs) (hT : TreeOk l) (hl : (up l g).length < 100000) :
    Call1 Try.prog 26 [pO 0, gU g] S (Uv (S.next + 13) (up l g), outS (gK 3 S.next) [(0, tO (vR n c)), (1, mO l), (2, .cells cs true), (13, Ux (up l g))] S (S.next + 100)) := by
  refine tree_same (ot := [(13, Ux (up l g))]) (Q1 := fun q => q = (Uv 13 (up l g), vcUc_s1 (vR n c) (mO l) (.cells cs true) (Ux (up l g)))) hS (fun B w0 ι W args' hB hsr hv => ?_) (fun v hv => ?_) fun q hq => ?_
  · exact run_of_tm EUok (sum := onlyC [56] (tabC [_])) (onlyC_ok (tabC_ok fun e he => by
      simp only [List.mem_cons, List.not_mem_nil, or_false] at he
      subst he; exact apps_at hS.refs hT hl)) (Eq.mp (vcUc (tabC [_]) (vR n c) (mO l) (.cells cs true) g (Uv 13 (up l g)) (Ux (up l g)) (fun q => q = (Uv 13 (up l g), vcUc_s1 (vR n c) (mO l) (.cells cs true) (Ux (up l g))))) ⟨call_at (onlyC_at rfl (tabC_hd ..)), rfl⟩) B w0 ι W args' hsr hv
  · simp only [List.mem_cons, List.not_mem_nil, or_false] at hv
    rcases hv with rfl | rfl <;> kernel_rfl
  · subst hq
    refine ⟨Uv_back (by unfold gK; rfl), by show 85 ≤ 100; decide, by kernel_rfl, by kernel_rfl, by kernel_rfl, fun p hp => ?_⟩
    simp only [List.mem_cons, List.not_mem_nil, or_false] at hp
    subst hp
    exact ⟨by show 3 ≤ 13; decide, by show 13 < 100; decide, Ux_back (by kernel_rfl)⟩
end
end Go.Proofs.Ytidmijpfoodkoaa.gho
end

section
open Go Go.Ax Go.Proofs
namespace Go.Proofs.Ytidmijpfoodkoaa.gho
set_option linter.unusedVariables false
def KO130 : List Nat := [0, 1, 2, 3, 4, 5, 6, 7, 8, 9, 10, 11, 12, 13, 14, 15, 16, 17, 18, 19, 20, 21, 22, 23, 24, 25, 26, 27, 28, 29, 30, 31, 32, 33, 34, 35, 36, 37, 38, 39, 40, 41, 42, 43, 44, 45, 46, 47, 48, 49, 50, 51, 52, 53, 54, 55, 56, 57, 58, 59, 60, 61, 62, 63, 64, 65, 66, 67, 68, 69, 70, 71, 72, 73, 74, 75, 76, 77, 78, 79, 80, 81, 82, 83, 84, 85, 86, 87, 88, 89, 90, 91, 92, 93, 94, 95, 96, 97, 98, 99, 100, 101, 102, 103, 104, 105, 106, 107, 108, 109, 110, 111, 112, 113, 114, 115, 116, 117, 118, 119, 120, 121, 122, 123, 124, 125, 126, 127, 128, 129]
noncomputable def tDr (q : CallT) (n : Nat) (g z : Int) (R : AO) : Tr (AV × ASt) := (TM EI (onlyC [54] q) [(44, ⟨[7], [], [], []⟩)] fl0 60).call 44 [sU 0 n, gU g] (M1 R)
-- Common
noncomputable def c24 : Code := Option.getD Try.f24.body .skip
noncomputable def r24 : Code := blkB (seqR (seqL (dropC 3 c24)))
noncomputable def as24 : Code := asOf r24
noncomputable def bo24 : Code := boOf r24
noncomputable def T3 (V : AV) (M R : AO) : ASt := mkSt [(0, tO V), (1, M), (2, R)] 3
noncomputable def F24 (a b : Int) : AFr := { m := putArgs [pO 0, gU a, gU b] 0 .e, n := 38, defs := [] }
noncomputable def fr24 (a b : Int) : AFr := xFr [(0, pO 0), (1, gU a), (2, gU b), (6, pO 3), (7, pO 4)] 38
def cG (z : Int) : AO := .cells [gU z] true
def cB (b : Bool) : AO := .cells [.bool b] true
noncomputable def SC0 (V : AV) (M R : AO) : ASt := mkSt [(0, tO V), (1, M), (2, R), (3, cG 0), (4, cB false)] 5
def vY (m : Nat) (c : Cap) : AV := .slice (some (5, 0)) m c
noncomputable def SC1 (V : AV) (M R Y : AO) (m : Nat) (c : Cap) : ASt := mkSt [(0, tO V), (1, M), (2, R), (3, cG 0), (4, cB false), (5, Y), (6, bxS (vY m c))] 7
noncomputable def fr24b (a : Int) : AFr := xFr [(0, pO 0), (1, gU a), (6, pO 3), (7, pO 4), (8, pO 6)] 38
noncomputable def frD : AFr := xFr [(6, pO 3), (7, pO 4), (8, pO 6), (32, clO 7 8)] 38
noncomputable def lrC : AO := .loop .ready none frD [33] as24 bo24 9
noncomputable def SC (V : AV) (M R Y : AO) (m : Nat) (c : Cap) (g : Int) : ASt := mkSt [(0, tO V), (1, M), (2, R), (3, cG 0), (4, cB false), (5, Y), (6, bxS (vY m c)), (7, bxT), (8, bxG g), (9, .defd), (10, lrC)] 11
noncomputable def tMx (V : AV) (M R : AO) (a b p : Int) : Tr (Exit × AFr × ASt) := (TM EU noSum flH fl0 60).ex ⟨[], [12, 17], [], []⟩ none (preC 1 c24) (F24 a b) (T3 V M R)
noncomputable def tMy (V : AV) (M R : AO) (a b p : Int) : Tr (Exit × AFr × ASt) := (TM EU noSum flH fl0 60).ex ⟨[], [12, 17], [], []⟩ none (preC 1 c24) (F24 a b) (T3 V M R)
noncomputable def tMz (V : AV) (M R : AO) (a b p p2 : Int) : Tr (Exit × AFr × ASt) := (TM EU noSum flH fl0 60).ex ⟨[], [12, 17], [], []⟩ none (preC 1 c24) (F24 a b) (T3 V M R)
noncomputable def tNa (q : CallT) (V : AV) (M R : AO) (a b : Int) : Tr (Exit × AFr × ASt) := (TM EU (onlyC [26] q) [] fl0 60).ex ⟨[24, 25], [], [], []⟩ none (preC 0 (dropC 1 c24)) (fr24 a b) (SC0 V M R)
noncomputable def tNb (q : CallT) (V : AV) (M R : AO) (a b : Int) (m : Nat) (Vu : AV) (X Y : AO) : Tr (Exit × AFr × ASt) := (TM EU (onlyC [26] q) [] fl0 60).ex ⟨[24, 25], [], [], []⟩ none (preC 0 (dropC 1 c24)) (fr24 a b) (SC0 V M R)
noncomputable def tNc (q : CallT) (V : AV) (M R Y : AO) (m : Nat) (c : Cap) (a : Int) : Tr (Exit × AFr × ASt) := (TM EU (onlyC [44] q) [] fl0 60).ex ⟨[28], [], [], []⟩ none (preC 0 (dropC 2 c24)) (fr24b a) (SC1 V M R Y m c)
noncomputable def tNd (q : CallT) (V : AV) (M R Y : AO) (m : Nat) (c : Cap) (a : Int) : Tr (Exit × AFr × ASt) := (TM EU (onlyC [44] q) [] fl0 60).ex ⟨[28], [], [], []⟩ none (preC 0 (dropC 2 c24)) (fr24b a) (SC1 V M R Y m c)
noncomputable def tNe (V : AV) (M R Y : AO) (m : Nat) (c : Cap) (a : Int) : Tr (Exit × AFr × ASt) := (TM EU noSum [(45, fl0)] fl0 60).ex ⟨[], [32], [], []⟩ none (seqL (seqL (dropC 3 c24))) (fr24b a) (SC1 V M R Y m c)
-- rounds
noncomputable def tPx (V : AV) (M R Y : AO) (m : Nat) (c : Cap) (g : Int) : Tr (Exit × AFr × ASt) := (TM EU noSum flH ⟨[36], [], [], []⟩ 60).ex ⟨[12, 14], [6, 18], [], []⟩ none L55 (fr55 10 7 8) (SC V M R Y m c g)
noncomputable def tPy (V : AV) (M R Y : AO) (m : Nat) (c : Cap) (g p : Int) : Tr (Exit × AFr × ASt) := (TM EU noSum flH ⟨[36], [], [], []⟩ 60).ex ⟨[12, 14], [6, 18], [], []⟩ none L55 (fr55 10 7 8) (SC V M R Y m c g)
noncomputable def tPf (q : CallT) (V : AV) (M R Y : AO) (m : Nat) (c : Cap) (g p : Int) : Tr (Exit × AFr × ASt) := (TM EU (onlyC [44] q) flH ⟨[36], [], [], []⟩ 60).ex ⟨[12, 14], [6, 18], [], []⟩ none L55 (fr55 10 7 8) (SC V M R Y m c g)
noncomputable def tPn (q : CallT) (V : AV) (M R Y : AO) (m : Nat) (c : Cap) (g p : Int) : Tr (Exit × AFr × ASt) := (TM EU (onlyC [44] q) flH ⟨[36], [], [], []⟩ 60).ex ⟨[12, 14], [6, 18], [], []⟩ none L55 (fr55 10 7 8) (SC V M R Y m c g)
noncomputable def frE24 : AFr := { m := frD.m, n := 38, defs := [9] }
noncomputable def SCz (V : AV) (M R : AO) (z : Int) (b : Bool) : ASt := mkSt [(0, tO V), (1, M), (2, R), (3, cG z), (4, cB b), (9, .defd)] 11
noncomputable def tPz (V : AV) (M R : AO) (z : Int) (b : Bool) : Tr (Exit × AFr × ASt) := (TM EU noSum [] fl0 60).ex fl0 none (dropC 4 c24) frE24 (SCz V M R z b)
noncomputable def vcDr_s0 (R : AO) : ASt := mkSt [(0, R)] 1
theorem vcDr (q : CallT) (n : Nat) (g : Int) (z : Int) (R : AO) (Q : AV × ASt → Prop) :
  ((M EI (drawA EI) (onlyC [54] q) 56).call 54 [.slice (some (0, 0)) n (.atl n), .int .u64 g] (vcDr_s0 R) = some (.int .i64 z, vcDr_s0 R) ∧ Q (.bool !ltF z (.ofNat 0), vcDr_s0 R)) =
  (tDr q n g z R).allY (fun r => Q (r.1, canS KO130 r.2)) (.v (.int .i64 z, vcDr_s0 R) .nil) := by kernel_rfl
noncomputable def vcMx_s0 (V : AV) (M : AO) (R : AO) : ASt := mkSt [(0, .cells [.map (some 1), V] true), (1, M), (2, R), (3, .cells [.int .u64 (.ofNat 0)] true), (4, .cells [.bool false] true)] 5
theorem vcMx (V : AV) (M : AO) (R : AO) (a : Int) (b : Int) (p : Int) (Q : Exit × AFr × ASt → Prop) :
  (still (vcMx_s0 V M R) (aLookup EU 89 (.map (some 1)) (.int .u64 a) true (vcMx_s0 V M R)) = some (.tuple [.int .u64 (.ofNat 0), .bool false], vcMx_s0 V M R) ∧ Q (.ret, xFr [(6, .ptr (some (3, 0))), (7, .ptr (some (4, 0)))] 38, vcMx_s0 V M R)) =
  (tMx V M R a b p).allY (fun r => Q (canR [6, 7] KO130 r)) (.v (.tuple [.int .u64 (.ofNat 0), .bool false], vcMx_s0 V M R) .nil) := by kernel_rfl
noncomputable def vcMy_s0 (V : AV) (M : AO) (R : AO) : ASt := mkSt [(0, .cells [.map (some 1), V] true), (1, M), (2, R), (3, .cells [.int .u64 (.ofNat 0)] true), (4, .cells [.bool false] true)] 5
theorem vcMy (V : AV) (M : AO) (R : AO) (a : Int) (b : Int) (p : Int) (Q : Exit × AFr × ASt → Prop) :
  (still (vcMy_s0 V M R) (aLookup EU 89 (.map (some 1)) (.int .u64 a) true (vcMy_s0 V M R)) = some (.tuple [.int .u64 p, .bool true], vcMy_s0 V M R) ∧ still (vcMy_s0 V M R) (aLookup EU 89 (.map (some 1)) (.int .u64 b) true (vcMy_s0 V M R)) = some (.tuple [.int .u64 (.ofNat 0), .bool false], vcMy_s0 V M R) ∧ Q (.ret, xFr [(6, .ptr (some (3, 0))), (7, .ptr (some (4, 0)))] 38, vcMy_s0 V M R)) =
  (tMy V M R a b p).allY (fun r => Q (canR [6, 7] KO130 r)) (.v (.tuple [.int .u64 p, .bool true], vcMy_s0 V M R) (.v (.tuple [.int .u64 (.ofNat 0), .bool false], vcMy_s0 V M R) .nil)) := by kernel_rfl
noncomputable def vcMz_s0 (V : AV) (M : AO) (R : AO) : ASt := mkSt [(0, .cells [.map (some 1), V] true), (1, M), (2, R), (3, .cells [.int .u64 (.ofNat 0)] true), (4, .cells [.bool false] true)] 5
theorem vcMz (V : AV) (M : AO) (R : AO) (a : Int) (b : Int) (p : Int) (p2 : Int) (Q : Exit × AFr × ASt → Prop) :
  (still (vcMz_s0 V M R) (aLookup EU 89 (.map (some 1)) (.int .u64 a) true (vcMz_s0 V M R)) = some (.tuple [.int .u64 p, .bool true], vcMz_s0 V M R) ∧ still (vcMz_s0 V M R) (aLookup EU 89 (.map (some 1)) (.int .u64 b) true (vcMz_s0 V M R)) = some (.tuple [.int .u64 p2, .bool true], vcMz_s0 V M R) ∧ Q (.normal, xFr [(0, .ptr (some (0, 0))), (1, .int .u64 a), (2, .int .u64 b), (6, .ptr (some (3, 0))), (7, .ptr (some (4, 0)))] 38, vcMz_s0 V M R)) =
  (tMz V M R a b p p2).allY (fun r => Q (canR [0, 1, 2, 6, 7] KO130 r)) (.v (.tuple [.int .u64 p, .bool true], vcMz_s0 V M R) (.v (.tuple [.int .u64 p2, .bool true], vcMz_s0 V M R) .nil)) := by kernel_rfl
noncomputable def vcNa_s0 (V : AV) (M : AO) (R : AO) (b : Int) : ASt := mkSt [(0, .cells [.map (some 1), V] true), (1, M), (2, R), (3, .cells [.int .u64 (.ofNat 0)] true), (4, .cells [.bool false] true), (5, .cells [.int .u64 b] true)] 6
noncomputable def vcNa_s1 (V : AV) (M : AO) (R : AO) (b : Int) : ASt := mkSt [(0, .cells [.map (some 1), V] true), (1, M), (2, R), (3, .cells [.int .u64 (.ofNat 0)] true), (4, .cells [.bool false] true), (5, .cells [.int .u64 b] true), (19, .dead)] 106
noncomputable def vcNa_s2 (V : AV) (M : AO) (R : AO) (b : Int) : ASt := mkSt [(0, .cells [.map (some 1), V] true), (1, M), (2, R), (3, .cells [.int .u64 (.ofNat 0)] true), (4, .cells [.bool false] true), (5, .cells [.int .u64 b] true), (19, .dead), (106, .cells [.slice (some (5, 0)) 1 (.known 1)] true)] 107
theorem vcNa (q : CallT) (V : AV) (M : AO) (R : AO) (a : Int) (b : Int) (Q : Exit × AFr × ASt → Prop) :
  ((Ax.M EU (drawA EU) (onlyC [26] q) 59).call 26 [.ptr (some (0, 0)), .int .u64 b] (vcNa_s0 V M R b) = some (.slice none 0 (.known 0), vcNa_s1 V M R b) ∧ aBuiltinM EU .append [57, 57] [.slice (some (5, 0)) 1 (.known 1), .slice none 0 (.known 0)] (vcNa_s1 V M R b) = some (.slice (some (5, 0)) 1 (.known 1), vcNa_s1 V M R b) ∧ Q (.normal, xFr [(0, .ptr (some (0, 0))), (1, .int .u64 a), (6, .ptr (some (3, 0))), (7, .ptr (some (4, 0))), (8, .ptr (some (106, 0)))] 38, vcNa_s2 V M R b)) =
  (tNa q V M R a b).allY (fun r => Q (canR [0, 1, 6, 7, 8] KO130 r)) (.v (.slice none 0 (.known 0), vcNa_s1 V M R b) (.v (.slice (some (5, 0)) 1 (.known 1), vcNa_s1 V M R b) .nil)) := by kernel_rfl
noncomputable def vcNb_s0 (V : AV) (M : AO) (R : AO) (b : Int) : ASt := mkSt [(0, .cells [.map (some 1), V] true), (1, M), (2, R), (3, .cells [.int .u64 (.ofNat 0)] true), (4, .cells [.bool false] true), (5, .cells [.int .u64 b] true)] 6
noncomputable def vcNb_s1 (V : AV) (M : AO) (R : AO) (b : Int) (X : AO) : ASt := mkSt [(0, .cells [.map (some 1), V] true), (1, M), (2, R), (3, .cells [.int .u64 (.ofNat 0)] true), (4, .cells [.bool false] true), (5, .cells [.int .u64 b] true), (19, X)] 106
noncomputable def vcNb_s2 (V : AV) (M : AO) (R : AO) (b : Int) (X : AO) (Y : AO) : ASt := mkSt [(0, .cells [.map (some 1), V] true), (1, M), (2, R), (3, .cells [.int .u64 (.ofNat 0)] true), (4, .cells [.bool false] true), (5, .cells [.int .u64 b] true), (19, X), (106, Y)] 107
noncomputable def vcNb_s3 (V : AV) (M : AO) (R : AO) (b : Int) (m : Nat) (X : AO) (Y : AO) : ASt := mkSt [(0, .cells [.map (some 1), V] true), (1, M), (2, R), (3, .cells [.int .u64 (.ofNat 0)] true), (4, .cells [.bool false] true), (5, .cells [.int .u64 b] true), (19, X), (106, Y), (107, .cells [.slice (some (106, 0)) (m + 1) (.rest 1)] true)] 108
theorem vcNb (q : CallT) (V : AV) (M : AO) (R : AO) (a : Int) (b : Int) (m : Nat) (Vu : AV) (X : AO) (Y : AO) (Q : Exit × AFr × ASt → Prop) :
  ((Ax.M EU (drawA EU) (onlyC [26] q) 59).call 26 [.ptr (some (0, 0)), .int .u64 b] (vcNb_s0 V M R b) = some (Vu, vcNb_s1 V M R b X) ∧ aBuiltinM EU .append [57, 57] [.slice (some (5, 0)) 1 (.known 1), Vu] (vcNb_s1 V M R b X) = some (.slice (some (106, 0)) (m + 1) (.rest 1), vcNb_s2 V M R b X Y) ∧ Q (.normal, xFr [(0, .ptr (some (0, 0))), (1, .int .u64 a), (6, .ptr (some (3, 0))), (7, .ptr (some (4, 0))), (8, .ptr (some (107, 0)))] 38, vcNb_s3 V M R b m X Y)) =
  (tNb q V M R a b m Vu X Y).allY (fun r => Q (canR [0, 1, 6, 7, 8] KO130 r)) (.v (Vu, vcNb_s1 V M R b X) (.v (.slice (some (106, 0)) (m + 1) (.rest 1), vcNb_s2 V M R b X Y) .nil)) := by kernel_rfl
noncomputable def vcNc_s0 (V : AV) (M : AO) (R : AO) (Y : AO) (m : Nat) (c : Cap) : ASt := mkSt [(0, .cells [.map (some 1), V] true), (1, M), (2, R), (3, .cells [.int .u64 (.ofNat 0)] true), (4, .cells [.bool false] true), (5, Y), (6, .cells [.slice (some (5, 0)) m c] true)] 7
noncomputable def vcNc_s1 (V : AV) (M : AO) (R : AO) (Y : AO) (m : Nat) (c : Cap) (a : Int) : ASt := mkSt [(0, .cells [.map (some 1), V] true), (1, M), (2, R), (3, .cells [.int .u64 a] true), (4, .cells [.bool true] true), (5, Y), (6, .cells [.slice (some (5, 0)) m c] true)] 7
theorem vcNc (q : CallT) (V : AV) (M : AO) (R : AO) (Y : AO) (m : Nat) (c : Cap) (a : Int) (Q : Exit × AFr × ASt → Prop) :
  ((Ax.M EU (drawA EU) (onlyC [44] q) 58).call 44 [.slice (some (5, 0)) m c, .int .u64 a] (vcNc_s0 V M R Y m c) = some (.bool true, vcNc_s0 V M R Y m c) ∧ Q (.ret, xFr [(6, .ptr (some (3, 0))), (7, .ptr (some (4, 0)))] 38, vcNc_s1 V M R Y m c a)) =
  (tNc q V M R Y m c a).allY (fun r => Q (canR [6, 7] KO130 r)) (.v (.bool true, vcNc_s0 V M R Y m c) .nil) := by kernel_rfl
noncomputable def vcNd_s0 (V : AV) (M : AO) (R : AO) (Y : AO) (m : Nat) (c : Cap) : ASt := mkSt [(0, .cells [.map (some 1), V] true), (1, M), (2, R), (3, .cells [.int .u64 (.ofNat 0)] true), (4, .cells [.bool false] true), (5, Y), (6, .cells [.slice (some (5, 0)) m c] true)] 7
theorem vcNd (q : CallT) (V : AV) (M : AO) (R : AO) (Y : AO) (m : Nat) (c : Cap) (a : Int) (Q : Exit × AFr × ASt → Prop) :
  ((Ax.M EU (drawA EU) (onlyC [44] q) 58).call 44 [.slice (some (5, 0)) m c, .int .u64 a] (vcNd_s0 V M R Y m c) = some (.bool false, vcNd_s0 V M R Y m c) ∧ Q (.normal, xFr [(0, .ptr (some (0, 0))), (1, .int .u64 a), (6, .ptr (some (3, 0))), (7, .ptr (some (4, 0))), (8, .ptr (some (6, 0)))] 38, vcNd_s0 V M R Y m c)) =
  (tNd q V M R Y m c a).allY (fun r => Q (canR [0, 1, 6, 7, 8] KO130 r)) (.v (.bool false, vcNd_s0 V M R Y m c) .nil) := by kernel_rfl
noncomputable def vcNe_s0 (V : AV) (M : AO) (R : AO) (Y : AO) (m : Nat) (c : Cap) (a : Int) : ASt := mkSt [(0, .cells [.map (some 1), V] true), (1, M), (2, R), (3, .cells [.int .u64 (.ofNat 0)] true), (4, .cells [.bool false] true), (5, Y), (6, .cells [.slice (some (5, 0)) m c] true), (7, .cells [.ptr (some (0, 0))] true), (8, .cells [.int .u64 a] true)] 9
theorem vcNe (V : AV) (M : AO) (R : AO) (Y : AO) (m : Nat) (c : Cap) (a : Int) (Q : Exit × AFr × ASt → Prop) :
  (Q (.normal, xFr [(6, .ptr (some (3, 0))), (7, .ptr (some (4, 0))), (8, .ptr (some (6, 0))), (32, .clos 55 [.ptr (some (7, 0)), .ptr (some (8, 0))])] 38, vcNe_s0 V M R Y m c a)) =
  (tNe V M R Y m c a).allY (fun r => Q (canR [6, 7, 8, 32] KO130 r)) (.nil) := by kernel_rfl
noncomputable def vcPx_s0 (V : AV) (M : AO) (R : AO) (Y : AO) (m : Nat) (c : Cap) (g : Int) : ASt := mkSt [(0, .cells [.map (some 1), V] true), (1, M), (2, R), (3, .cells [.int .u64 (.ofNat 0)] true), (4, .cells [.bool false] true), (5, Y), (6, .cells [.slice (some (5, 0)) m c] true), (7, .cells [.ptr (some (0, 0))] true), (8, .cells [.int .u64 g] true), (9, .defd), (10, .loop LoopState.ready none (mkFr [(0, .any), (1, .any), (2, .any), (3, .any), (4, .any), (5, .any), (6, .ptr (some (3, 0))), (7, .ptr (some (4, 0))), (8, .ptr (some (6, 0))), (9, .any), (10, .any), (11, .any), (12, .any), (13, .any), (14, .any), (15, .any), (16, .any), (17, .any), (18, .any), (19, .any), (20, .any), (21, .any), (22, .any), (23, .any), (24, .any), (25, .any), (26, .any), (27, .any), (28, .any), (29, .any), (30, .any), (31, .any), (32, .clos 55 [.ptr (some (7, 0)), .ptr (some (8, 0))]), (33, .any), (34, .any), (35, .any), (36, .any), (37, .any)] 38 []) [33] as24 bo24 9)] 11
theorem vcPx (V : AV) (M : AO) (R : AO) (Y : AO) (m : Nat) (c : Cap) (g : Int) (Q : Exit × AFr × ASt → Prop) :
  (still (vcPx_s0 V M R Y m c g) (aLookup EU 89 (.map (some 1)) (.int .u64 g) true (vcPx_s0 V M R Y m c g)) = some (.tuple [.int .u64 (.ofNat 0), .bool false], vcPx_s0 V M R Y m c g) ∧ Q (.exit 0, xFr [(0, .yield 10), (1, .ptr (some (7, 0))), (2, .ptr (some (8, 0)))] 21, vcPx_s0 V M R Y m c g)) =
  (tPx V M R Y m c g).allY (fun r => Q (canR [0, 1, 2] KO130 r)) (.v (.tuple [.int .u64 (.ofNat 0), .bool false], vcPx_s0 V M R Y m c g) .nil) := by kernel_rfl
noncomputable def vcPy_s0 (V : AV) (M : AO) (R : AO) (Y : AO) (m : Nat) (c : Cap) (g : Int) : ASt := mkSt [(0, .cells [.map (some 1), V] true), (1, M), (2, R), (3, .cells [.int .u64 (.ofNat 0)] true), (4, .cells [.bool false] true), (5, Y), (6, .cells [.slice (some (5, 0)) m c] true), (7, .cells [.ptr (some (0, 0))] true), (8, .cells [.int .u64 g] true), (9, .defd), (10, .loop LoopState.ready none (mkFr [(0, .any), (1, .any), (2, .any), (3, .any), (4, .any), (5, .any), (6, .ptr (some (3, 0))), (7, .ptr (some (4, 0))), (8, .ptr (some (6, 0))), (9, .any), (10, .any), (11, .any), (12, .any), (13, .any), (14, .any), (15, .any), (16, .any), (17, .any), (18, .any), (19, .any), (20, .any), (21, .any), (22, .any), (23, .any), (24, .any), (25, .any), (26, .any), (27, .any), (28, .any), (29, .any), (30, .any), (31, .any), (32, .clos 55 [.ptr (some (7, 0)), .ptr (some (8, 0))]), (33, .any), (34, .any), (35, .any), (36, .any), (37, .any)] 38 []) [33] as24 bo24 9)] 11
noncomputable def vcPy_s1 (V : AV) (M : AO) (R : AO) (Y : AO) (m : Nat) (c : Cap) (g : Int) : ASt := mkSt [(0, .cells [.map (some 1), V] true), (1, M), (2, R), (3, .cells [.int .u64 (.ofNat 0)] true), (4, .cells [.bool false] true), (5, Y), (6, .cells [.slice (some (5, 0)) m c] true), (7, .cells [.ptr (some (0, 0))] true), (8, .cells [.int .u64 g] true), (9, .defd), (10, .loop LoopState.ready none (mkFr [(0, .any), (1, .any), (2, .any), (3, .any), (4, .any), (5, .any), (6, .ptr (some (3, 0))), (7, .ptr (some (4, 0))), (8, .ptr (some (6, 0))), (9, .any), (10, .any), (11, .any), (12, .any), (13, .any), (14, .any), (15, .any), (16, .any), (17, .any), (18, .any), (19, .any), (20, .any), (21, .any), (22, .any), (23, .any), (24, .any), (25, .any), (26, .any), (27, .any), (28, .any), (29, .any), (30, .any), (31, .any), (32, .clos 55 [.ptr (some (7, 0)), .ptr (some (8, 0))]), (33, .any), (34, .any), (35, .any), (36, .any), (37, .any)] 38 []) [33] as24 bo24 9)] 18
noncomputable def vcPy_s2 (V : AV) (M : AO) (R : AO) (Y : AO) (m : Nat) (c : Cap) (p : Int) : ASt := mkSt [(0, .cells [.map (some 1), V] true), (1, M), (2, R), (3, .cells [.int .u64 (.ofNat 0)] true), (4, .cells [.bool false] true), (5, Y), (6, .cells [.slice (some (5, 0)) m c] true), (7, .cells [.ptr (some (0, 0))] true), (8, .cells [.int .u64 p] true), (9, .defd), (10, .loop LoopState.ready none (mkFr [(0, .any), (1, .any), (2, .any), (3, .any), (4, .any), (5, .any), (6, .ptr (some (3, 0))), (7, .ptr (some (4, 0))), (8, .ptr (some (6, 0))), (9, .any), (10, .any), (11, .any), (12, .any), (13, .any), (14, .any), (15, .any), (16, .any), (17, .any), (18, .any), (19, .any), (20, .any), (21, .any), (22, .any), (23, .any), (24, .any), (25, .any), (26, .any), (27, .any), (28, .any), (29, .any), (30, .any), (31, .any), (32, .clos 55 [.ptr (some (7, 0)), .ptr (some (8, 0))]), (33, .any), (34, .any), (35, .any), (36, .any), (37, .any)] 38 []) [33] as24 bo24 9)] 18
theorem vcPy (V : AV) (M : AO) (R : AO) (Y : AO) (m : Nat) (c : Cap) (g : Int) (p : Int) (Q : Exit × AFr × ASt → Prop) :
  (still (vcPy_s0 V M R Y m c g) (aLookup EU 89 (.map (some 1)) (.int .u64 g) true (vcPy_s0 V M R Y m c g)) = some (.tuple [.int .u64 p, .bool true], vcPy_s0 V M R Y m c g) ∧ still (vcPy_s1 V M R Y m c g) (aLookup EU 89 (.map (some 1)) (.int .u64 g) false (vcPy_s1 V M R Y m c g)) = some (.int .u64 p, vcPy_s1 V M R Y m c g) ∧ holdsO [] ∧ still (vcPy_s2 V M R Y m c p) (aBin EU .eql 48 (.tmp 13) (.const (.int .u64 0)) (.int .u64 p) (.int .u64 (.ofNat 0))) = some (.bool true, vcPy_s2 V M R Y m c p) ∧ Q (.ret, xFr [(0, .yield 10), (1, .ptr (some (7, 0))), (2, .ptr (some (8, 0)))] 21, vcPy_s2 V M R Y m c p)) =
  (tPy V M R Y m c g p).allY (fun r => Q (canR [0, 1, 2] KO130 r)) (.v (.tuple [.int .u64 p, .bool true], vcPy_s0 V M R Y m c g) (.v (.int .u64 p, vcPy_s1 V M R Y m c g) (.v (.bool true, vcPy_s2 V M R Y m c p) .nil))) := by kernel_rfl
noncomputable def vcPf_s0 (V : AV) (M : AO) (R : AO) (Y : AO) (m : Nat) (c : Cap) (g : Int) : ASt := mkSt [(0, .cells [.map (some 1), V] true), (1, M), (2, R), (3, .cells [.int .u64 (.ofNat 0)] true), (4, .cells [.bool false] true), (5, Y), (6, .cells [.slice (some (5, 0)) m c] true), (7, .cells [.ptr (some (0, 0))] true), (8, .cells [.int .u64 g] true), (9, .defd), (10, .loop LoopState.ready none (mkFr [(0, .any), (1, .any), (2, .any), (3, .any), (4, .any), (5, .any), (6, .ptr (some (3, 0))), (7, .ptr (some (4, 0))), (8, .ptr (some (6, 0))), (9, .any), (10, .any), (11, .any), (12, .any), (13, .any), (14, .any), (15, .any), (16, .any), (17, .any), (18, .any), (19, .any), (20, .any), (21, .any), (22, .any), (23, .any), (24, .any), (25, .any), (26, .any), (27, .any), (28, .any), (29, .any), (30, .any), (31, .any), (32, .clos 55 [.ptr (some (7, 0)), .ptr (some (8, 0))]), (33, .any), (34, .any), (35, .any), (36, .any), (37, .any)] 38 []) [33] as24 bo24 9)] 11
noncomputable def vcPf_s1 (V : AV) (M : AO) (R : AO) (Y : AO) (m : Nat) (c : Cap) (g : Int) : ASt := mkSt [(0, .cells [.map (some 1), V] true), (1, M), (2, R), (3, .cells [.int .u64 (.ofNat 0)] true), (4, .cells [.bool false] true), (5, Y), (6, .cells [.slice (some (5, 0)) m c] true), (7, .cells [.ptr (some (0, 0))] true), (8, .cells [.int .u64 g] true), (9, .defd), (10, .loop LoopState.ready none (mkFr [(0, .any), (1, .any), (2, .any), (3, .any), (4, .any), (5, .any), (6, .ptr (some (3, 0))), (7, .ptr (some (4, 0))), (8, .ptr (some (6, 0))), (9, .any), (10, .any), (11, .any), (12, .any), (13, .any), (14, .any), (15, .any), (16, .any), (17, .any), (18, .any), (19, .any), (20, .any), (21, .any), (22, .any), (23, .any), (24, .any), (25, .any), (26, .any), (27, .any), (28, .any), (29, .any), (30, .any), (31, .any), (32, .clos 55 [.ptr (some (7, 0)), .ptr (some (8, 0))]), (33, .any), (34, .any), (35, .any), (36, .any), (37, .any)] 38 []) [33] as24 bo24 9)] 18
noncomputable def vcPf_s2 (V : AV) (M : AO) (R : AO) (Y : AO) (m : Nat) (c : Cap) (p : Int) : ASt := mkSt [(0, .cells [.map (some 1), V] true), (1, M), (2, R), (3, .cells [.int .u64 (.ofNat 0)] true), (4, .cells [.bool false] true), (5, Y), (6, .cells [.slice (some (5, 0)) m c] true), (7, .cells [.ptr (some (0, 0))] true), (8, .cells [.int .u64 p] true), (9, .defd), (10, .loop LoopState.ready none (mkFr [(0, .any), (1, .any), (2, .any), (3, .any), (4, .any), (5, .any), (6, .ptr (some (3, 0))), (7, .ptr (some (4, 0))), (8, .ptr (some (6, 0))), (9, .any), (10, .any), (11, .any), (12, .any), (13, .any), (14, .any), (15, .any), (16, .any), (17, .any), (18, .any), (19, .any), (20, .any), (21, .any), (22, .any), (23, .any), (24, .any), (25, .any), (26, .any), (27, .any), (28, .any), (29, .any), (30, .any), (31, .any), (32, .clos 55 [.ptr (some (7, 0)), .ptr (some (8, 0))]), (33, .any), (34, .any), (35, .any), (36, .any), (37, .any)] 38 []) [33] as24 bo24 9)] 18
noncomputable def vcPf_s3 (V : AV) (M : AO) (R : AO) (Y : AO) (m : Nat) (c : Cap) (p : Int) : ASt := mkSt [(0, .cells [.map (some 1), V] true), (1, M), (2, R), (3, .cells [.int .u64 (.ofNat 0)] true), (4, .cells [.bool false] true), (5, Y), (6, .cells [.slice (some (5, 0)) m c] true), (7, .cells [.ptr (some (0, 0))] true), (8, .cells [.int .u64 p] true), (9, .defd), (10, .loop LoopState.busy none (mkFr [(0, .any), (1, .any), (2, .any), (3, .any), (4, .any), (5, .any), (6, .ptr (some (3, 0))), (7, .ptr (some (4, 0))), (8, .ptr (some (6, 0))), (9, .any), (10, .any), (11, .any), (12, .any), (13, .any), (14, .any), (15, .any), (16, .any), (17, .any), (18, .any), (19, .any), (20, .any), (21, .any), (22, .any), (23, .any), (24, .any), (25, .any), (26, .any), (27, .any), (28, .any), (29, .any), (30, .any), (31, .any), (32, .clos 55 [.ptr (some (7, 0)), .ptr (some (8, 0))]), (33, .any), (34, .any), (35, .any), (36, .any), (37, .any)] 38 []) [33] as24 bo24 9)] 18
noncomputable def vcPf_s4 (V : AV) (M : AO) (R : AO) (Y : AO) (m : Nat) (c : Cap) (p : Int) : ASt := mkSt [(0, .cells [.map (some 1), V] true), (1, M), (2, R), (3, .cells [.int .u64 p] true), (4, .cells [.bool true] true), (5, Y), (6, .cells [.slice (some (5, 0)) m c] true), (7, .cells [.ptr (some (0, 0))] true), (8, .cells [.int .u64 p] true), (9, .defd), (10, .loop LoopState.done (some Code.ret) (mkFr [(0, .any), (1, .any), (2, .any), (3, .any), (4, .any), (5, .any), (6, .ptr (some (3, 0))), (7, .ptr (some (4, 0))), (8, .ptr (some (6, 0))), (9, .any), (10, .any), (11, .any), (12, .any), (13, .any), (14, .any), (15, .any), (16, .any), (17, .any), (18, .any), (19, .any), (20, .any), (21, .any), (22, .any), (23, .any), (24, .any), (25, .any), (26, .any), (27, .any), (28, .any), (29, .any), (30, .any), (31, .any), (32, .clos 55 [.ptr (some (7, 0)), .ptr (some (8, 0))]), (33, .any), (34, .any), (35, .any), (36, .any), (37, .any)] 38 []) [33] as24 bo24 9)] 18
theorem vcPf (q : CallT) (V : AV) (M : AO) (R : AO) (Y : AO) (m : Nat) (c : Cap) (g : Int) (p : Int) (Q : Exit × AFr × ASt → Prop) :
  (still (vcPf_s0 V M R Y m c g) (aLookup EU 89 (.map (some 1)) (.int .u64 g) true (vcPf_s0 V M R Y m c g)) = some (.tuple [.int .u64 p, .bool true], vcPf_s0 V M R Y m c g) ∧ still (vcPf_s1 V M R Y m c g) (aLookup EU 89 (.map (some 1)) (.int .u64 g) false (vcPf_s1 V M R Y m c g)) = some (.int .u64 p, vcPf_s1 V M R Y m c g) ∧ holdsO [] ∧ still (vcPf_s2 V M R Y m c p) (aBin EU .eql 48 (.tmp 13) (.const (.int .u64 0)) (.int .u64 p) (.int .u64 (.ofNat 0))) = some (.bool false, vcPf_s2 V M R Y m c p) ∧ (Ax.M EU (drawA EU) (onlyC [44] q) 51).call 44 [.slice (some (5, 0)) m c, .int .u64 p] (vcPf_s3 V M R Y m c p) = some (.bool true, vcPf_s3 V M R Y m c p) ∧ Q (.ret, xFr [(0, .yield 10), (1, .ptr (some (7, 0))), (2, .ptr (some (8, 0)))] 21, vcPf_s4 V M R Y m c p)) =
  (tPf q V M R Y m c g p).allY (fun r => Q (canR [0, 1, 2] KO130 r)) (.v (.tuple [.int .u64 p, .bool true], vcPf_s0 V M R Y m c g) (.v (.int .u64 p, vcPf_s1 V M R Y m c g) (.v (.bool false, vcPf_s2 V M R Y m c p) (.v (.bool true, vcPf_s3 V M R Y m c p) .nil)))) := by kernel_rfl
noncomputable def vcPn_s0 (V : AV) (M : AO) (R : AO) (Y : AO) (m : Nat) (c : Cap) (g : Int) : ASt := mkSt [(0, .cells [.map (some 1), V] true), (1, M), (2, R), (3, .cells [.int .u64 (.ofNat 0)] true), (4, .cells [.bool false] true), (5, Y), (6, .cells [.slice (some (5, 0)) m c] true), (7, .cells [.ptr (some (0, 0))] true), (8, .cells [.int .u64 g] true), (9, .defd), (10, .loop LoopState.ready none (mkFr [(0, .any), (1, .any), (2, .any), (3, .any), (4, .any), (5, .any), (6, .ptr (some (3, 0))), (7, .ptr (some (4, 0))), (8, .ptr (some (6, 0))), (9, .any), (10, .any), (11, .any), (12, .any), (13, .any), (14, .any), (15, .any), (16, .any), (17, .any), (18, .any), (19, .any), (20, .any), (21, .any), (22, .any), (23, .any), (24, .any), (25, .any), (26, .any), (27, .any), (28, .any), (29, .any), (30, .any), (31, .any), (32, .clos 55 [.ptr (some (7, 0)), .ptr (some (8, 0))]), (33, .any), (34, .any), (35, .any), (36, .any), (37, .any)] 38 []) [33] as24 bo24 9)] 11
noncomputable def vcPn_s1 (V : AV) (M : AO) (R : AO) (Y : AO) (m : Nat) (c : Cap) (g : Int) : ASt := mkSt [(0, .cells [.map (some 1), V] true), (1, M), (2, R), (3, .cells [.int .u64 (.ofNat 0)] true), (4, .cells [.bool false] true), (5, Y), (6, .cells [.slice (some (5, 0)) m c] true), (7, .cells [.ptr (some (0, 0))] true), (8, .cells [.int .u64 g] true), (9, .defd), (10, .loop LoopState.ready none (mkFr [(0, .any), (1, .any), (2, .any), (3, .any), (4, .any), (5, .any), (6, .ptr (some (3, 0))), (7, .ptr (some (4, 0))), (8, .ptr (some (6, 0))), (9, .any), (10, .any), (11, .any), (12, .any), (13, .any), (14, .any), (15, .any), (16, .any), (17, .any), (18, .any), (19, .any), (20, .any), (21, .any), (22, .any), (23, .any), (24, .any), (25, .any), (26, .any), (27, .any), (28, .any), (29, .any), (30, .any), (31, .any), (32, .clos 55 [.ptr (some (7, 0)), .ptr (some (8, 0))]), (33, .any), (34, .any), (35, .any), (36, .any), (37, .any)] 38 []) [33] as24 bo24 9)] 18
noncomputable def vcPn_s2 (V : AV) (M : AO) (R : AO) (Y : AO) (m : Nat) (c : Cap) (p : Int) : ASt := mkSt [(0, .cells [.map (some 1), V] true), (1, M), (2, R), (3, .cells [.int .u64 (.ofNat 0)] true), (4, .cells [.bool false] true), (5, Y), (6, .cells [.slice (some (5, 0)) m c] true), (7, .cells [.ptr (some (0, 0))] true), (8, .cells [.int .u64 p] true), (9, .defd), (10, .loop LoopState.ready none (mkFr [(0, .any), (1, .any), (2, .any), (3, .any), (4, .any), (5, .any), (6, .ptr (some (3, 0))), (7, .ptr (some (4, 0))), (8, .ptr (some (6, 0))), (9, .any), (10, .any), (11, .any), (12, .any), (13, .any), (14, .any), (15, .any), (16, .any), (17, .any), (18, .any), (19, .any), (20, .any), (21, .any), (22, .any), (23, .any), (24, .any), (25, .any), (26, .any), (27, .any), (28, .any), (29, .any), (30, .any), (31, .any), (32, .clos 55 [.ptr (some (7, 0)), .ptr (some (8, 0))]), (33, .any), (34, .any), (35, .any), (36, .any), (37, .any)] 38 []) [33] as24 bo24 9)] 18
noncomputable def vcPn_s3 (V : AV) (M : AO) (R : AO) (Y : AO) (m : Nat) (c : Cap) (p : Int) : ASt := mkSt [(0, .cells [.map (some 1), V] true), (1, M), (2, R), (3, .cells [.int .u64 (.ofNat 0)] true), (4, .cells [.bool false] true), (5, Y), (6, .cells [.slice (some (5, 0)) m c] true), (7, .cells [.ptr (some (0, 0))] true), (8, .cells [.int .u64 p] true), (9, .defd), (10, .loop LoopState.busy none (mkFr [(0, .any), (1, .any), (2, .any), (3, .any), (4, .any), (5, .any), (6, .ptr (some (3, 0))), (7, .ptr (some (4, 0))), (8, .ptr (some (6, 0))), (9, .any), (10, .any), (11, .any), (12, .any), (13, .any), (14, .any), (15, .any), (16, .any), (17, .any), (18, .any), (19, .any), (20, .any), (21, .any), (22, .any), (23, .any), (24, .any), (25, .any), (26, .any), (27, .any), (28, .any), (29, .any), (30, .any), (31, .any), (32, .clos 55 [.ptr (some (7, 0)), .ptr (some (8, 0))]), (33, .any), (34, .any), (35, .any), (36, .any), (37, .any)] 38 []) [33] as24 bo24 9)] 18
theorem vcPn (q : CallT) (V : AV) (M : AO) (R : AO) (Y : AO) (m : Nat) (c : Cap) (g : Int) (p : Int) (Q : Exit × AFr × ASt → Prop) :
  (still (vcPn_s0 V M R Y m c g) (aLookup EU 89 (.map (some 1)) (.int .u64 g) true (vcPn_s0 V M R Y m c g)) = some (.tuple [.int .u64 p, .bool true], vcPn_s0 V M R Y m c g) ∧ still (vcPn_s1 V M R Y m c g) (aLookup EU 89 (.map (some 1)) (.int .u64 g) false (vcPn_s1 V M R Y m c g)) = some (.int .u64 p, vcPn_s1 V M R Y m c g) ∧ holdsO [] ∧ still (vcPn_s2 V M R Y m c p) (aBin EU .eql 48 (.tmp 13) (.const (.int .u64 0)) (.int .u64 p) (.int .u64 (.ofNat 0))) = some (.bool false, vcPn_s2 V M R Y m c p) ∧ (Ax.M EU (drawA EU) (onlyC [44] q) 51).call 44 [.slice (some (5, 0)) m c, .int .u64 p] (vcPn_s3 V M R Y m c p) = some (.bool false, vcPn_s3 V M R Y m c p) ∧ Q (.normal, xFr [(0, .yield 10), (1, .ptr (some (7, 0))), (2, .ptr (some (8, 0)))] 21, vcPn_s2 V M R Y m c p)) =
  (tPn q V M R Y m c g p).allY (fun r => Q (canR [0, 1, 2] KO130 r)) (.v (.tuple [.int .u64 p, .bool true], vcPn_s0 V M R Y m c g) (.v (.int .u64 p, vcPn_s1 V M R Y m c g) (.v (.bool false, vcPn_s2 V M R Y m c p) (.v (.bool false, vcPn_s3 V M R Y m c p) .nil)))) := by kernel_rfl
noncomputable def vcPz_s0 (V : AV) (M : AO) (R : AO) : ASt := mkSt [(0, .cells [.map (some 1), V] true), (1, M), (2, R), (3, .cells [.int .u64 (.ofNat 0)] true), (4, .cells [.bool false] true), (9, .defd)] 11
theorem vcPz (V : AV) (M : AO) (R : AO) (z : Int) (b : Bool) (Q : Exit × AFr × ASt → Prop) :
  (Q (.ret, { m := (xFr [(6, .ptr (some (3, 0))), (7, .ptr (some (4, 0)))] 38).m, n := 38, defs := [9] }, vcPz_s0 V M R)) =
  (tPz V M R z b).allY (fun r => Q (canR [6, 7] KO130 r)) (.nil) := by kernel_rfl
end Go.Proofs.Ytidmijpfoodkoaa.gho
end

section
open Go Go.Ax Go.Proofs
namespace Go.Proofs.Ytidmijpfoodkoaa.gho
set_option linter.unusedVariables false
section
variable {x y : List Int} {i n k : Nat} {a g : Int} {S : ASt} {p : Int → Bool} {E : Env} {c : Cap} {V V' : AV}
theorem AtMem.of_run {P : Program} (hE : E.Ok P) {sum : CallT} (hs : CallsOK P sum) {f : Nat} {args : List AV} {st : ASt} {v : AV} (h : Option.map Prod.fst ((M E (drawA E) sum n).call f args st) = some v) : AtMem P f args st v := by
  cases h1 : (M E (drawA E) sum n).call f args st with
  | none => rw [h1] at h; cases h
  | some r =>
    rw [h1] at h
    simp only [Option.map_some, Option.some.injEq] at h
    intro B w0 ι w args' _ hsr hv
    obtain ⟨k1, k2⟩ := (M_ok hE (drawA_ok hE) hs n).call B w0 f args st r h1 ι w args' hsr hv
    exact ⟨k1, k2.mono fun e w' hp => ⟨r, h, hp⟩⟩
theorem m1_slv (hx : x ≠ []) : SlV (m1 x) (sU 0 x.length) x := .row (by kernel_rfl : _ = some (AO.cells (x.map gU) false)) (by rw [← List.length_map (f := gU)]; exact takeL_all)
theorem contains_any (hV : SlV S V x) (hl : x.length < 4611686018427387904) : Call1 Try.prog 44 [V, gU g] S (.bool (x.any (eqF g)), S) := by
  refine read1 hV (by simp [refsV, gU]) (by simp [refsV]) (fun hx => ?_) (fun e => ?_) (fun e => ?_)
  · rw [← idx_any]
    exact AtMem.of_tm EIok (sum := onlyC [54] (tabC [_])) (onlyC_ok (tabC_ok fun e he => by
      simp only [List.mem_cons, List.not_mem_nil, or_false] at he
      subst he; exact index_any (g := g) (m1_slv hx) hl)) (Eq.mp (vcDr (tabC [_]) x.length g (idxP (eqF g) x) (rowU x) (fun q => q.1 = .bool (!ltF (idxP (eqF g) x) (.ofNat 0)))) ⟨call_at (onlyC_at rfl (tabC_hd ..)), rfl⟩)
  · subst e; exact AtMem.of_run EIok noSum_ok (n := 60) (by kernel_rfl)
  · subst e; exact AtMem.of_run EIok noSum_ok (n := 60) (by kernel_rfl)
theorem place_any (hV : SlV S V x) (hl : x.length < 4611686018427387904) : Call1 Try.prog 28 [V, gU g] S (.int .i64 (idxP (fun r => eqF r g) x), S) :=
  read1 hV (by simp [refsV, gU]) (by simp [refsV]) (fun _ => at28 hl) (fun e => by subst e; exact AtMem.of_run EIok noSum_ok (n := 60) (by kernel_rfl)) (fun e => by subst e; exact AtMem.of_run EIok noSum_ok (n := 60) (by kernel_rfl))
theorem SlV.empty (h : SlV S V []) : ∃ A, (A = nilA ∨ A = .slice0) ∧ ∀ (ι κ : Ren) y, VR ι V y → VR κ A y := by
  cases h with
  | nil => exact ⟨_, .inl rfl, fun ι κ y h => h.noRef (by simp [refsV, nilA])⟩
  | zero => exact ⟨_, .inr rfl, fun ι κ y h => h.noRef (by simp [refsV])⟩
  | row h ht => exact ⟨_, .inr rfl, fun ι κ y h => VR.to0 h⟩
theorem same_any (hV : SlV S V x) (hV' : SlV S V' x) (hl : x.length < 4611686018427387904) : Call1 Try.prog 27 [V, V'] S (.bool true, S) := by
  by_cases hx : x = []
  · subst hx
    obtain ⟨A, hA, hA2⟩ := hV.empty
    obtain ⟨B, hB, hB2⟩ := hV'.empty
    have hrun : AtMem Try.prog 27 [A, B] (mkSt [] 0) (.bool true) := by
      rcases hA with rfl | rfl <;> rcases hB with rfl | rfl <;> exact AtMem.of_run EIok noSum_ok (n := 60) (by kernel_rfl)
    exact Call1.read hrun (by simp [refsV]) (l := []) rfl (fun j x hj => by
      have : (mkSt [] 0).h.get j = Option.none := T.get_e j
      rw [this] at hj; cases hj) (fun j q hq => by simp at hq) fun ι args' hv => ⟨hv.size, fun k y y' hy hy' => by
      match k, hy with
      | 0, hy => simp at hy; subst hy; exact hA2 ι _ _ (hv.at_ 0 _ y' rfl hy')
      | 1, hy => simp at hy; subst hy; exact hB2 ι _ _ (hv.at_ 1 _ y' rfl hy')
      | k + 2, hy => simp at hy⟩
  · cases hV with
    | nil => exact absurd rfl hx
    | zero => exact absurd rfl hx
    | @row k o cp cs rw x h ht =>
      cases hV' with
      | nil => exact absurd rfl hx
      | zero => exact absurd rfl hx
      | @row k' o' cp' cs' rw' x h' ht' =>
        refine Call1.read (at27 hl) (by simp [refsV]) (l := [(k, o, x.map gU), (k', o', x.map gU)]) rfl (fun j y hj => ?_) (fun j q hq => ?_) fun ι args' hv => ⟨hv.size, fun i y y' hy hy' => ?_⟩
        · rcases get2 hj with ⟨rfl, rfl⟩ | ⟨rfl, rfl⟩ <;> exact ⟨_, rfl, rfl⟩
        · match j, hq with
          | 0, hq => simp at hq; subst hq; exact ⟨by simpa using hx, gU_refs, cs, rw, h, by rw [List.length_map]; exact ht⟩
          | 1, hq => simp at hq; subst hq; exact ⟨by simpa using hx, gU_refs, cs', rw', h', by rw [List.length_map]; exact ht'⟩
          | j + 2, hq => simp at hq
        · match i, hy with
          | 0, hy => simp at hy; subst hy; exact VR.rowR (l := [(k, o, x.map gU), (k', o', x.map gU)]) rfl rfl rfl (hv.at_ 0 _ y' rfl hy')
          | 1, hy => simp at hy; subst hy; exact VR.rowR (l := [(k, o, x.map gU), (k', o', x.map gU)]) (j := 1) rfl rfl rfl (hv.at_ 1 _ y' rfl hy')
          | i + 2, hy => simp at hy
end
end Go.Proofs.Ytidmijpfoodkoaa.gho
end
