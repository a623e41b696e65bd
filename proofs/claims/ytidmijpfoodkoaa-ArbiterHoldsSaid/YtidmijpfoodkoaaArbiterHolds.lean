/-
  PROVED HERE: 'Rows.ArbiterHoldsSaid': for every two rows and every number the call of the law's function returns true, and the rows read as they did. No condition.
  THE WALK is a run of the function's text in an abstract machine (the texts YtidmijpfoodkoaaAxA to YtidmijpfoodkoaaAxFm show that it is sound), with the rows, the history and the arbiter's state open: each piece between two loops, each round of a loop by one reckoning of the kernel ('vc..'), joined by invariants; Len by a contract of its own, used where it is called.
-/
import Derived.Test.YtidmijpfoodkoaaRows
import Derived.Test.YtidmijpfoodkoaaAxFm
import Derived.KernelRfl
import Derived.WalkKit
import Derived.ProofKit
import Derived.OpenShut
import Derived.ShutString
import Derived.ChangeOld
import Derived.Below
import Derived.Deep.SlicePairs
import Derived.Deep.Grids
import Derived.WideKeyArgs
open Go Go.Ax Go.Proofs.Ytidmijpfoodkoaa
namespace Go.Proofs.Ytidmijpfoodkoaa.arh
set_option linter.unusedVariables false
noncomputable def fns : List (Nat × Func) := [(4, Try.f4), (9, Try.f9), (10, Try.f10), (11, Try.f11), (12, Try.f12), (13, Try.f13), (14, Try.f14), (15, Try.f15), (16, Try.f16), (39, Try.f39), (40, Try.f40), (41, Try.f41), (42, Try.f42), (53, Try.f53)]
noncomputable def E : Env := envEx Try.prog (List.range 119) fns []
abbrev H := List (Int × Bool)
def enc (g : Int × Bool) : List AV := [.int .i64 g.1, .bool g.2]
def fl0 : Fl := ⟨[], [], [], []⟩
def asOf : Code → Code
  | .rangeFunc _ _ a _ => a
  | _ => .skip
def boOf : Code → Code
  | .rangeFunc _ _ _ b => b
  | _ => .skip

/-! ### Len -/
noncomputable def c16 : Code := Option.getD Try.f16.body .skip
noncomputable def l0 : Code := seqL c16
noncomputable def lr1 : Code := seqR c16
noncomputable def l1 : Code := seqL lr1
noncomputable def lr2 : Code := seqR lr1
noncomputable def l2 : Code := seqL lr2
noncomputable def lr3 : Code := seqR lr2
noncomputable def lrng : Code := blkB (seqR l2)
noncomputable def asL : Code := asOf lrng
noncomputable def boL : Code := boOf lrng
noncomputable def c53 : Code := Option.getD Try.f53.body .skip
noncomputable def q0 : Code := seqL c53
noncomputable def Bd : Code := lopB (blkB (seqR c53))
noncomputable def obM (h : H) (by_ : Int) (tk : Bool) : List (Nat × AO) := [(0, .cells [.int .i64 by_, .bool tk, .slice (some (1, 0)) h.length (.rest 2), .bool true] false), (1, .cells (h.flatMap enc) false)]
noncomputable def stM (h : H) (by_ : Int) (tk : Bool) : ASt := mkSt (obM h by_ tk) 2
noncomputable def frM : AFr := { m := putArgs [.ptr (some (0, 0))] 0 .e, n := 11, defs := [] }
noncomputable def frN : AFr := xFr [(3, .ptr (some (2, 0))), (5, .clos 53 [.ptr (some (3, 0))])] 11
noncomputable def stN (h : H) (by_ : Int) (tk : Bool) : ASt := mkSt (obM h by_ tk ++ [(2, .cells [.int .i64 (.ofNat 0)] true), (3, .cells [.slice (some (1, 0)) h.length (.rest 2)] true)]) 4
noncomputable def lrec : AO := .loop .ready none frN [6, 7] asL boL 4
noncomputable def frL (n k : Nat) : AFr := xFr [(0, .yield 5), (5, .slice (some (1, 0)) n (.rest 2)), (6, .int .i64 (.ofNat n)), (7, .int .i64 (.ofNat k))] 18
noncomputable def stL (h : H) (by_ : Int) (tk : Bool) (k : Nat) : ASt := mkSt (obM h by_ tk ++ [(2, .cells [.int .i64 (.ofNat k)] true), (3, .cells [.slice (some (1, 0)) h.length (.rest 2)] true), (4, .defd), (5, lrec)]) 6
def fl53 : Fl := ⟨[10, 11], [15], [8], []⟩
noncomputable def lenA (h : H) (by_ : Int) (tk : Bool) : Tr (Exit × AFr × ASt) := (TM E noSum [] fl0 30).ex fl0 none (seqL (seqR (seqR c16))) frM (stM h by_ tk)

noncomputable def lA (h : H) (by_ : Int) (tk : Bool) : Tr (Exit × AFr × ASt) := (TM E noSum [] fl0 30).ex fl0 none (preC 1 c16) frM (stM h by_ tk)
noncomputable def frM2 : AFr := xFr [(0, .ptr (some (0, 0))), (3, .ptr (some (2, 0)))] 11
noncomputable def lB (h : H) (by_ : Int) (tk : Bool) : Tr (Exit × AFr × ASt) := (TM E noSum [] fl0 30).ex fl0 none (seqL l2) frM2 (mkSt (obM h by_ tk ++ [(2, .cells [.int .i64 (.ofNat 0)] true)]) 3)
noncomputable def lC (h : H) (by_ : Int) (tk : Bool) : Tr (Exit × AFr × ASt) := (TM E noSum [] fl0 30).ex fl0 none q0 { m := putArgs [.yield 5, .ptr (some (3, 0))] 0 .e, n := 18, defs := [] } (((stN h by_ tk).add .defd).add lrec)
noncomputable def lD (h : H) (n k : Nat) (by_ : Int) (tk : Bool) (x : Int) (tx : Bool) : Tr (Exit × AFr × ASt) := (TM E noSum [] fl0 30).ex fl53 none Bd (frL n k) (stL h by_ tk k)
noncomputable def frN2 : AFr := { m := frN.m, n := 11, defs := [4] }
noncomputable def stO (k : Nat) : ASt := mkSt [(2, .cells [.int .i64 (.ofNat k)] true), (4, .defd)] 6
noncomputable def lE (k : Nat) : Tr (Exit × AFr × ASt) := (TM E noSum [] fl0 30).ex fl0 none lr3 frN2 (stO k)
noncomputable def vcLA_s0 (h : H) (by_ : Int) (tk : Bool) : ASt := mkSt [(0, AO.cells [AV.int IntKind.i64 by_, AV.bool tk, AV.slice (some (1, 0)) (List.length h) (Cap.rest 2), AV.bool true] false), (1, AO.cells (List.flatMap enc h) false), (2, AO.cells [AV.int IntKind.i64 (Int.ofNat 0)] true)] 3
theorem vcLA (h : H) (by_ : Int) (tk : Bool) (Q : Exit × AFr × ASt → Prop) :
  (Q (Exit.normal, xFr [(0, AV.ptr (some (0, 0))), (3, AV.ptr (some (2, 0)))] 11, vcLA_s0 h by_ tk)) =
  (lA h by_ tk).allY (fun r => Q (canR [0, 3] [0, 1, 2] r)) (An.nil) := by kernel_rfl
noncomputable def vcLB_s0 (h : H) (by_ : Int) (tk : Bool) : ASt := mkSt [(0, AO.cells [AV.int IntKind.i64 by_, AV.bool tk, AV.slice (some (1, 0)) (List.length h) (Cap.rest 2), AV.bool true] false), (1, AO.cells (List.flatMap enc h) false), (2, AO.cells [AV.int IntKind.i64 (Int.ofNat 0)] true), (3, AO.cells [AV.slice (some (1, 0)) (List.length h) (Cap.rest 2)] true)] 4
theorem vcLB (h : H) (by_ : Int) (tk : Bool) (Q : Exit × AFr × ASt → Prop) :
  (Q (Exit.normal, xFr [(3, AV.ptr (some (2, 0))), (5, AV.clos 53 [AV.ptr (some (3, 0))])] 11, vcLB_s0 h by_ tk)) =
  (lB h by_ tk).allY (fun r => Q (canR [3, 5] [0, 1, 2, 3] r)) (An.nil) := by kernel_rfl
noncomputable def vcLC_s0 (h : H) (by_ : Int) (tk : Bool) : ASt := mkSt [(0, AO.cells [AV.int IntKind.i64 by_, AV.bool tk, AV.slice (some (1, 0)) (List.length h) (Cap.rest 2), AV.bool true] false), (1, AO.cells (List.flatMap enc h) false), (2, AO.cells [AV.int IntKind.i64 (Int.ofNat 0)] true), (3, AO.cells [AV.slice (some (1, 0)) (List.length h) (Cap.rest 2)] true), (4, AO.defd), (5, AO.loop LoopState.ready none frN [6, 7] asL boL 4)] 6
theorem vcLC (h : H) (by_ : Int) (tk : Bool) (Q : Exit × AFr × ASt → Prop) :
  (Q (Exit.normal, xFr [(0, AV.yield 5), (5, AV.slice (some (1, 0)) (List.length h) (Cap.rest 2)), (6, AV.int IntKind.i64 (Int.ofNat (List.length h))), (7, AV.int IntKind.i64 (Int.ofNat 0))] 18, vcLC_s0 h by_ tk)) =
  (lC h by_ tk).allY (fun r => Q (canR [0, 5, 6, 7] [0, 1, 2, 3, 4, 5] r)) (An.nil) := by kernel_rfl
noncomputable def vcLD_s0 (h : H) (n : Nat) (k : Nat) (by_ : Int) (tk : Bool) (x : Int) (tx : Bool) : ASt := mkSt [(0, AO.cells [AV.int IntKind.i64 by_, AV.bool tk, AV.slice (some (1, 0)) (List.length h) (Cap.rest 2), AV.bool true] false), (1, AO.cells (List.flatMap enc h) false), (2, AO.cells [AV.int IntKind.i64 (Int.ofNat k)] true), (3, AO.cells [AV.slice (some (1, 0)) (List.length h) (Cap.rest 2)] true), (4, AO.defd), (5, AO.loop LoopState.ready none frN [6, 7] asL boL 4)] 6
noncomputable def vcLD_s1 (h : H) (n : Nat) (k : Nat) (by_ : Int) (tk : Bool) (x : Int) (tx : Bool) : ASt := mkSt [(0, AO.cells [AV.int IntKind.i64 by_, AV.bool tk, AV.slice (some (1, 0)) (List.length h) (Cap.rest 2), AV.bool true] false), (1, AO.cells (List.flatMap enc h) false), (2, AO.cells [AV.int IntKind.i64 (wrapF IntKind.i64 (Int.ofNat k + Int.ofNat 1))] true), (3, AO.cells [AV.slice (some (1, 0)) (List.length h) (Cap.rest 2)] true), (4, AO.defd), (5, AO.loop LoopState.ready none frN [6, 7] asL boL 4)] 7
theorem vcLD (h : H) (n : Nat) (k : Nat) (by_ : Int) (tk : Bool) (x : Int) (tx : Bool) (Q : Exit × AFr × ASt → Prop) :
  (ifB (ltF (Int.ofNat k) (Int.ofNat n)) (still (vcLD_s0 h n k by_ tk x tx) (aIndexAddr E 43 (AV.slice (some (1, 0)) n (Cap.rest 2)) (AV.int IntKind.i64 (Int.ofNat k))) = some (AV.ptr (some (1, 0 + k * 2)), vcLD_s0 h n k by_ tk x tx) ∧ aLoad E 35 (AV.ptr (some (1, 0 + k * 2))) (vcLD_s0 h n k by_ tk x tx) = some (AV.agg [AV.int IntKind.i64 x, AV.bool tx], vcLD_s0 h n k by_ tk x tx) ∧ Q (Exit.normal, xFr [(0, AV.yield 5), (5, AV.slice (some (1, 0)) n (Cap.rest 2)), (6, AV.int IntKind.i64 (Int.ofNat n)), (7, AV.int IntKind.i64 (wrapF IntKind.i64 (Int.ofNat k + Int.ofNat 1)))] 18, vcLD_s1 h n k by_ tk x tx)) (Q (Exit.exit 0, xFr [(0, AV.yield 5), (5, AV.slice (some (1, 0)) n (Cap.rest 2)), (6, AV.int IntKind.i64 (Int.ofNat n)), (7, AV.int IntKind.i64 (Int.ofNat k))] 18, vcLD_s0 h n k by_ tk x tx))) =
  (lD h n k by_ tk x tx).allY (fun r => Q (canR [0, 5, 6, 7] [0, 1, 2, 3, 4, 5] r)) (An.b (An.v (AV.ptr (some (1, 0 + k * 2)), vcLD_s0 h n k by_ tk x tx) (An.v (AV.agg [AV.int IntKind.i64 x, AV.bool tx], vcLD_s0 h n k by_ tk x tx) An.nil)) An.nil) := by kernel_rfl
theorem vcLE (k : Nat) (Q : Exit × Option AV → Prop) :
  (Q (Exit.ret, some (AV.int IntKind.i64 (Int.ofNat k)))) =
  (lE k).allY (fun r => Q (r.1, ans (leaveA E Try.f16 r.2.1 r.2.2))) (An.nil) := by kernel_rfl

theorem sl43 : sliceT E 43 = some 2 := by kernel_rfl
theorem ag35 : aggT E 35 = some 2 := by kernel_rfl
theorem encLen (x : Int × Bool) : (enc x).length = 2 := rfl
theorem encRef (l : H) : ∀ c, c ∈ l.flatMap enc → refsV 0 c := fun c hc => by
  obtain ⟨x, _, hx⟩ := List.mem_flatMap.1 hc
  simp only [enc, List.mem_cons, List.not_mem_nil, or_false] at hx
  rcases hx with rfl | rfl <;> simp [refsV]

theorem frN_refs : ∀ t, refsV 6 ((frN.m.get t).getD undefA) := by
  intro t
  unfold frN
  rw [xFr_get]
  by_cases ht : t < 11
  · simp only [ht, if_true]
    rcases lkp_mem (l := [(3, .ptr (some (2, 0))), (5, .clos 53 [.ptr (some (3, 0))])]) (t := t) with e | ⟨p, p1, _, p3⟩
    · rw [e]; simp [refsV]
    · rw [← p3]
      simp only [List.mem_cons, List.not_mem_nil, or_false] at p1
      rcases p1 with rfl | rfl <;> simp [refsV]
  · simp only [ht, if_false]; simp [undefA, refsV]

theorem toLL {h : H} {by_ : Int} {tk : Bool} {k nx : Nat} {S : ASt} (hS : S = mkSt (obM h by_ tk ++ [(2, .cells [.int .i64 (.ofNat k)] true), (3, .cells [.slice (some (1, 0)) h.length (.rest 2)] true), (4, .defd), (5, lrec)]) nx) :
    Wk 6 (frL h.length k) S (frL h.length k) (stL h by_ tk k) := by
  subst hS
  have hp : preB 6 0 [0, 1, 2, 3, 4, 5] = true := rfl
  refine Wk.heldX [0, 1, 2, 3, 4, 5] hp rfl [0, 5, 6, 7] (by kernel_rfl) ?_
  exact .cons 0 (.cells [.int .i64 by_, .bool tk, .slice (some (1, 0)) h.length (.rest 2), .bool true] false) rfl (by kernel_rfl) (RenO.of rfl) <| .cons 1 (.cells (h.flatMap enc) false) rfl (by kernel_rfl) (RenO.row (encRef h)) <|
    .cons 2 (.cells [.int .i64 (.ofNat k)] true) rfl (by kernel_rfl) (RenO.of rfl) <| .cons 3 (.cells [.slice (some (1, 0)) h.length (.rest 2)] true) rfl (by kernel_rfl) (RenO.of rfl) <|
    .cons 4 .defd rfl (by kernel_rfl) (RenO.keep hp trivial) <| .cons 5 lrec rfl (by kernel_rfl) (RenO.keep hp ⟨frN_refs, by decide⟩) .nil

def LQ (h : H) (by_ : Int) (tk : Bool) (k : Nat) (r : Exit × AFr × ASt) : Prop :=
  (k < h.length ∧ Stops 6 .normal (frL h.length (k + 1)) (stL h by_ tk (k + 1)) r) ∨ (k = h.length ∧ canR [0, 5, 6, 7] [0, 1, 2, 3, 4, 5] r = (.exit 0, frL h.length k, stL h by_ tk k))

theorem roundLen (hE : Env.Ok Try.prog E) {h : H} {by_ : Int} {tk : Bool} {k : Nat} (hh : h.length ≤ 1000) (hk : k ≤ h.length) : Trip Try.prog 6 none Bd (frL h.length k) (stL h by_ tk k) (LQ h by_ tk k) := by
  have go : ∀ x tx, (k < h.length → h[k]? = some (x, tx)) → Trip Try.prog 6 none Bd (frL h.length k) (stL h by_ tk k) (LQ h by_ tk k) := fun x tx hx => by
    let Q : Exit × AFr × ASt → Prop := fun r' => (k < h.length ∧ Stops 6 .normal (frL h.length (k + 1)) (stL h by_ tk (k + 1)) r') ∨ (k = h.length ∧ r' = (.exit 0, frL h.length k, stL h by_ tk k))
    refine (Trip.runY hE noSum_ok (Eq.mp (vcLD h h.length k by_ tk x tx Q) ?_)).mono fun r hq => ?_
    · have hw := wrap_succ (i := k) (by omega)
      refine ifB_mk (fun hlt => ?_) (fun hge => ?_)
      · rw [ltF_nn] at hlt
        have hlt : k < h.length := by simpa using hlt
        have hxk := hx hlt
        refine ⟨still_idx sl43 hlt, load_agg (rw := false) ag35 (by kernel_rfl) (by rw [Nat.zero_add]; exact fm_one encLen hxk), .inl ⟨hlt, rfl, ?_⟩⟩
        unfold vcLD_s1
        simp only [hw]
        exact toLL rfl
      · rw [ltF_nn] at hge
        exact .inr ⟨by simp at hge; omega, rfl⟩
    · rcases hq with ⟨q1, q3⟩ | ⟨q1, q2⟩
      · exact .inl ⟨q1, q3.can⟩
      · exact .inr ⟨q1, q2⟩
  by_cases hlt : k < h.length
  · exact go h[k].1 h[k].2 (fun _ => by simp [hlt])
  · exact go 0 true (fun h => absurd h hlt)

theorem loopLen (hE : Env.Ok Try.prog E) {h : H} {by_ : Int} {tk : Bool} (hh : h.length ≤ 1000) :
    Trip Try.prog 6 none (.block 0 (.loop Bd)) (frL h.length 0) (stL h by_ tk 0) fun r => r.1 = .normal ∧ canF [0, 5, 6, 7] r.2.1 = frL h.length h.length ∧ canS [0, 1, 2, 3, 4, 5] r.2.2 = stL h by_ tk h.length := by
  refine Trip.block (Trip.loop (fun m fr st => ∃ k, k ≤ h.length ∧ m = h.length - k ∧ fr = frL h.length k ∧ st = stL h by_ tk k) ?_ h.length ⟨0, by omega, by omega, rfl, rfl⟩)
  rintro m fr st ⟨k, hk, rfl, rfl, rfl⟩
  refine (roundLen hE hh hk).mono ?_
  rintro ⟨e, fr', st'⟩ (⟨q1, q3, q4⟩ | ⟨q1, q2⟩)
  · simp only at q3 q4
    subst q3
    exact ⟨h.length - (k + 1), _, _, by omega, q4, k + 1, by omega, rfl, rfl, rfl⟩
  · simp only [canR, Prod.mk.injEq] at q2
    obtain ⟨rfl, q3, q4⟩ := q2
    subst q1
    exact ⟨fun _ => ⟨rfl, q3, q4⟩, fun h => absurd rfl h⟩

theorem put_get_ne {st : ASt} {i j : Nat} {a : AO} (h : j ≠ i) : (st.put i a).h.get j = st.h.get j := by
  show (st.h.set D i a).get j = _
  rw [T.get_set]; simp [h]

/-- Len of what has happened -/
theorem len_at (hE : Env.Ok Try.prog E) {h : H} {by_ : Int} {tk : Bool} (hh : h.length ≤ 1000) : AtMem Try.prog 16 [.ptr (some (0, 0))] (stM h by_ tk) (.int .i64 (.ofNat h.length)) := by
  have hfr : ({ m := putArgs [.ptr (some (0, 0))] 0 .e, n := Try.f16.ntmps, defs := [] } : AFr) = frM := by kernel_rfl
  refine AtMem.of_trip hE (fn := Try.f16) (by kernel_rfl) (c := c16) (by kernel_rfl) (by kernel_rfl) ?_
  rw [hfr]
  have d1 : dropC 1 c16 = .seq l2 lr3 := by kernel_rfl
  have d2 : l2 = .seq (seqL l2) (.block 0 lrng) := by kernel_rfl
  have d3 : lrng = .rangeFunc (.tmp 5) #[6, 7] asL boL := by kernel_rfl
  refine Trip.preY hE noSum_ok (k := 1) (by kernel_rfl) (Q1 := fun r => r = (.normal, frM2, mkSt (obM h by_ tk ++ [(2, .cells [.int .i64 (.ofNat 0)] true)]) 3)) (Eq.mp (vcLA h by_ tk fun r => r = (.normal, frM2, mkSt (obM h by_ tk ++ [(2, .cells [.int .i64 (.ofNat 0)] true)]) 3)) rfl) (fun F S hq => ?_) (fun r hne hq => absurd (congrArg (·.1) hq) hne)
  cases hq
  rw [d1]
  refine Trip.seq (R := Stops 2 .normal frN2 (stO h.length)) ?_ (fun fr' st' hq => ?_) (fun e fr' st' hne hq => absurd hq.1 hne)
  · rw [d2]
    have hv2 := Eq.mp (vcLB h by_ tk fun r => r = (.normal, frN, stN h by_ tk)) rfl
    refine Trip.seq (R := fun r => (canR [3, 5] [0, 1, 2, 3] r) = (.normal, frN, stN h by_ tk)) (Trip.runY hE noSum_ok hv2) (fun fr' st' hq => ?_) (fun e fr' st' hne hq => absurd (congrArg (·.1) hq) hne)
    simp only [canR, Prod.mk.injEq, true_and] at hq
    obtain ⟨q1, q2⟩ := hq
    refine Trip.less (Wk.can 2 [3, 5] [0, 1, 2, 3] fr' st') ?_
    rw [q1, q2, d3]
    refine Trip.block (Trip.range hE (f := 53) (caps := [.ptr (some (3, 0))]) (by kernel_rfl) (fn := Try.f53) (by kernel_rfl) (cb := c53) (by kernel_rfl) (l := 5) (by kernel_rfl) (by kernel_rfl) (R := fun v => canS [0, 1, 2, 3, 4, 5] v.2 = stL h by_ tk h.length) ?_ ?_)
    · have e1 : Try.f53.ntmps = 18 := by kernel_rfl
      have e2 : AO.loop .ready none frN (#[6, 7] : Array Tmp).toList asL boL (stN h by_ tk).next = lrec := by kernel_rfl
      have e3 : preC 0 c53 = q0 := by kernel_rfl
      have e4 : dropC 0 c53 = .block 0 (.loop Bd) := by kernel_rfl
      have hvc : (lC h by_ tk).allY (fun r => (canR [0, 5, 6, 7] [0, 1, 2, 3, 4, 5] r) = (.normal, frL h.length 0, stL h by_ tk 0)) An.nil := Eq.mp (vcLC h by_ tk fun r => r = (.normal, frL h.length 0, stL h by_ tk 0)) rfl
      unfold lC at hvc
      rw [← e3] at hvc
      rw [e1, e2]
      refine Trip.preY hE noSum_ok (k := 0) (by kernel_rfl) (Q1 := fun r => r = (.normal, frL h.length 0, stL h by_ tk 0)) hvc (fun F S hq => ?_) (fun r hne hq => absurd (congrArg (·.1) hq) hne)
      cases hq
      rw [e4]
      refine (loopLen hE hh).mono ?_
      rintro ⟨e, fr', st'⟩ ⟨h1, h2, h3⟩
      simp only at h1 h2 h3
      subst h1
      have hd : fr'.defs = [] := by
        have : (canF [0, 5, 6, 7] fr').defs = (frL h.length h.length).defs := by rw [h2]
        exact this
      exact ⟨.inl rfl, (retV [], st'), by unfold leaveA; rw [hd]; rfl, h3⟩
    · intro v hv
      have get : ∀ k x, (stL h by_ tk h.length).h.get k = some x → v.2.h.get k = some x := canS_get hv
      refine ⟨.ready, none, frN, [6, 7], asL, boL, 4, get 5 lrec (by kernel_rfl), (fun e => by cases e), rfl, ?_⟩
      have hnx : v.2.next ≤ 6 := by
        have : (canS [0, 1, 2, 3, 4, 5] v.2).next = 6 := by rw [hv]; rfl
        exact Nat.le_of_eq this
      refine Wk.pick (ls := [(2, .cells [.int .i64 (.ofNat h.length)] true), (4, .defd)]) (nx := 6) ?_ hnx
      intro p hp
      simp only [List.mem_cons, List.not_mem_nil, or_false] at hp
      rcases hp with rfl | rfl
      all_goals
        rw [put_get_ne (by simp)]
        exact get _ _ (by kernel_rfl)
  · refine Trip.less hq.2 ?_
    exact Trip.runY hE noSum_ok (Eq.mp (vcLE h.length fun q => (q.1 = .normal ∨ q.1 = .ret) ∧ q.2 = some (.int .i64 (.ofNat h.length))) ⟨.inr rfl, rfl⟩)

/-! ### Len, as a summary -/
def LenAt (st : ASt) (i : Nat) (h : H) : Prop := ∃ by_ tk rw k rw2, st.h.get i = some (.cells [.int .i64 by_, .bool tk, .slice (some (k, 0)) h.length (.rest 2), .bool true] rw) ∧ st.h.get k = some (.cells (h.flatMap enc) rw2) ∧ i ≠ k ∧ h.length ≤ 1000
open Classical in
noncomputable def sumLen : CallT := fun f args st => bif Nat.beq 16 f then (match args with
  | [.ptr (some (i, 0))] => (match st.h.get i with
    | some (.cells [_, _, .slice _ n _, _] _) => if ∃ h, LenAt st i h then some (.int .i64 (.ofNat n), st) else none
    | _ => none)
  | _ => none) else none

theorem renVs_flat (ids : List Nat) : ∀ (h : H), renVs ids (h.flatMap enc) = some (h.flatMap enc)
  | [] => rfl
  | x :: xs => by
    show renVs ids (.int .i64 x.1 :: .bool x.2 :: xs.flatMap enc) = _
    simp only [renVs, renV, renVs_flat ids xs]
    rfl

theorem sumLen_ok (hE : Env.Ok Try.prog E) : CallsOK Try.prog sumLen := by
  intro B w0 f args st r h ι w args' hsr hv
  unfold sumLen at h
  cases hf : Nat.beq 16 f
  · simp [hf] at h
  simp only [hf, cond_true] at h
  have := nbeq hf
  subst this
  split at h
  rotate_left
  · cases h
  rename_i i
  split at h
  rotate_left
  · cases h
  rename_i a b loc n c d rw hi
  split at h
  rotate_left
  · cases h
  rename_i hex
  obtain ⟨h0, by_, tk, rw', k, rw2, h1, h2, hne, hle⟩ := hex
  simp only [Option.some.injEq] at h
  subst h
  rw [hi] at h1
  simp only [Option.some.injEq, AO.cells.injEq, List.cons.injEq, AV.slice.injEq, and_true] at h1
  obtain ⟨⟨rfl, rfl, ⟨rfl, rfl, rfl⟩, rfl⟩, rfl⟩ := h1
  have hb : Nat.beq i k = false := beq_f hne
  have hx : idxN [i, k] k 0 = some 1 := by simp [idxN, hb]
  have hx0 : idxN [i, k] i 0 = some 0 := by simp [idxN]
  refine local_ro (len_at hE (h := h0) (by_ := by_) (tk := tk) hle) rfl hsr (ids := [i, k]) ⟨rfl, fun j x hj => ?_⟩ (by simp [renVs, renV, hx0]) (fun j hj => ?_) hv
  · have hg : (stM h0 by_ tk).h.get j = if j = 1 then some (.cells (h0.flatMap enc) false) else if j = 0 then some (.cells [.int .i64 by_, .bool tk, .slice (some (1, 0)) h0.length (.rest 2), .bool true] false) else none := by
      show (((T.e : T AO).set D 0 _).set D 1 _).get j = _
      rw [T.get_set, T.get_set, T.get_e]
    rw [hg] at hj
    by_cases e1 : j = 1
    · subst e1
      simp at hj; subst hj
      exact ⟨k, _, _, _, rfl, rfl, h2, renVs_flat _ _⟩
    · by_cases e0 : j = 0
      · subst e0
        simp at hj; subst hj
        exact ⟨i, _, _, _, rfl, rfl, hi, by simp [renVs, renV, hx]⟩
      · simp [e1, e0] at hj
  · simp only [List.mem_cons, List.not_mem_nil, or_false] at hj
    rcases hj with rfl | rfl
    · exact ⟨_, hi, by simp⟩
    · exact ⟨_, h2, by simp⟩

noncomputable def sm : CallT := orC (sumC [⟨9, [], .bool true⟩]) sumLen

theorem call_len {st : ASt} {i n m : Nat} {h : H} (hl : LenAt st i h) (hn : h.length = n) : (M E (drawA E) sm (m + 1)).call 16 [.ptr (some (i, 0))] st = some (.int .i64 (.ofNat n), st) := by
  subst hn
  have hs : sm 16 [.ptr (some (i, 0))] st = some (.int .i64 (.ofNat h.length), st) := by
    show (match sumC [⟨9, [], .bool true⟩] 16 [.ptr (some (i, 0))] st with | some r => some r | none => sumLen 16 [.ptr (some (i, 0))] st) = _
    have h0 : sumC [⟨9, [], .bool true⟩] 16 [.ptr (some (i, 0))] st = none := rfl
    rw [h0]
    obtain ⟨by_, tk, rw, k, rw2, h1, h2, h3, h4⟩ := hl
    unfold sumLen
    simp only [Nat.beq_refl, cond_true, h1]
    exact if_pos ⟨h, by_, tk, rw, k, rw2, h1, h2, h3, h4⟩
  show (match sm 16 [.ptr (some (i, 0))] st with | some r => some r | none => callF E (M E (drawA E) sm m).ex 16 [.ptr (some (i, 0))] st) = _
  rw [hs]

/-! ### The law's text, in pieces -/
noncomputable def c4 : Code := Option.getD Try.f4.body .skip
noncomputable def rA : Code := dropC 3 c4
noncomputable def k6 : Code := seqL (seqL rA)
noncomputable def B1 : Code := lopB (blkB (seqR (seqL rA)))
noncomputable def rB : Code := seqR rA
noncomputable def rC : Code := dropC 1 rB
noncomputable def k17 : Code := seqL (seqL rC)
noncomputable def B2 : Code := lopB (blkB (seqR (seqL rC)))
noncomputable def rD : Code := seqR rC
noncomputable def frH (vl vm : AV) (nd : Int) (x : List (Nat × AV)) : AFr := xFr ([(0, vl), (1, vm), (2, .int .i64 nd), (7, .ptr (some (2, 0)))] ++ x) 184
noncomputable def arbA (by_ : Int) (tk : Bool) (all : AV) : AO := .cells [.int .i64 by_, .bool tk, all, .bool true] true
noncomputable def stI (o0 o1 : AO) (h : H) (by_ : Int) (tk : Bool) : ASt := mkSt [(0, o0), (1, o1), (2, arbA by_ tk (.slice (some (3, 0)) h.length (.rest 2))), (3, .cells (h.flatMap enc) true)] 4
noncomputable def stI0 (o0 o1 : AO) (by_ : Int) (tk : Bool) : ASt := mkSt [(0, o0), (1, o1), (2, arbA by_ tk (.slice none 0 (.known 0)))] 3
noncomputable def stW (o0 o1 : AO) : ASt := mkSt [(0, o0), (1, o1)] 2
noncomputable def F0 (vl vm : AV) (nd : Int) : AFr := { m := putArgs [vl, vm, .int .i64 nd] 0 .e, n := 184, defs := [] }
def fls : List (Nat × Fl) := [(11, ⟨[39], [9, 35], [16, 22], []⟩), (12, ⟨[43], [9, 39], [16, 25], []⟩), (40, ⟨[7], [], [], []⟩), (39, ⟨[], [7], [11, 14], []⟩), (14, ⟨[], [10], [], []⟩)]
def flA : Fl := ⟨[26, 30], [], [27, 31, 35, 39], []⟩
def flB : Fl := ⟨[47, 53, 55, 59, 61, 66, 68], [62, 69], [48, 55], []⟩
def flC : Fl := ⟨[100], [73, 81], [88, 94], []⟩
def flD : Fl := ⟨[103, 109, 110], [115, 128], [104, 110], []⟩
def flE : Fl := ⟨[176], [139, 145, 152], [179], []⟩
def flsC : List (Nat × Fl) := [(11, ⟨[39], [9, 35], [16, 22], []⟩), (40, ⟨[7], [], [], []⟩), (39, ⟨[], [7], [], []⟩), (14, ⟨[], [10], [], []⟩)]
def flsD : List (Nat × Fl) := [(11, ⟨[39], [9, 35], [], []⟩), (12, ⟨[43], [9, 39], [], []⟩), (40, ⟨[7], [], [], []⟩), (39, ⟨[], [7], [], []⟩), (14, ⟨[], [10], [], []⟩)]
noncomputable def tA (vl vm : AV) (o0 o1 : AO) (n m : Nat) (nd : Int) : Tr (Exit × AFr × ASt) := (TM E sm fls fl0 30).ex flA none (preC 3 c4) (F0 vl vm nd) (stW o0 o1)
noncomputable def tA6 (vl vm : AV) (o0 o1 : AO) (nd : Int) : Tr (Exit × AFr × ASt) := (TM E sm fls fl0 30).ex fl0 none k6 (frH vl vm nd []) (stI0 o0 o1 0 false)
noncomputable def tB (vl vm : AV) (o0 o1 : AO) (h : H) (n i : Nat) (nd by_ : Int) (tk : Bool) (x : Int) (tx : Bool) : Tr (Exit × AFr × ASt) := (TM E sm fls fl0 30).ex flB none B1 (frH vl vm nd [(8, .int .i64 (.ofNat i))]) (stI o0 o1 h by_ tk)
noncomputable def tB0 (vl vm : AV) (o0 o1 : AO) (n i : Nat) (nd by_ : Int) (tk : Bool) (x : Int) (tx : Bool) : Tr (Exit × AFr × ASt) := (TM E sm fls fl0 30).ex flB none B1 (frH vl vm nd [(8, .int .i64 (.ofNat i))]) (stI0 o0 o1 by_ tk)
noncomputable def tC17 (vl vm : AV) (o0 o1 : AO) (h : H) (nd : Int) : Tr (Exit × AFr × ASt) := (TM E sm fls fl0 30).ex fl0 none k17 (frH vl vm nd [(13, .int .i64 (.ofNat h.length))]) (stI o0 o1 h nd true)
noncomputable def tC_0 (vl vm : AV) (o0 o1 : AO) (h : H) (i : Nat) (by_ : Int) (tk : Bool) : Tr (Exit × AFr × ASt) := (TM E sm flsC fl0 30).ex flC none (preC 1 rB) (frH vl vm (.ofNat 0) [(8, .int .i64 (.ofNat i))]) (stI o0 o1 h by_ tk)
noncomputable def tC_1 (vl vm : AV) (o0 o1 : AO) (h : H) (i : Nat) (by_ : Int) (tk : Bool) : Tr (Exit × AFr × ASt) := (TM E sm flsC fl0 30).ex flC none (preC 1 rB) (frH vl vm (.ofNat 1) [(8, .int .i64 (.ofNat i))]) (stI o0 o1 h by_ tk)
noncomputable def tC0_0 (vl vm : AV) (o0 o1 : AO) (i : Nat) (by_ : Int) : Tr (Exit × AFr × ASt) := (TM E sm flsC fl0 30).ex flC none (preC 1 rB) (frH vl vm (.ofNat 0) [(8, .int .i64 (.ofNat i))]) (stI0 o0 o1 by_ false)
noncomputable def tC0_1 (vl vm : AV) (o0 o1 : AO) (i : Nat) (by_ : Int) : Tr (Exit × AFr × ASt) := (TM E sm flsC fl0 30).ex flC none (preC 1 rB) (frH vl vm (.ofNat 1) [(8, .int .i64 (.ofNat i))]) (stI0 o0 o1 by_ false)
noncomputable def tD_0 (vl vm : AV) (o0 o1 : AO) (h : H) (m j : Nat) (tx : Bool) : Tr (Exit × AFr × ASt) := (TM E sm flsD fl0 30).ex flD none B2 (frH vl vm (.ofNat 0) [(13, .int .i64 (.ofNat h.length)), (14, .int .i64 (.ofNat j))]) (stI o0 o1 h (.ofNat 0) true)
noncomputable def tD_1 (vl vm : AV) (o0 o1 : AO) (h : H) (m j : Nat) (tx : Bool) : Tr (Exit × AFr × ASt) := (TM E sm flsD fl0 30).ex flD none B2 (frH vl vm (.ofNat 1) [(13, .int .i64 (.ofNat h.length)), (14, .int .i64 (.ofNat j))]) (stI o0 o1 h (.ofNat 1) true)
noncomputable def tE_0 (vl vm : AV) (o0 o1 : AO) (h : H) (m : Nat) : Tr (Exit × AFr × ASt) := (TM E sm flsD fl0 30).ex flE none rD (frH vl vm (.ofNat 0) [(13, .int .i64 (.ofNat h.length)), (14, .int .i64 (.ofNat m))]) (stI o0 o1 h (.ofNat 0) true)
noncomputable def tE_1 (vl vm : AV) (o0 o1 : AO) (h : H) (m : Nat) : Tr (Exit × AFr × ASt) := (TM E sm flsD fl0 30).ex flE none rD (frH vl vm (.ofNat 1) [(13, .int .i64 (.ofNat h.length)), (14, .int .i64 (.ofNat m))]) (stI o0 o1 h (.ofNat 1) true)
noncomputable def vcA_s0 (vl : AV) (vm : AV) (o0 : AO) (o1 : AO) (n : Nat) (m : Nat) (nd : Int) : ASt := mkSt [(0, o0), (1, o1)] 2
noncomputable def vcA_s1 (vl : AV) (vm : AV) (o0 : AO) (o1 : AO) (n : Nat) (m : Nat) (nd : Int) : ASt := mkSt [(0, o0), (1, o1), (2, AO.cells [AV.int IntKind.i64 (Int.ofNat 0), AV.bool false, AV.slice none 0 (Cap.known 0), AV.bool true] true)] 3
theorem vcA (vl : AV) (vm : AV) (o0 : AO) (o1 : AO) (n : Nat) (m : Nat) (nd : Int) (Q : Exit × AFr × ASt → Prop) (Q2 : Exit × Option AV → Prop) :
  (aBuiltinM E Builtin.len [22] [vl] (vcA_s0 vl vm o0 o1 n m nd) = some (AV.int IntKind.i64 (Int.ofNat n), vcA_s0 vl vm o0 o1 n m nd) ∧ ifB (ltF (Int.ofNat 40) (Int.ofNat n)) (Q2 (Exit.ret, some (AV.bool true))) (aBuiltinM E Builtin.len [39] [vm] (vcA_s0 vl vm o0 o1 n m nd) = some (AV.int IntKind.i64 (Int.ofNat m), vcA_s0 vl vm o0 o1 n m nd) ∧ ifB (ltF (Int.ofNat 40) (Int.ofNat m)) (Q2 (Exit.ret, some (AV.bool true))) (ifB (ltF nd (Int.ofNat 0)) (Q2 (Exit.ret, some (AV.bool true))) (ifB (ltF (Int.ofNat 1) nd) (Q2 (Exit.ret, some (AV.bool true))) (Q (Exit.normal, xFr [(0, vl), (1, vm), (2, AV.int IntKind.i64 nd), (7, AV.ptr (some (2, 0)))] 184, vcA_s1 vl vm o0 o1 n m nd)))))) =
  (tA vl vm o0 o1 n m nd).allY (mixQ E Try.f4 [0, 1, 2, 7] [0, 1, 2, 3, 4] Q Q2) (An.v (AV.int IntKind.i64 (Int.ofNat n), vcA_s0 vl vm o0 o1 n m nd) (An.b An.nil (An.v (AV.int IntKind.i64 (Int.ofNat m), vcA_s0 vl vm o0 o1 n m nd) (An.b An.nil (An.b An.nil (An.b An.nil An.nil)))))) := by kernel_rfl
noncomputable def vcA6_s0 (vl : AV) (vm : AV) (o0 : AO) (o1 : AO) (nd : Int) : ASt := mkSt [(0, o0), (1, o1), (2, AO.cells [AV.int IntKind.i64 (Int.ofNat 0), AV.bool false, AV.slice none 0 (Cap.known 0), AV.bool true] true)] 3
theorem vcA6 (vl : AV) (vm : AV) (o0 : AO) (o1 : AO) (nd : Int) (Q : Exit × AFr × ASt → Prop) :
  (Q (Exit.normal, xFr [(0, vl), (1, vm), (2, AV.int IntKind.i64 nd), (7, AV.ptr (some (2, 0))), (8, AV.int IntKind.i64 (Int.ofNat 0))] 184, vcA6_s0 vl vm o0 o1 nd)) =
  (tA6 vl vm o0 o1 nd).allY (fun r => Q (canR [0, 1, 2, 7, 8] [0, 1, 2] r)) (An.nil) := by kernel_rfl
noncomputable def vcB_s0 (vl : AV) (vm : AV) (o0 : AO) (o1 : AO) (h : H) (n : Nat) (i : Nat) (nd : Int) (by_ : Int) (tk : Bool) (x : Int) (tx : Bool) : ASt := mkSt [(0, o0), (1, o1), (2, AO.cells [AV.int IntKind.i64 by_, AV.bool tk, AV.slice (some (3, 0)) (List.length h) (Cap.rest 2), AV.bool true] true), (3, AO.cells (List.flatMap enc h) true)] 4
noncomputable def vcB_s1 (vl : AV) (vm : AV) (o0 : AO) (o1 : AO) (h : H) (n : Nat) (i : Nat) (nd : Int) (by_ : Int) (tk : Bool) (x : Int) (tx : Bool) : ASt := mkSt [(0, o0), (1, o1), (2, AO.cells [AV.int IntKind.i64 x, AV.bool true, AV.slice (some (3, 0)) (List.length h) (Cap.rest 2), AV.bool true] true), (3, AO.cells (List.flatMap enc h) true), (4, AO.cells [] true)] 5
noncomputable def vcB_s2 (vl : AV) (vm : AV) (o0 : AO) (o1 : AO) (h : H) (n : Nat) (i : Nat) (nd : Int) (by_ : Int) (tk : Bool) (x : Int) (tx : Bool) : ASt := mkSt [(0, o0), (1, o1), (2, AO.cells [AV.int IntKind.i64 x, AV.bool true, AV.slice (some (3, 0)) (List.length h) (Cap.rest 2), AV.bool true] true), (3, AO.cells (List.flatMap enc h) true), (4, AO.cells [] true), (5, AO.cells (List.flatMap enc h) true)] 6
noncomputable def vcB_s3 (vl : AV) (vm : AV) (o0 : AO) (o1 : AO) (h : H) (n : Nat) (i : Nat) (nd : Int) (by_ : Int) (tk : Bool) (x : Int) (tx : Bool) : ASt := mkSt [(0, o0), (1, o1), (2, AO.cells [AV.int IntKind.i64 x, AV.bool true, AV.slice (some (3, 0)) (List.length h) (Cap.rest 2), AV.bool true] true), (3, AO.cells (List.flatMap enc h) true), (4, AO.cells [] true), (5, AO.cells (List.flatMap enc h) true), (6, AO.cells [AV.int IntKind.i64 x, AV.bool true] true)] 7
noncomputable def vcB_s4 (vl : AV) (vm : AV) (o0 : AO) (o1 : AO) (h : H) (n : Nat) (i : Nat) (nd : Int) (by_ : Int) (tk : Bool) (x : Int) (tx : Bool) : ASt := mkSt [(0, o0), (1, o1), (2, AO.cells [AV.int IntKind.i64 x, AV.bool true, AV.slice (some (3, 0)) (List.length h) (Cap.rest 2), AV.bool true] true), (3, AO.cells (List.flatMap enc h) true), (4, AO.cells [] true), (5, AO.dead), (6, AO.cells [AV.int IntKind.i64 x, AV.bool true] true), (7, AO.cells (List.flatMap enc h ++ [AV.int IntKind.i64 x, AV.bool true]) true)] 8
noncomputable def vcB_s5 (vl : AV) (vm : AV) (o0 : AO) (o1 : AO) (h : H) (n : Nat) (i : Nat) (nd : Int) (by_ : Int) (tk : Bool) (x : Int) (tx : Bool) : ASt := mkSt [(0, o0), (1, o1), (2, AO.cells [AV.int IntKind.i64 x, AV.bool true, AV.slice (some (7, 0)) (List.length h + 1) (Cap.rest 2), AV.bool true] true), (3, AO.cells (List.flatMap enc h) true), (4, AO.cells [] true), (5, AO.dead), (6, AO.cells [AV.int IntKind.i64 x, AV.bool true] true), (7, AO.cells (List.flatMap enc h ++ [AV.int IntKind.i64 x, AV.bool true]) true)] 8
noncomputable def vcB_s6 (vl : AV) (vm : AV) (o0 : AO) (o1 : AO) (h : H) (n : Nat) (i : Nat) (nd : Int) (by_ : Int) (tk : Bool) (x : Int) (tx : Bool) : ASt := mkSt [(0, o0), (1, o1), (2, AO.cells [AV.int IntKind.i64 (Int.ofNat 0), AV.bool false, AV.slice (some (3, 0)) (List.length h) (Cap.rest 2), AV.bool true] true), (3, AO.cells (List.flatMap enc h) true), (4, AO.cells [] true)] 5
noncomputable def vcB_s7 (vl : AV) (vm : AV) (o0 : AO) (o1 : AO) (h : H) (n : Nat) (i : Nat) (nd : Int) (by_ : Int) (tk : Bool) (x : Int) (tx : Bool) : ASt := mkSt [(0, o0), (1, o1), (2, AO.cells [AV.int IntKind.i64 (Int.ofNat 0), AV.bool false, AV.slice (some (3, 0)) (List.length h) (Cap.rest 2), AV.bool true] true), (3, AO.cells (List.flatMap enc h) true), (4, AO.cells [] true), (5, AO.cells (List.flatMap enc h) true)] 6
noncomputable def vcB_s8 (vl : AV) (vm : AV) (o0 : AO) (o1 : AO) (h : H) (n : Nat) (i : Nat) (nd : Int) (by_ : Int) (tk : Bool) (x : Int) (tx : Bool) : ASt := mkSt [(0, o0), (1, o1), (2, AO.cells [AV.int IntKind.i64 (Int.ofNat 0), AV.bool false, AV.slice (some (3, 0)) (List.length h) (Cap.rest 2), AV.bool true] true), (3, AO.cells (List.flatMap enc h) true), (4, AO.cells [] true), (5, AO.cells (List.flatMap enc h) true), (6, AO.cells [AV.int IntKind.i64 x, AV.bool false] true)] 7
noncomputable def vcB_s9 (vl : AV) (vm : AV) (o0 : AO) (o1 : AO) (h : H) (n : Nat) (i : Nat) (nd : Int) (by_ : Int) (tk : Bool) (x : Int) (tx : Bool) : ASt := mkSt [(0, o0), (1, o1), (2, AO.cells [AV.int IntKind.i64 (Int.ofNat 0), AV.bool false, AV.slice (some (3, 0)) (List.length h) (Cap.rest 2), AV.bool true] true), (3, AO.cells (List.flatMap enc h) true), (4, AO.cells [] true), (5, AO.dead), (6, AO.cells [AV.int IntKind.i64 x, AV.bool false] true), (7, AO.cells (List.flatMap enc h ++ [AV.int IntKind.i64 x, AV.bool false]) true)] 8
noncomputable def vcB_s10 (vl : AV) (vm : AV) (o0 : AO) (o1 : AO) (h : H) (n : Nat) (i : Nat) (nd : Int) (by_ : Int) (tk : Bool) (x : Int) (tx : Bool) : ASt := mkSt [(0, o0), (1, o1), (2, AO.cells [AV.int IntKind.i64 (Int.ofNat 0), AV.bool false, AV.slice (some (7, 0)) (List.length h + 1) (Cap.rest 2), AV.bool true] true), (3, AO.cells (List.flatMap enc h) true), (4, AO.cells [] true), (5, AO.dead), (6, AO.cells [AV.int IntKind.i64 x, AV.bool false] true), (7, AO.cells (List.flatMap enc h ++ [AV.int IntKind.i64 x, AV.bool false]) true)] 8
theorem vcB (vl : AV) (vm : AV) (o0 : AO) (o1 : AO) (h : H) (n : Nat) (i : Nat) (nd : Int) (by_ : Int) (tk : Bool) (x : Int) (tx : Bool) (Q : Exit × AFr × ASt → Prop) :
  (aBuiltinM E Builtin.len [22] [vl] (vcB_s0 vl vm o0 o1 h n i nd by_ tk x tx) = some (AV.int IntKind.i64 (Int.ofNat n), vcB_s0 vl vm o0 o1 h n i nd by_ tk x tx) ∧ ifB (ltF (Int.ofNat i) (Int.ofNat n)) (still (vcB_s0 vl vm o0 o1 h n i nd by_ tk x tx) (aIndexAddr E 22 vl (AV.int IntKind.i64 (Int.ofNat i))) = some (AV.ptr (some (0, 0 + i * 2)), vcB_s0 vl vm o0 o1 h n i nd by_ tk x tx) ∧ aLoad E 4 (AV.ptr (some (0, 0 + i * 2 + 1))) (vcB_s0 vl vm o0 o1 h n i nd by_ tk x tx) = some (AV.bool tx, vcB_s0 vl vm o0 o1 h n i nd by_ tk x tx) ∧ ifB tx (still (vcB_s0 vl vm o0 o1 h n i nd by_ tk x tx) (aIndexAddr E 22 vl (AV.int IntKind.i64 (Int.ofNat i))) = some (AV.ptr (some (0, 0 + i * 2)), vcB_s0 vl vm o0 o1 h n i nd by_ tk x tx) ∧ aLoad E 3 (AV.ptr (some (0, 0 + i * 2 + 0))) (vcB_s0 vl vm o0 o1 h n i nd by_ tk x tx) = some (AV.int IntKind.i64 x, vcB_s0 vl vm o0 o1 h n i nd by_ tk x tx) ∧ ifB (!eqF x (Int.ofNat 0)) (ifB (!eqF x (Int.ofNat 1)) (Q (Exit.normal, xFr [(0, vl), (1, vm), (2, AV.int IntKind.i64 nd), (7, AV.ptr (some (2, 0))), (8, AV.int IntKind.i64 (wrapF IntKind.i64 (Int.ofNat i + Int.ofNat 1)))] 184, vcB_s0 vl vm o0 o1 h n i nd by_ tk x tx)) (ifB tk (ifB (!eqF by_ x) (Q (Exit.normal, xFr [(0, vl), (1, vm), (2, AV.int IntKind.i64 nd), (7, AV.ptr (some (2, 0))), (8, AV.int IntKind.i64 (wrapF IntKind.i64 (Int.ofNat i + Int.ofNat 1)))] 184, vcB_s0 vl vm o0 o1 h n i nd by_ tk x tx)) (Q (Exit.normal, xFr [(0, vl), (1, vm), (2, AV.int IntKind.i64 nd), (7, AV.ptr (some (2, 0))), (8, AV.int IntKind.i64 (wrapF IntKind.i64 (Int.ofNat i + Int.ofNat 1)))] 184, vcB_s0 vl vm o0 o1 h n i nd by_ tk x tx))) (aBuiltinM E Builtin.append [43, 43] [AV.slice (some (4, 0)) 0 (Cap.known 0), AV.slice (some (3, 0)) (List.length h) (Cap.rest 2)] (vcB_s1 vl vm o0 o1 h n i nd by_ tk x tx) = some (AV.slice (some (5, 0)) (List.length h) (Cap.rest 2), vcB_s2 vl vm o0 o1 h n i nd by_ tk x tx) ∧ aBuiltinM E Builtin.append [43, 43] [AV.slice (some (5, 0)) (List.length h) (Cap.rest 2), AV.slice (some (6, 0)) 1 (Cap.known 1)] (vcB_s3 vl vm o0 o1 h n i nd by_ tk x tx) = some (AV.slice (some (7, 0)) (List.length h + 1) (Cap.rest 2), vcB_s4 vl vm o0 o1 h n i nd by_ tk x tx) ∧ Q (Exit.normal, xFr [(0, vl), (1, vm), (2, AV.int IntKind.i64 nd), (7, AV.ptr (some (2, 0))), (8, AV.int IntKind.i64 (wrapF IntKind.i64 (Int.ofNat i + Int.ofNat 1)))] 184, vcB_s5 vl vm o0 o1 h n i nd by_ tk x tx)))) (ifB tk (ifB (!eqF by_ x) (Q (Exit.normal, xFr [(0, vl), (1, vm), (2, AV.int IntKind.i64 nd), (7, AV.ptr (some (2, 0))), (8, AV.int IntKind.i64 (wrapF IntKind.i64 (Int.ofNat i + Int.ofNat 1)))] 184, vcB_s0 vl vm o0 o1 h n i nd by_ tk x tx)) (Q (Exit.normal, xFr [(0, vl), (1, vm), (2, AV.int IntKind.i64 nd), (7, AV.ptr (some (2, 0))), (8, AV.int IntKind.i64 (wrapF IntKind.i64 (Int.ofNat i + Int.ofNat 1)))] 184, vcB_s0 vl vm o0 o1 h n i nd by_ tk x tx))) (aBuiltinM E Builtin.append [43, 43] [AV.slice (some (4, 0)) 0 (Cap.known 0), AV.slice (some (3, 0)) (List.length h) (Cap.rest 2)] (vcB_s1 vl vm o0 o1 h n i nd by_ tk x tx) = some (AV.slice (some (5, 0)) (List.length h) (Cap.rest 2), vcB_s2 vl vm o0 o1 h n i nd by_ tk x tx) ∧ aBuiltinM E Builtin.append [43, 43] [AV.slice (some (5, 0)) (List.length h) (Cap.rest 2), AV.slice (some (6, 0)) 1 (Cap.known 1)] (vcB_s3 vl vm o0 o1 h n i nd by_ tk x tx) = some (AV.slice (some (7, 0)) (List.length h + 1) (Cap.rest 2), vcB_s4 vl vm o0 o1 h n i nd by_ tk x tx) ∧ Q (Exit.normal, xFr [(0, vl), (1, vm), (2, AV.int IntKind.i64 nd), (7, AV.ptr (some (2, 0))), (8, AV.int IntKind.i64 (wrapF IntKind.i64 (Int.ofNat i + Int.ofNat 1)))] 184, vcB_s5 vl vm o0 o1 h n i nd by_ tk x tx)))) (still (vcB_s0 vl vm o0 o1 h n i nd by_ tk x tx) (aIndexAddr E 22 vl (AV.int IntKind.i64 (Int.ofNat i))) = some (AV.ptr (some (0, 0 + i * 2)), vcB_s0 vl vm o0 o1 h n i nd by_ tk x tx) ∧ aLoad E 3 (AV.ptr (some (0, 0 + i * 2 + 0))) (vcB_s0 vl vm o0 o1 h n i nd by_ tk x tx) = some (AV.int IntKind.i64 x, vcB_s0 vl vm o0 o1 h n i nd by_ tk x tx) ∧ ifB (!eqF x (Int.ofNat 0)) (ifB (!eqF x (Int.ofNat 1)) (Q (Exit.normal, xFr [(0, vl), (1, vm), (2, AV.int IntKind.i64 nd), (7, AV.ptr (some (2, 0))), (8, AV.int IntKind.i64 (wrapF IntKind.i64 (Int.ofNat i + Int.ofNat 1)))] 184, vcB_s0 vl vm o0 o1 h n i nd by_ tk x tx)) (ifB tk (ifB (!eqF by_ x) (Q (Exit.normal, xFr [(0, vl), (1, vm), (2, AV.int IntKind.i64 nd), (7, AV.ptr (some (2, 0))), (8, AV.int IntKind.i64 (wrapF IntKind.i64 (Int.ofNat i + Int.ofNat 1)))] 184, vcB_s0 vl vm o0 o1 h n i nd by_ tk x tx)) (aBuiltinM E Builtin.append [43, 43] [AV.slice (some (4, 0)) 0 (Cap.known 0), AV.slice (some (3, 0)) (List.length h) (Cap.rest 2)] (vcB_s6 vl vm o0 o1 h n i nd by_ tk x tx) = some (AV.slice (some (5, 0)) (List.length h) (Cap.rest 2), vcB_s7 vl vm o0 o1 h n i nd by_ tk x tx) ∧ aBuiltinM E Builtin.append [43, 43] [AV.slice (some (5, 0)) (List.length h) (Cap.rest 2), AV.slice (some (6, 0)) 1 (Cap.known 1)] (vcB_s8 vl vm o0 o1 h n i nd by_ tk x tx) = some (AV.slice (some (7, 0)) (List.length h + 1) (Cap.rest 2), vcB_s9 vl vm o0 o1 h n i nd by_ tk x tx) ∧ Q (Exit.normal, xFr [(0, vl), (1, vm), (2, AV.int IntKind.i64 nd), (7, AV.ptr (some (2, 0))), (8, AV.int IntKind.i64 (wrapF IntKind.i64 (Int.ofNat i + Int.ofNat 1)))] 184, vcB_s10 vl vm o0 o1 h n i nd by_ tk x tx))) (Q (Exit.normal, xFr [(0, vl), (1, vm), (2, AV.int IntKind.i64 nd), (7, AV.ptr (some (2, 0))), (8, AV.int IntKind.i64 (wrapF IntKind.i64 (Int.ofNat i + Int.ofNat 1)))] 184, vcB_s0 vl vm o0 o1 h n i nd by_ tk x tx)))) (ifB tk (ifB (!eqF by_ x) (Q (Exit.normal, xFr [(0, vl), (1, vm), (2, AV.int IntKind.i64 nd), (7, AV.ptr (some (2, 0))), (8, AV.int IntKind.i64 (wrapF IntKind.i64 (Int.ofNat i + Int.ofNat 1)))] 184, vcB_s0 vl vm o0 o1 h n i nd by_ tk x tx)) (aBuiltinM E Builtin.append [43, 43] [AV.slice (some (4, 0)) 0 (Cap.known 0), AV.slice (some (3, 0)) (List.length h) (Cap.rest 2)] (vcB_s6 vl vm o0 o1 h n i nd by_ tk x tx) = some (AV.slice (some (5, 0)) (List.length h) (Cap.rest 2), vcB_s7 vl vm o0 o1 h n i nd by_ tk x tx) ∧ aBuiltinM E Builtin.append [43, 43] [AV.slice (some (5, 0)) (List.length h) (Cap.rest 2), AV.slice (some (6, 0)) 1 (Cap.known 1)] (vcB_s8 vl vm o0 o1 h n i nd by_ tk x tx) = some (AV.slice (some (7, 0)) (List.length h + 1) (Cap.rest 2), vcB_s9 vl vm o0 o1 h n i nd by_ tk x tx) ∧ Q (Exit.normal, xFr [(0, vl), (1, vm), (2, AV.int IntKind.i64 nd), (7, AV.ptr (some (2, 0))), (8, AV.int IntKind.i64 (wrapF IntKind.i64 (Int.ofNat i + Int.ofNat 1)))] 184, vcB_s10 vl vm o0 o1 h n i nd by_ tk x tx))) (Q (Exit.normal, xFr [(0, vl), (1, vm), (2, AV.int IntKind.i64 nd), (7, AV.ptr (some (2, 0))), (8, AV.int IntKind.i64 (wrapF IntKind.i64 (Int.ofNat i + Int.ofNat 1)))] 184, vcB_s0 vl vm o0 o1 h n i nd by_ tk x tx))))) (Q (Exit.exit 0, xFr [(0, vl), (1, vm), (2, AV.int IntKind.i64 nd), (7, AV.ptr (some (2, 0))), (8, AV.int IntKind.i64 (Int.ofNat i))] 184, vcB_s0 vl vm o0 o1 h n i nd by_ tk x tx))) =
  (tB vl vm o0 o1 h n i nd by_ tk x tx).allY (fun r => Q (canR [0, 1, 2, 7, 8] [0, 1, 2, 3, 4, 5, 6, 7, 8] r)) (An.v (AV.int IntKind.i64 (Int.ofNat n), vcB_s0 vl vm o0 o1 h n i nd by_ tk x tx) (An.b (An.v (AV.ptr (some (0, 0 + i * 2)), vcB_s0 vl vm o0 o1 h n i nd by_ tk x tx) (An.v (AV.bool tx, vcB_s0 vl vm o0 o1 h n i nd by_ tk x tx) (An.b (An.v (AV.ptr (some (0, 0 + i * 2)), vcB_s0 vl vm o0 o1 h n i nd by_ tk x tx) (An.v (AV.int IntKind.i64 x, vcB_s0 vl vm o0 o1 h n i nd by_ tk x tx) (An.b (An.b An.nil (An.b (An.b An.nil An.nil) (An.v (AV.slice (some (5, 0)) (List.length h) (Cap.rest 2), vcB_s2 vl vm o0 o1 h n i nd by_ tk x tx) (An.v (AV.slice (some (7, 0)) (List.length h + 1) (Cap.rest 2), vcB_s4 vl vm o0 o1 h n i nd by_ tk x tx) An.nil)))) (An.b (An.b An.nil An.nil) (An.v (AV.slice (some (5, 0)) (List.length h) (Cap.rest 2), vcB_s2 vl vm o0 o1 h n i nd by_ tk x tx) (An.v (AV.slice (some (7, 0)) (List.length h + 1) (Cap.rest 2), vcB_s4 vl vm o0 o1 h n i nd by_ tk x tx) An.nil)))))) (An.v (AV.ptr (some (0, 0 + i * 2)), vcB_s0 vl vm o0 o1 h n i nd by_ tk x tx) (An.v (AV.int IntKind.i64 x, vcB_s0 vl vm o0 o1 h n i nd by_ tk x tx) (An.b (An.b An.nil (An.b (An.b An.nil (An.v (AV.slice (some (5, 0)) (List.length h) (Cap.rest 2), vcB_s7 vl vm o0 o1 h n i nd by_ tk x tx) (An.v (AV.slice (some (7, 0)) (List.length h + 1) (Cap.rest 2), vcB_s9 vl vm o0 o1 h n i nd by_ tk x tx) An.nil))) An.nil)) (An.b (An.b An.nil (An.v (AV.slice (some (5, 0)) (List.length h) (Cap.rest 2), vcB_s7 vl vm o0 o1 h n i nd by_ tk x tx) (An.v (AV.slice (some (7, 0)) (List.length h + 1) (Cap.rest 2), vcB_s9 vl vm o0 o1 h n i nd by_ tk x tx) An.nil))) An.nil))))))) An.nil)) := by kernel_rfl
noncomputable def vcB0_s0 (vl : AV) (vm : AV) (o0 : AO) (o1 : AO) (n : Nat) (i : Nat) (nd : Int) (by_ : Int) (tk : Bool) (x : Int) (tx : Bool) : ASt := mkSt [(0, o0), (1, o1), (2, AO.cells [AV.int IntKind.i64 by_, AV.bool tk, AV.slice none 0 (Cap.known 0), AV.bool true] true)] 3
noncomputable def vcB0_s1 (vl : AV) (vm : AV) (o0 : AO) (o1 : AO) (n : Nat) (i : Nat) (nd : Int) (by_ : Int) (tk : Bool) (x : Int) (tx : Bool) : ASt := mkSt [(0, o0), (1, o1), (2, AO.cells [AV.int IntKind.i64 x, AV.bool true, AV.slice none 0 (Cap.known 0), AV.bool true] true), (3, AO.cells [AV.int IntKind.i64 x, AV.bool true] true)] 4
noncomputable def vcB0_s2 (vl : AV) (vm : AV) (o0 : AO) (o1 : AO) (n : Nat) (i : Nat) (nd : Int) (by_ : Int) (tk : Bool) (x : Int) (tx : Bool) : ASt := mkSt [(0, o0), (1, o1), (2, AO.cells [AV.int IntKind.i64 x, AV.bool true, AV.slice none 0 (Cap.known 0), AV.bool true] true), (3, AO.cells [AV.int IntKind.i64 x, AV.bool true] true), (4, AO.cells [AV.int IntKind.i64 x, AV.bool true] true)] 5
noncomputable def vcB0_s3 (vl : AV) (vm : AV) (o0 : AO) (o1 : AO) (n : Nat) (i : Nat) (nd : Int) (by_ : Int) (tk : Bool) (x : Int) (tx : Bool) : ASt := mkSt [(0, o0), (1, o1), (2, AO.cells [AV.int IntKind.i64 x, AV.bool true, AV.slice (some (4, 0)) 1 (Cap.rest 2), AV.bool true] true), (3, AO.cells [AV.int IntKind.i64 x, AV.bool true] true), (4, AO.cells [AV.int IntKind.i64 x, AV.bool true] true)] 5
noncomputable def vcB0_s4 (vl : AV) (vm : AV) (o0 : AO) (o1 : AO) (n : Nat) (i : Nat) (nd : Int) (by_ : Int) (tk : Bool) (x : Int) (tx : Bool) : ASt := mkSt [(0, o0), (1, o1), (2, AO.cells [AV.int IntKind.i64 (Int.ofNat 0), AV.bool false, AV.slice none 0 (Cap.known 0), AV.bool true] true), (3, AO.cells [AV.int IntKind.i64 x, AV.bool false] true)] 4
noncomputable def vcB0_s5 (vl : AV) (vm : AV) (o0 : AO) (o1 : AO) (n : Nat) (i : Nat) (nd : Int) (by_ : Int) (tk : Bool) (x : Int) (tx : Bool) : ASt := mkSt [(0, o0), (1, o1), (2, AO.cells [AV.int IntKind.i64 (Int.ofNat 0), AV.bool false, AV.slice none 0 (Cap.known 0), AV.bool true] true), (3, AO.cells [AV.int IntKind.i64 x, AV.bool false] true), (4, AO.cells [AV.int IntKind.i64 x, AV.bool false] true)] 5
noncomputable def vcB0_s6 (vl : AV) (vm : AV) (o0 : AO) (o1 : AO) (n : Nat) (i : Nat) (nd : Int) (by_ : Int) (tk : Bool) (x : Int) (tx : Bool) : ASt := mkSt [(0, o0), (1, o1), (2, AO.cells [AV.int IntKind.i64 (Int.ofNat 0), AV.bool false, AV.slice (some (4, 0)) 1 (Cap.rest 2), AV.bool true] true), (3, AO.cells [AV.int IntKind.i64 x, AV.bool false] true), (4, AO.cells [AV.int IntKind.i64 x, AV.bool false] true)] 5
theorem vcB0 (vl : AV) (vm : AV) (o0 : AO) (o1 : AO) (n : Nat) (i : Nat) (nd : Int) (by_ : Int) (tk : Bool) (x : Int) (tx : Bool) (Q : Exit × AFr × ASt → Prop) :
  (aBuiltinM E Builtin.len [22] [vl] (vcB0_s0 vl vm o0 o1 n i nd by_ tk x tx) = some (AV.int IntKind.i64 (Int.ofNat n), vcB0_s0 vl vm o0 o1 n i nd by_ tk x tx) ∧ ifB (ltF (Int.ofNat i) (Int.ofNat n)) (still (vcB0_s0 vl vm o0 o1 n i nd by_ tk x tx) (aIndexAddr E 22 vl (AV.int IntKind.i64 (Int.ofNat i))) = some (AV.ptr (some (0, 0 + i * 2)), vcB0_s0 vl vm o0 o1 n i nd by_ tk x tx) ∧ aLoad E 4 (AV.ptr (some (0, 0 + i * 2 + 1))) (vcB0_s0 vl vm o0 o1 n i nd by_ tk x tx) = some (AV.bool tx, vcB0_s0 vl vm o0 o1 n i nd by_ tk x tx) ∧ ifB tx (still (vcB0_s0 vl vm o0 o1 n i nd by_ tk x tx) (aIndexAddr E 22 vl (AV.int IntKind.i64 (Int.ofNat i))) = some (AV.ptr (some (0, 0 + i * 2)), vcB0_s0 vl vm o0 o1 n i nd by_ tk x tx) ∧ aLoad E 3 (AV.ptr (some (0, 0 + i * 2 + 0))) (vcB0_s0 vl vm o0 o1 n i nd by_ tk x tx) = some (AV.int IntKind.i64 x, vcB0_s0 vl vm o0 o1 n i nd by_ tk x tx) ∧ ifB (!eqF x (Int.ofNat 0)) (ifB (!eqF x (Int.ofNat 1)) (Q (Exit.normal, xFr [(0, vl), (1, vm), (2, AV.int IntKind.i64 nd), (7, AV.ptr (some (2, 0))), (8, AV.int IntKind.i64 (wrapF IntKind.i64 (Int.ofNat i + Int.ofNat 1)))] 184, vcB0_s0 vl vm o0 o1 n i nd by_ tk x tx)) (ifB tk (ifB (!eqF by_ x) (Q (Exit.normal, xFr [(0, vl), (1, vm), (2, AV.int IntKind.i64 nd), (7, AV.ptr (some (2, 0))), (8, AV.int IntKind.i64 (wrapF IntKind.i64 (Int.ofNat i + Int.ofNat 1)))] 184, vcB0_s0 vl vm o0 o1 n i nd by_ tk x tx)) (Q (Exit.normal, xFr [(0, vl), (1, vm), (2, AV.int IntKind.i64 nd), (7, AV.ptr (some (2, 0))), (8, AV.int IntKind.i64 (wrapF IntKind.i64 (Int.ofNat i + Int.ofNat 1)))] 184, vcB0_s0 vl vm o0 o1 n i nd by_ tk x tx))) (aBuiltinM E Builtin.append [43, 43] [AV.slice none 0 (Cap.known 0), AV.slice (some (3, 0)) 1 (Cap.known 1)] (vcB0_s1 vl vm o0 o1 n i nd by_ tk x tx) = some (AV.slice (some (4, 0)) 1 (Cap.rest 2), vcB0_s2 vl vm o0 o1 n i nd by_ tk x tx) ∧ Q (Exit.normal, xFr [(0, vl), (1, vm), (2, AV.int IntKind.i64 nd), (7, AV.ptr (some (2, 0))), (8, AV.int IntKind.i64 (wrapF IntKind.i64 (Int.ofNat i + Int.ofNat 1)))] 184, vcB0_s3 vl vm o0 o1 n i nd by_ tk x tx)))) (ifB tk (ifB (!eqF by_ x) (Q (Exit.normal, xFr [(0, vl), (1, vm), (2, AV.int IntKind.i64 nd), (7, AV.ptr (some (2, 0))), (8, AV.int IntKind.i64 (wrapF IntKind.i64 (Int.ofNat i + Int.ofNat 1)))] 184, vcB0_s0 vl vm o0 o1 n i nd by_ tk x tx)) (Q (Exit.normal, xFr [(0, vl), (1, vm), (2, AV.int IntKind.i64 nd), (7, AV.ptr (some (2, 0))), (8, AV.int IntKind.i64 (wrapF IntKind.i64 (Int.ofNat i + Int.ofNat 1)))] 184, vcB0_s0 vl vm o0 o1 n i nd by_ tk x tx))) (aBuiltinM E Builtin.append [43, 43] [AV.slice none 0 (Cap.known 0), AV.slice (some (3, 0)) 1 (Cap.known 1)] (vcB0_s1 vl vm o0 o1 n i nd by_ tk x tx) = some (AV.slice (some (4, 0)) 1 (Cap.rest 2), vcB0_s2 vl vm o0 o1 n i nd by_ tk x tx) ∧ Q (Exit.normal, xFr [(0, vl), (1, vm), (2, AV.int IntKind.i64 nd), (7, AV.ptr (some (2, 0))), (8, AV.int IntKind.i64 (wrapF IntKind.i64 (Int.ofNat i + Int.ofNat 1)))] 184, vcB0_s3 vl vm o0 o1 n i nd by_ tk x tx)))) (still (vcB0_s0 vl vm o0 o1 n i nd by_ tk x tx) (aIndexAddr E 22 vl (AV.int IntKind.i64 (Int.ofNat i))) = some (AV.ptr (some (0, 0 + i * 2)), vcB0_s0 vl vm o0 o1 n i nd by_ tk x tx) ∧ aLoad E 3 (AV.ptr (some (0, 0 + i * 2 + 0))) (vcB0_s0 vl vm o0 o1 n i nd by_ tk x tx) = some (AV.int IntKind.i64 x, vcB0_s0 vl vm o0 o1 n i nd by_ tk x tx) ∧ ifB (!eqF x (Int.ofNat 0)) (ifB (!eqF x (Int.ofNat 1)) (Q (Exit.normal, xFr [(0, vl), (1, vm), (2, AV.int IntKind.i64 nd), (7, AV.ptr (some (2, 0))), (8, AV.int IntKind.i64 (wrapF IntKind.i64 (Int.ofNat i + Int.ofNat 1)))] 184, vcB0_s0 vl vm o0 o1 n i nd by_ tk x tx)) (ifB tk (ifB (!eqF by_ x) (Q (Exit.normal, xFr [(0, vl), (1, vm), (2, AV.int IntKind.i64 nd), (7, AV.ptr (some (2, 0))), (8, AV.int IntKind.i64 (wrapF IntKind.i64 (Int.ofNat i + Int.ofNat 1)))] 184, vcB0_s0 vl vm o0 o1 n i nd by_ tk x tx)) (aBuiltinM E Builtin.append [43, 43] [AV.slice none 0 (Cap.known 0), AV.slice (some (3, 0)) 1 (Cap.known 1)] (vcB0_s4 vl vm o0 o1 n i nd by_ tk x tx) = some (AV.slice (some (4, 0)) 1 (Cap.rest 2), vcB0_s5 vl vm o0 o1 n i nd by_ tk x tx) ∧ Q (Exit.normal, xFr [(0, vl), (1, vm), (2, AV.int IntKind.i64 nd), (7, AV.ptr (some (2, 0))), (8, AV.int IntKind.i64 (wrapF IntKind.i64 (Int.ofNat i + Int.ofNat 1)))] 184, vcB0_s6 vl vm o0 o1 n i nd by_ tk x tx))) (Q (Exit.normal, xFr [(0, vl), (1, vm), (2, AV.int IntKind.i64 nd), (7, AV.ptr (some (2, 0))), (8, AV.int IntKind.i64 (wrapF IntKind.i64 (Int.ofNat i + Int.ofNat 1)))] 184, vcB0_s0 vl vm o0 o1 n i nd by_ tk x tx)))) (ifB tk (ifB (!eqF by_ x) (Q (Exit.normal, xFr [(0, vl), (1, vm), (2, AV.int IntKind.i64 nd), (7, AV.ptr (some (2, 0))), (8, AV.int IntKind.i64 (wrapF IntKind.i64 (Int.ofNat i + Int.ofNat 1)))] 184, vcB0_s0 vl vm o0 o1 n i nd by_ tk x tx)) (aBuiltinM E Builtin.append [43, 43] [AV.slice none 0 (Cap.known 0), AV.slice (some (3, 0)) 1 (Cap.known 1)] (vcB0_s4 vl vm o0 o1 n i nd by_ tk x tx) = some (AV.slice (some (4, 0)) 1 (Cap.rest 2), vcB0_s5 vl vm o0 o1 n i nd by_ tk x tx) ∧ Q (Exit.normal, xFr [(0, vl), (1, vm), (2, AV.int IntKind.i64 nd), (7, AV.ptr (some (2, 0))), (8, AV.int IntKind.i64 (wrapF IntKind.i64 (Int.ofNat i + Int.ofNat 1)))] 184, vcB0_s6 vl vm o0 o1 n i nd by_ tk x tx))) (Q (Exit.normal, xFr [(0, vl), (1, vm), (2, AV.int IntKind.i64 nd), (7, AV.ptr (some (2, 0))), (8, AV.int IntKind.i64 (wrapF IntKind.i64 (Int.ofNat i + Int.ofNat 1)))] 184, vcB0_s0 vl vm o0 o1 n i nd by_ tk x tx))))) (Q (Exit.exit 0, xFr [(0, vl), (1, vm), (2, AV.int IntKind.i64 nd), (7, AV.ptr (some (2, 0))), (8, AV.int IntKind.i64 (Int.ofNat i))] 184, vcB0_s0 vl vm o0 o1 n i nd by_ tk x tx))) =
  (tB0 vl vm o0 o1 n i nd by_ tk x tx).allY (fun r => Q (canR [0, 1, 2, 7, 8] [0, 1, 2, 3, 4, 5, 6, 7, 8] r)) (An.v (AV.int IntKind.i64 (Int.ofNat n), vcB0_s0 vl vm o0 o1 n i nd by_ tk x tx) (An.b (An.v (AV.ptr (some (0, 0 + i * 2)), vcB0_s0 vl vm o0 o1 n i nd by_ tk x tx) (An.v (AV.bool tx, vcB0_s0 vl vm o0 o1 n i nd by_ tk x tx) (An.b (An.v (AV.ptr (some (0, 0 + i * 2)), vcB0_s0 vl vm o0 o1 n i nd by_ tk x tx) (An.v (AV.int IntKind.i64 x, vcB0_s0 vl vm o0 o1 n i nd by_ tk x tx) (An.b (An.b An.nil (An.b (An.b An.nil An.nil) (An.v (AV.slice (some (4, 0)) 1 (Cap.rest 2), vcB0_s2 vl vm o0 o1 n i nd by_ tk x tx) An.nil))) (An.b (An.b An.nil An.nil) (An.v (AV.slice (some (4, 0)) 1 (Cap.rest 2), vcB0_s2 vl vm o0 o1 n i nd by_ tk x tx) An.nil))))) (An.v (AV.ptr (some (0, 0 + i * 2)), vcB0_s0 vl vm o0 o1 n i nd by_ tk x tx) (An.v (AV.int IntKind.i64 x, vcB0_s0 vl vm o0 o1 n i nd by_ tk x tx) (An.b (An.b An.nil (An.b (An.b An.nil (An.v (AV.slice (some (4, 0)) 1 (Cap.rest 2), vcB0_s5 vl vm o0 o1 n i nd by_ tk x tx) An.nil)) An.nil)) (An.b (An.b An.nil (An.v (AV.slice (some (4, 0)) 1 (Cap.rest 2), vcB0_s5 vl vm o0 o1 n i nd by_ tk x tx) An.nil)) An.nil))))))) An.nil)) := by kernel_rfl
noncomputable def vcC_0_s0 (vl : AV) (vm : AV) (o0 : AO) (o1 : AO) (h : H) (i : Nat) (by_ : Int) (tk : Bool) : ASt := mkSt [(0, o0), (1, o1), (2, AO.cells [AV.int IntKind.i64 by_, AV.bool tk, AV.slice (some (3, 0)) (List.length h) (Cap.rest 2), AV.bool true] true), (3, AO.cells (List.flatMap enc h) true)] 4
noncomputable def vcC_0_s1 (vl : AV) (vm : AV) (o0 : AO) (o1 : AO) (h : H) (i : Nat) (by_ : Int) (tk : Bool) : ASt := mkSt [(0, o0), (1, o1), (2, AO.cells [AV.int IntKind.i64 (Int.ofNat 0), AV.bool true, AV.slice (some (3, 0)) (List.length h) (Cap.rest 2), AV.bool true] true), (3, AO.cells (List.flatMap enc h) true), (4, AO.cells [] true)] 5
noncomputable def vcC_0_s2 (vl : AV) (vm : AV) (o0 : AO) (o1 : AO) (h : H) (i : Nat) (by_ : Int) (tk : Bool) : ASt := mkSt [(0, o0), (1, o1), (2, AO.cells [AV.int IntKind.i64 (Int.ofNat 0), AV.bool true, AV.slice (some (3, 0)) (List.length h) (Cap.rest 2), AV.bool true] true), (3, AO.cells (List.flatMap enc h) true), (4, AO.cells [] true), (5, AO.cells (List.flatMap enc h) true)] 6
noncomputable def vcC_0_s3 (vl : AV) (vm : AV) (o0 : AO) (o1 : AO) (h : H) (i : Nat) (by_ : Int) (tk : Bool) : ASt := mkSt [(0, o0), (1, o1), (2, AO.cells [AV.int IntKind.i64 (Int.ofNat 0), AV.bool true, AV.slice (some (3, 0)) (List.length h) (Cap.rest 2), AV.bool true] true), (3, AO.cells (List.flatMap enc h) true), (4, AO.cells [] true), (5, AO.cells (List.flatMap enc h) true), (6, AO.cells [AV.int IntKind.i64 (Int.ofNat 0), AV.bool true] true)] 7
noncomputable def vcC_0_s4 (vl : AV) (vm : AV) (o0 : AO) (o1 : AO) (h : H) (i : Nat) (by_ : Int) (tk : Bool) : ASt := mkSt [(0, o0), (1, o1), (2, AO.cells [AV.int IntKind.i64 (Int.ofNat 0), AV.bool true, AV.slice (some (3, 0)) (List.length h) (Cap.rest 2), AV.bool true] true), (3, AO.cells (List.flatMap enc h) true), (4, AO.cells [] true), (5, AO.dead), (6, AO.cells [AV.int IntKind.i64 (Int.ofNat 0), AV.bool true] true), (7, AO.cells (List.flatMap enc h ++ [AV.int IntKind.i64 (Int.ofNat 0), AV.bool true]) true)] 8
noncomputable def vcC_0_s5 (vl : AV) (vm : AV) (o0 : AO) (o1 : AO) (h : H) (i : Nat) (by_ : Int) (tk : Bool) : ASt := mkSt [(0, o0), (1, o1), (2, AO.cells [AV.int IntKind.i64 (Int.ofNat 0), AV.bool true, AV.slice (some (7, 0)) (List.length h + 1) (Cap.rest 2), AV.bool true] true), (3, AO.cells (List.flatMap enc h) true), (4, AO.cells [] true), (5, AO.dead), (6, AO.cells [AV.int IntKind.i64 (Int.ofNat 0), AV.bool true] true), (7, AO.cells (List.flatMap enc h ++ [AV.int IntKind.i64 (Int.ofNat 0), AV.bool true]) true)] 8
theorem vcC_0 (vl : AV) (vm : AV) (o0 : AO) (o1 : AO) (h : H) (i : Nat) (by_ : Int) (tk : Bool) (Q : Exit × AFr × ASt → Prop) (Q2 : Exit × Option AV → Prop) :
  (ifB tk (ifB (!eqF by_ (Int.ofNat 0)) (ifB tk (ifB (eqF by_ (Int.ofNat 1)) (Q2 (Exit.ret, some (AV.bool true))) (Q2 (Exit.ret, some (AV.bool false)))) (Q2 (Exit.ret, some (AV.bool false)))) ((M E (drawA E) sm 28).call 16 [AV.ptr (some (2, 0))] (vcC_0_s0 vl vm o0 o1 h i by_ tk) = some (AV.int IntKind.i64 (Int.ofNat (List.length h)), vcC_0_s0 vl vm o0 o1 h i by_ tk) ∧ Q (Exit.normal, xFr [(0, vl), (1, vm), (2, AV.int IntKind.i64 (Int.ofNat 0)), (7, AV.ptr (some (2, 0))), (13, AV.int IntKind.i64 (Int.ofNat (List.length h)))] 184, vcC_0_s0 vl vm o0 o1 h i by_ tk))) (aBuiltinM E Builtin.append [43, 43] [AV.slice (some (4, 0)) 0 (Cap.known 0), AV.slice (some (3, 0)) (List.length h) (Cap.rest 2)] (vcC_0_s1 vl vm o0 o1 h i by_ tk) = some (AV.slice (some (5, 0)) (List.length h) (Cap.rest 2), vcC_0_s2 vl vm o0 o1 h i by_ tk) ∧ aBuiltinM E Builtin.append [43, 43] [AV.slice (some (5, 0)) (List.length h) (Cap.rest 2), AV.slice (some (6, 0)) 1 (Cap.known 1)] (vcC_0_s3 vl vm o0 o1 h i by_ tk) = some (AV.slice (some (7, 0)) (List.length h + 1) (Cap.rest 2), vcC_0_s4 vl vm o0 o1 h i by_ tk) ∧ (M E (drawA E) sm 28).call 16 [AV.ptr (some (2, 0))] (vcC_0_s5 vl vm o0 o1 h i by_ tk) = some (AV.int IntKind.i64 (Int.ofNat (List.length h + 1)), vcC_0_s5 vl vm o0 o1 h i by_ tk) ∧ Q (Exit.normal, xFr [(0, vl), (1, vm), (2, AV.int IntKind.i64 (Int.ofNat 0)), (7, AV.ptr (some (2, 0))), (13, AV.int IntKind.i64 (Int.ofNat (List.length h + 1)))] 184, vcC_0_s5 vl vm o0 o1 h i by_ tk))) =
  (tC_0 vl vm o0 o1 h i by_ tk).allY (mixQ E Try.f4 [0, 1, 2, 7, 13] [0, 1, 2, 3, 4, 5, 6, 7, 8] Q Q2) (An.b (An.b (An.b (An.b An.nil An.nil) An.nil) (An.v (AV.int IntKind.i64 (Int.ofNat (List.length h)), vcC_0_s0 vl vm o0 o1 h i by_ tk) An.nil)) (An.v (AV.slice (some (5, 0)) (List.length h) (Cap.rest 2), vcC_0_s2 vl vm o0 o1 h i by_ tk) (An.v (AV.slice (some (7, 0)) (List.length h + 1) (Cap.rest 2), vcC_0_s4 vl vm o0 o1 h i by_ tk) (An.v (AV.int IntKind.i64 (Int.ofNat (List.length h + 1)), vcC_0_s5 vl vm o0 o1 h i by_ tk) An.nil)))) := by kernel_rfl
noncomputable def vcC0_0_s0 (vl : AV) (vm : AV) (o0 : AO) (o1 : AO) (i : Nat) (by_ : Int) : ASt := mkSt [(0, o0), (1, o1), (2, AO.cells [AV.int IntKind.i64 (Int.ofNat 0), AV.bool true, AV.slice none 0 (Cap.known 0), AV.bool true] true), (3, AO.cells [AV.int IntKind.i64 (Int.ofNat 0), AV.bool true] true)] 4
noncomputable def vcC0_0_s1 (vl : AV) (vm : AV) (o0 : AO) (o1 : AO) (i : Nat) (by_ : Int) : ASt := mkSt [(0, o0), (1, o1), (2, AO.cells [AV.int IntKind.i64 (Int.ofNat 0), AV.bool true, AV.slice none 0 (Cap.known 0), AV.bool true] true), (3, AO.cells [AV.int IntKind.i64 (Int.ofNat 0), AV.bool true] true), (4, AO.cells [AV.int IntKind.i64 (Int.ofNat 0), AV.bool true] true)] 5
noncomputable def vcC0_0_s2 (vl : AV) (vm : AV) (o0 : AO) (o1 : AO) (i : Nat) (by_ : Int) : ASt := mkSt [(0, o0), (1, o1), (2, AO.cells [AV.int IntKind.i64 (Int.ofNat 0), AV.bool true, AV.slice (some (4, 0)) 1 (Cap.rest 2), AV.bool true] true), (3, AO.cells [AV.int IntKind.i64 (Int.ofNat 0), AV.bool true] true), (4, AO.cells [AV.int IntKind.i64 (Int.ofNat 0), AV.bool true] true)] 5
theorem vcC0_0 (vl : AV) (vm : AV) (o0 : AO) (o1 : AO) (i : Nat) (by_ : Int) (Q : Exit × AFr × ASt → Prop) (Q2 : Exit × Option AV → Prop) :
  (aBuiltinM E Builtin.append [43, 43] [AV.slice none 0 (Cap.known 0), AV.slice (some (3, 0)) 1 (Cap.known 1)] (vcC0_0_s0 vl vm o0 o1 i by_) = some (AV.slice (some (4, 0)) 1 (Cap.rest 2), vcC0_0_s1 vl vm o0 o1 i by_) ∧ (M E (drawA E) sm 28).call 16 [AV.ptr (some (2, 0))] (vcC0_0_s2 vl vm o0 o1 i by_) = some (AV.int IntKind.i64 (Int.ofNat 1), vcC0_0_s2 vl vm o0 o1 i by_) ∧ Q (Exit.normal, xFr [(0, vl), (1, vm), (2, AV.int IntKind.i64 (Int.ofNat 0)), (7, AV.ptr (some (2, 0))), (13, AV.int IntKind.i64 (Int.ofNat 1))] 184, vcC0_0_s2 vl vm o0 o1 i by_)) =
  (tC0_0 vl vm o0 o1 i by_).allY (mixQ E Try.f4 [0, 1, 2, 7, 13] [0, 1, 2, 3, 4, 5, 6, 7, 8] Q Q2) (An.b An.nil (An.v (AV.slice (some (4, 0)) 1 (Cap.rest 2), vcC0_0_s1 vl vm o0 o1 i by_) (An.v (AV.int IntKind.i64 (Int.ofNat 1), vcC0_0_s2 vl vm o0 o1 i by_) An.nil))) := by kernel_rfl
noncomputable def vcE_0_s0 (vl : AV) (vm : AV) (o0 : AO) (o1 : AO) (h : H) (m : Nat) : ASt := mkSt [(0, o0), (1, o1), (2, AO.cells [AV.int IntKind.i64 (Int.ofNat 0), AV.bool false, AV.slice (some (3, 0)) (List.length h) (Cap.rest 2), AV.bool true] true), (3, AO.cells (List.flatMap enc h) true), (14, AO.cells [] true)] 15
noncomputable def vcE_0_s1 (vl : AV) (vm : AV) (o0 : AO) (o1 : AO) (h : H) (m : Nat) : ASt := mkSt [(0, o0), (1, o1), (2, AO.cells [AV.int IntKind.i64 (Int.ofNat 0), AV.bool false, AV.slice (some (3, 0)) (List.length h) (Cap.rest 2), AV.bool true] true), (3, AO.cells (List.flatMap enc h) true), (14, AO.cells [] true), (15, AO.cells (List.flatMap enc h) true)] 16
noncomputable def vcE_0_s2 (vl : AV) (vm : AV) (o0 : AO) (o1 : AO) (h : H) (m : Nat) : ASt := mkSt [(0, o0), (1, o1), (2, AO.cells [AV.int IntKind.i64 (Int.ofNat 0), AV.bool false, AV.slice (some (3, 0)) (List.length h) (Cap.rest 2), AV.bool true] true), (3, AO.cells (List.flatMap enc h) true), (14, AO.cells [] true), (15, AO.cells (List.flatMap enc h) true), (16, AO.cells [AV.int IntKind.i64 (Int.ofNat 0), AV.bool false] true)] 17
noncomputable def vcE_0_s3 (vl : AV) (vm : AV) (o0 : AO) (o1 : AO) (h : H) (m : Nat) : ASt := mkSt [(0, o0), (1, o1), (2, AO.cells [AV.int IntKind.i64 (Int.ofNat 0), AV.bool false, AV.slice (some (3, 0)) (List.length h) (Cap.rest 2), AV.bool true] true), (3, AO.cells (List.flatMap enc h) true), (14, AO.cells [] true), (15, AO.dead), (16, AO.cells [AV.int IntKind.i64 (Int.ofNat 0), AV.bool false] true), (17, AO.cells (List.flatMap enc h ++ [AV.int IntKind.i64 (Int.ofNat 0), AV.bool false]) true)] 18
noncomputable def vcE_0_s4 (vl : AV) (vm : AV) (o0 : AO) (o1 : AO) (h : H) (m : Nat) : ASt := mkSt [(0, o0), (1, o1), (2, AO.cells [AV.int IntKind.i64 (Int.ofNat 1), AV.bool true, AV.slice (some (17, 0)) (List.length h + 1) (Cap.rest 2), AV.bool true] true), (3, AO.cells (List.flatMap enc h) true), (14, AO.cells [] true), (15, AO.dead), (16, AO.cells [AV.int IntKind.i64 (Int.ofNat 0), AV.bool false] true), (17, AO.cells (List.flatMap enc h ++ [AV.int IntKind.i64 (Int.ofNat 0), AV.bool false]) true), (18, AO.cells [] true)] 19
noncomputable def vcE_0_s5 (vl : AV) (vm : AV) (o0 : AO) (o1 : AO) (h : H) (m : Nat) : ASt := mkSt [(0, o0), (1, o1), (2, AO.cells [AV.int IntKind.i64 (Int.ofNat 1), AV.bool true, AV.slice (some (17, 0)) (List.length h + 1) (Cap.rest 2), AV.bool true] true), (3, AO.cells (List.flatMap enc h) true), (14, AO.cells [] true), (15, AO.dead), (16, AO.cells [AV.int IntKind.i64 (Int.ofNat 0), AV.bool false] true), (17, AO.cells (List.flatMap enc h ++ [AV.int IntKind.i64 (Int.ofNat 0), AV.bool false]) true), (18, AO.cells [] true), (19, AO.cells (List.flatMap enc h ++ [AV.int IntKind.i64 (Int.ofNat 0), AV.bool false]) true)] 20
noncomputable def vcE_0_s6 (vl : AV) (vm : AV) (o0 : AO) (o1 : AO) (h : H) (m : Nat) : ASt := mkSt [(0, o0), (1, o1), (2, AO.cells [AV.int IntKind.i64 (Int.ofNat 1), AV.bool true, AV.slice (some (17, 0)) (List.length h + 1) (Cap.rest 2), AV.bool true] true), (3, AO.cells (List.flatMap enc h) true), (14, AO.cells [] true), (15, AO.dead), (16, AO.cells [AV.int IntKind.i64 (Int.ofNat 0), AV.bool false] true), (17, AO.cells (List.flatMap enc h ++ [AV.int IntKind.i64 (Int.ofNat 0), AV.bool false]) true), (18, AO.cells [] true), (19, AO.cells (List.flatMap enc h ++ [AV.int IntKind.i64 (Int.ofNat 0), AV.bool false]) true), (20, AO.cells [AV.int IntKind.i64 (Int.ofNat 1), AV.bool true] true)] 21
noncomputable def vcE_0_s7 (vl : AV) (vm : AV) (o0 : AO) (o1 : AO) (h : H) (m : Nat) : ASt := mkSt [(0, o0), (1, o1), (2, AO.cells [AV.int IntKind.i64 (Int.ofNat 1), AV.bool true, AV.slice (some (17, 0)) (List.length h + 1) (Cap.rest 2), AV.bool true] true), (3, AO.cells (List.flatMap enc h) true), (14, AO.cells [] true), (15, AO.dead), (16, AO.cells [AV.int IntKind.i64 (Int.ofNat 0), AV.bool false] true), (17, AO.cells (List.flatMap enc h ++ [AV.int IntKind.i64 (Int.ofNat 0), AV.bool false]) true), (18, AO.cells [] true), (19, AO.dead), (20, AO.cells [AV.int IntKind.i64 (Int.ofNat 1), AV.bool true] true), (21, AO.cells (List.flatMap enc h ++ [AV.int IntKind.i64 (Int.ofNat 0), AV.bool false] ++ [AV.int IntKind.i64 (Int.ofNat 1), AV.bool true]) true)] 22
noncomputable def vcE_0_s8 (vl : AV) (vm : AV) (o0 : AO) (o1 : AO) (h : H) (m : Nat) : ASt := mkSt [(0, o0), (1, o1), (2, AO.cells [AV.int IntKind.i64 (Int.ofNat 1), AV.bool true, AV.slice (some (21, 0)) (List.length h + 1 + 1) (Cap.rest 2), AV.bool true] true), (3, AO.cells (List.flatMap enc h) true), (14, AO.cells [] true), (15, AO.dead), (16, AO.cells [AV.int IntKind.i64 (Int.ofNat 0), AV.bool false] true), (17, AO.cells (List.flatMap enc h ++ [AV.int IntKind.i64 (Int.ofNat 0), AV.bool false]) true), (18, AO.cells [] true), (19, AO.dead), (20, AO.cells [AV.int IntKind.i64 (Int.ofNat 1), AV.bool true] true), (21, AO.cells (List.flatMap enc h ++ [AV.int IntKind.i64 (Int.ofNat 0), AV.bool false] ++ [AV.int IntKind.i64 (Int.ofNat 1), AV.bool true]) true)] 22
theorem vcE_0 (vl : AV) (vm : AV) (o0 : AO) (o1 : AO) (h : H) (m : Nat) (Q : Exit × Option AV → Prop) :
  (aBuiltinM E Builtin.append [43, 43] [AV.slice (some (14, 0)) 0 (Cap.known 0), AV.slice (some (3, 0)) (List.length h) (Cap.rest 2)] (vcE_0_s0 vl vm o0 o1 h m) = some (AV.slice (some (15, 0)) (List.length h) (Cap.rest 2), vcE_0_s1 vl vm o0 o1 h m) ∧ aBuiltinM E Builtin.append [43, 43] [AV.slice (some (15, 0)) (List.length h) (Cap.rest 2), AV.slice (some (16, 0)) 1 (Cap.known 1)] (vcE_0_s2 vl vm o0 o1 h m) = some (AV.slice (some (17, 0)) (List.length h + 1) (Cap.rest 2), vcE_0_s3 vl vm o0 o1 h m) ∧ aBuiltinM E Builtin.append [43, 43] [AV.slice (some (18, 0)) 0 (Cap.known 0), AV.slice (some (17, 0)) (List.length h + 1) (Cap.rest 2)] (vcE_0_s4 vl vm o0 o1 h m) = some (AV.slice (some (19, 0)) (List.length h + 1) (Cap.rest 2), vcE_0_s5 vl vm o0 o1 h m) ∧ aBuiltinM E Builtin.append [43, 43] [AV.slice (some (19, 0)) (List.length h + 1) (Cap.rest 2), AV.slice (some (20, 0)) 1 (Cap.known 1)] (vcE_0_s6 vl vm o0 o1 h m) = some (AV.slice (some (21, 0)) (List.length h + 1 + 1) (Cap.rest 2), vcE_0_s7 vl vm o0 o1 h m) ∧ (M E (drawA E) sm 25).call 16 [AV.ptr (some (2, 0))] (vcE_0_s8 vl vm o0 o1 h m) = some (AV.int IntKind.i64 (Int.ofNat (List.length h + 1 + 1)), vcE_0_s8 vl vm o0 o1 h m) ∧ ifB (eqF (Int.ofNat (List.length h + 1 + 1)) (wrapF IntKind.i64 (Int.ofNat (List.length h) + Int.ofNat 2))) (Q (Exit.ret, some (AV.bool true))) (Q (Exit.ret, some (AV.bool false)))) =
  (tE_0 vl vm o0 o1 h m).allY (fun r => Q (r.1, ans (leaveA E Try.f4 r.2.1 r.2.2))) (An.v (AV.slice (some (15, 0)) (List.length h) (Cap.rest 2), vcE_0_s1 vl vm o0 o1 h m) (An.v (AV.slice (some (17, 0)) (List.length h + 1) (Cap.rest 2), vcE_0_s3 vl vm o0 o1 h m) (An.v (AV.slice (some (19, 0)) (List.length h + 1) (Cap.rest 2), vcE_0_s5 vl vm o0 o1 h m) (An.v (AV.slice (some (21, 0)) (List.length h + 1 + 1) (Cap.rest 2), vcE_0_s7 vl vm o0 o1 h m) (An.v (AV.int IntKind.i64 (Int.ofNat (List.length h + 1 + 1)), vcE_0_s8 vl vm o0 o1 h m) (An.b An.nil An.nil)))))) := by kernel_rfl
noncomputable def vcC_1_s0 (vl : AV) (vm : AV) (o0 : AO) (o1 : AO) (h : H) (i : Nat) (by_ : Int) (tk : Bool) : ASt := mkSt [(0, o0), (1, o1), (2, AO.cells [AV.int IntKind.i64 by_, AV.bool tk, AV.slice (some (3, 0)) (List.length h) (Cap.rest 2), AV.bool true] true), (3, AO.cells (List.flatMap enc h) true)] 4
noncomputable def vcC_1_s1 (vl : AV) (vm : AV) (o0 : AO) (o1 : AO) (h : H) (i : Nat) (by_ : Int) (tk : Bool) : ASt := mkSt [(0, o0), (1, o1), (2, AO.cells [AV.int IntKind.i64 (Int.ofNat 1), AV.bool true, AV.slice (some (3, 0)) (List.length h) (Cap.rest 2), AV.bool true] true), (3, AO.cells (List.flatMap enc h) true), (4, AO.cells [] true)] 5
noncomputable def vcC_1_s2 (vl : AV) (vm : AV) (o0 : AO) (o1 : AO) (h : H) (i : Nat) (by_ : Int) (tk : Bool) : ASt := mkSt [(0, o0), (1, o1), (2, AO.cells [AV.int IntKind.i64 (Int.ofNat 1), AV.bool true, AV.slice (some (3, 0)) (List.length h) (Cap.rest 2), AV.bool true] true), (3, AO.cells (List.flatMap enc h) true), (4, AO.cells [] true), (5, AO.cells (List.flatMap enc h) true)] 6
noncomputable def vcC_1_s3 (vl : AV) (vm : AV) (o0 : AO) (o1 : AO) (h : H) (i : Nat) (by_ : Int) (tk : Bool) : ASt := mkSt [(0, o0), (1, o1), (2, AO.cells [AV.int IntKind.i64 (Int.ofNat 1), AV.bool true, AV.slice (some (3, 0)) (List.length h) (Cap.rest 2), AV.bool true] true), (3, AO.cells (List.flatMap enc h) true), (4, AO.cells [] true), (5, AO.cells (List.flatMap enc h) true), (6, AO.cells [AV.int IntKind.i64 (Int.ofNat 1), AV.bool true] true)] 7
noncomputable def vcC_1_s4 (vl : AV) (vm : AV) (o0 : AO) (o1 : AO) (h : H) (i : Nat) (by_ : Int) (tk : Bool) : ASt := mkSt [(0, o0), (1, o1), (2, AO.cells [AV.int IntKind.i64 (Int.ofNat 1), AV.bool true, AV.slice (some (3, 0)) (List.length h) (Cap.rest 2), AV.bool true] true), (3, AO.cells (List.flatMap enc h) true), (4, AO.cells [] true), (5, AO.dead), (6, AO.cells [AV.int IntKind.i64 (Int.ofNat 1), AV.bool true] true), (7, AO.cells (List.flatMap enc h ++ [AV.int IntKind.i64 (Int.ofNat 1), AV.bool true]) true)] 8
noncomputable def vcC_1_s5 (vl : AV) (vm : AV) (o0 : AO) (o1 : AO) (h : H) (i : Nat) (by_ : Int) (tk : Bool) : ASt := mkSt [(0, o0), (1, o1), (2, AO.cells [AV.int IntKind.i64 (Int.ofNat 1), AV.bool true, AV.slice (some (7, 0)) (List.length h + 1) (Cap.rest 2), AV.bool true] true), (3, AO.cells (List.flatMap enc h) true), (4, AO.cells [] true), (5, AO.dead), (6, AO.cells [AV.int IntKind.i64 (Int.ofNat 1), AV.bool true] true), (7, AO.cells (List.flatMap enc h ++ [AV.int IntKind.i64 (Int.ofNat 1), AV.bool true]) true)] 8
theorem vcC_1 (vl : AV) (vm : AV) (o0 : AO) (o1 : AO) (h : H) (i : Nat) (by_ : Int) (tk : Bool) (Q : Exit × AFr × ASt → Prop) (Q2 : Exit × Option AV → Prop) :
  (ifB tk (ifB (!eqF by_ (Int.ofNat 1)) (ifB tk (ifB (eqF by_ (Int.ofNat 0)) (Q2 (Exit.ret, some (AV.bool true))) (Q2 (Exit.ret, some (AV.bool false)))) (Q2 (Exit.ret, some (AV.bool false)))) ((M E (drawA E) sm 28).call 16 [AV.ptr (some (2, 0))] (vcC_1_s0 vl vm o0 o1 h i by_ tk) = some (AV.int IntKind.i64 (Int.ofNat (List.length h)), vcC_1_s0 vl vm o0 o1 h i by_ tk) ∧ Q (Exit.normal, xFr [(0, vl), (1, vm), (2, AV.int IntKind.i64 (Int.ofNat 1)), (7, AV.ptr (some (2, 0))), (13, AV.int IntKind.i64 (Int.ofNat (List.length h)))] 184, vcC_1_s0 vl vm o0 o1 h i by_ tk))) (aBuiltinM E Builtin.append [43, 43] [AV.slice (some (4, 0)) 0 (Cap.known 0), AV.slice (some (3, 0)) (List.length h) (Cap.rest 2)] (vcC_1_s1 vl vm o0 o1 h i by_ tk) = some (AV.slice (some (5, 0)) (List.length h) (Cap.rest 2), vcC_1_s2 vl vm o0 o1 h i by_ tk) ∧ aBuiltinM E Builtin.append [43, 43] [AV.slice (some (5, 0)) (List.length h) (Cap.rest 2), AV.slice (some (6, 0)) 1 (Cap.known 1)] (vcC_1_s3 vl vm o0 o1 h i by_ tk) = some (AV.slice (some (7, 0)) (List.length h + 1) (Cap.rest 2), vcC_1_s4 vl vm o0 o1 h i by_ tk) ∧ (M E (drawA E) sm 28).call 16 [AV.ptr (some (2, 0))] (vcC_1_s5 vl vm o0 o1 h i by_ tk) = some (AV.int IntKind.i64 (Int.ofNat (List.length h + 1)), vcC_1_s5 vl vm o0 o1 h i by_ tk) ∧ Q (Exit.normal, xFr [(0, vl), (1, vm), (2, AV.int IntKind.i64 (Int.ofNat 1)), (7, AV.ptr (some (2, 0))), (13, AV.int IntKind.i64 (Int.ofNat (List.length h + 1)))] 184, vcC_1_s5 vl vm o0 o1 h i by_ tk))) =
  (tC_1 vl vm o0 o1 h i by_ tk).allY (mixQ E Try.f4 [0, 1, 2, 7, 13] [0, 1, 2, 3, 4, 5, 6, 7, 8] Q Q2) (An.b (An.b (An.b (An.b An.nil An.nil) An.nil) (An.v (AV.int IntKind.i64 (Int.ofNat (List.length h)), vcC_1_s0 vl vm o0 o1 h i by_ tk) An.nil)) (An.v (AV.slice (some (5, 0)) (List.length h) (Cap.rest 2), vcC_1_s2 vl vm o0 o1 h i by_ tk) (An.v (AV.slice (some (7, 0)) (List.length h + 1) (Cap.rest 2), vcC_1_s4 vl vm o0 o1 h i by_ tk) (An.v (AV.int IntKind.i64 (Int.ofNat (List.length h + 1)), vcC_1_s5 vl vm o0 o1 h i by_ tk) An.nil)))) := by kernel_rfl
noncomputable def vcC0_1_s0 (vl : AV) (vm : AV) (o0 : AO) (o1 : AO) (i : Nat) (by_ : Int) : ASt := mkSt [(0, o0), (1, o1), (2, AO.cells [AV.int IntKind.i64 (Int.ofNat 1), AV.bool true, AV.slice none 0 (Cap.known 0), AV.bool true] true), (3, AO.cells [AV.int IntKind.i64 (Int.ofNat 1), AV.bool true] true)] 4
noncomputable def vcC0_1_s1 (vl : AV) (vm : AV) (o0 : AO) (o1 : AO) (i : Nat) (by_ : Int) : ASt := mkSt [(0, o0), (1, o1), (2, AO.cells [AV.int IntKind.i64 (Int.ofNat 1), AV.bool true, AV.slice none 0 (Cap.known 0), AV.bool true] true), (3, AO.cells [AV.int IntKind.i64 (Int.ofNat 1), AV.bool true] true), (4, AO.cells [AV.int IntKind.i64 (Int.ofNat 1), AV.bool true] true)] 5
noncomputable def vcC0_1_s2 (vl : AV) (vm : AV) (o0 : AO) (o1 : AO) (i : Nat) (by_ : Int) : ASt := mkSt [(0, o0), (1, o1), (2, AO.cells [AV.int IntKind.i64 (Int.ofNat 1), AV.bool true, AV.slice (some (4, 0)) 1 (Cap.rest 2), AV.bool true] true), (3, AO.cells [AV.int IntKind.i64 (Int.ofNat 1), AV.bool true] true), (4, AO.cells [AV.int IntKind.i64 (Int.ofNat 1), AV.bool true] true)] 5
theorem vcC0_1 (vl : AV) (vm : AV) (o0 : AO) (o1 : AO) (i : Nat) (by_ : Int) (Q : Exit × AFr × ASt → Prop) (Q2 : Exit × Option AV → Prop) :
  (aBuiltinM E Builtin.append [43, 43] [AV.slice none 0 (Cap.known 0), AV.slice (some (3, 0)) 1 (Cap.known 1)] (vcC0_1_s0 vl vm o0 o1 i by_) = some (AV.slice (some (4, 0)) 1 (Cap.rest 2), vcC0_1_s1 vl vm o0 o1 i by_) ∧ (M E (drawA E) sm 28).call 16 [AV.ptr (some (2, 0))] (vcC0_1_s2 vl vm o0 o1 i by_) = some (AV.int IntKind.i64 (Int.ofNat 1), vcC0_1_s2 vl vm o0 o1 i by_) ∧ Q (Exit.normal, xFr [(0, vl), (1, vm), (2, AV.int IntKind.i64 (Int.ofNat 1)), (7, AV.ptr (some (2, 0))), (13, AV.int IntKind.i64 (Int.ofNat 1))] 184, vcC0_1_s2 vl vm o0 o1 i by_)) =
  (tC0_1 vl vm o0 o1 i by_).allY (mixQ E Try.f4 [0, 1, 2, 7, 13] [0, 1, 2, 3, 4, 5, 6, 7, 8] Q Q2) (An.b An.nil (An.v (AV.slice (some (4, 0)) 1 (Cap.rest 2), vcC0_1_s1 vl vm o0 o1 i by_) (An.v (AV.int IntKind.i64 (Int.ofNat 1), vcC0_1_s2 vl vm o0 o1 i by_) An.nil))) := by kernel_rfl
noncomputable def vcE_1_s0 (vl : AV) (vm : AV) (o0 : AO) (o1 : AO) (h : H) (m : Nat) : ASt := mkSt [(0, o0), (1, o1), (2, AO.cells [AV.int IntKind.i64 (Int.ofNat 0), AV.bool false, AV.slice (some (3, 0)) (List.length h) (Cap.rest 2), AV.bool true] true), (3, AO.cells (List.flatMap enc h) true), (14, AO.cells [] true)] 15
noncomputable def vcE_1_s1 (vl : AV) (vm : AV) (o0 : AO) (o1 : AO) (h : H) (m : Nat) : ASt := mkSt [(0, o0), (1, o1), (2, AO.cells [AV.int IntKind.i64 (Int.ofNat 0), AV.bool false, AV.slice (some (3, 0)) (List.length h) (Cap.rest 2), AV.bool true] true), (3, AO.cells (List.flatMap enc h) true), (14, AO.cells [] true), (15, AO.cells (List.flatMap enc h) true)] 16
noncomputable def vcE_1_s2 (vl : AV) (vm : AV) (o0 : AO) (o1 : AO) (h : H) (m : Nat) : ASt := mkSt [(0, o0), (1, o1), (2, AO.cells [AV.int IntKind.i64 (Int.ofNat 0), AV.bool false, AV.slice (some (3, 0)) (List.length h) (Cap.rest 2), AV.bool true] true), (3, AO.cells (List.flatMap enc h) true), (14, AO.cells [] true), (15, AO.cells (List.flatMap enc h) true), (16, AO.cells [AV.int IntKind.i64 (Int.ofNat 1), AV.bool false] true)] 17
noncomputable def vcE_1_s3 (vl : AV) (vm : AV) (o0 : AO) (o1 : AO) (h : H) (m : Nat) : ASt := mkSt [(0, o0), (1, o1), (2, AO.cells [AV.int IntKind.i64 (Int.ofNat 0), AV.bool false, AV.slice (some (3, 0)) (List.length h) (Cap.rest 2), AV.bool true] true), (3, AO.cells (List.flatMap enc h) true), (14, AO.cells [] true), (15, AO.dead), (16, AO.cells [AV.int IntKind.i64 (Int.ofNat 1), AV.bool false] true), (17, AO.cells (List.flatMap enc h ++ [AV.int IntKind.i64 (Int.ofNat 1), AV.bool false]) true)] 18
noncomputable def vcE_1_s4 (vl : AV) (vm : AV) (o0 : AO) (o1 : AO) (h : H) (m : Nat) : ASt := mkSt [(0, o0), (1, o1), (2, AO.cells [AV.int IntKind.i64 (Int.ofNat 0), AV.bool true, AV.slice (some (17, 0)) (List.length h + 1) (Cap.rest 2), AV.bool true] true), (3, AO.cells (List.flatMap enc h) true), (14, AO.cells [] true), (15, AO.dead), (16, AO.cells [AV.int IntKind.i64 (Int.ofNat 1), AV.bool false] true), (17, AO.cells (List.flatMap enc h ++ [AV.int IntKind.i64 (Int.ofNat 1), AV.bool false]) true), (18, AO.cells [] true)] 19
noncomputable def vcE_1_s5 (vl : AV) (vm : AV) (o0 : AO) (o1 : AO) (h : H) (m : Nat) : ASt := mkSt [(0, o0), (1, o1), (2, AO.cells [AV.int IntKind.i64 (Int.ofNat 0), AV.bool true, AV.slice (some (17, 0)) (List.length h + 1) (Cap.rest 2), AV.bool true] true), (3, AO.cells (List.flatMap enc h) true), (14, AO.cells [] true), (15, AO.dead), (16, AO.cells [AV.int IntKind.i64 (Int.ofNat 1), AV.bool false] true), (17, AO.cells (List.flatMap enc h ++ [AV.int IntKind.i64 (Int.ofNat 1), AV.bool false]) true), (18, AO.cells [] true), (19, AO.cells (List.flatMap enc h ++ [AV.int IntKind.i64 (Int.ofNat 1), AV.bool false]) true)] 20
noncomputable def vcE_1_s6 (vl : AV) (vm : AV) (o0 : AO) (o1 : AO) (h : H) (m : Nat) : ASt := mkSt [(0, o0), (1, o1), (2, AO.cells [AV.int IntKind.i64 (Int.ofNat 0), AV.bool true, AV.slice (some (17, 0)) (List.length h + 1) (Cap.rest 2), AV.bool true] true), (3, AO.cells (List.flatMap enc h) true), (14, AO.cells [] true), (15, AO.dead), (16, AO.cells [AV.int IntKind.i64 (Int.ofNat 1), AV.bool false] true), (17, AO.cells (List.flatMap enc h ++ [AV.int IntKind.i64 (Int.ofNat 1), AV.bool false]) true), (18, AO.cells [] true), (19, AO.cells (List.flatMap enc h ++ [AV.int IntKind.i64 (Int.ofNat 1), AV.bool false]) true), (20, AO.cells [AV.int IntKind.i64 (Int.ofNat 0), AV.bool true] true)] 21
noncomputable def vcE_1_s7 (vl : AV) (vm : AV) (o0 : AO) (o1 : AO) (h : H) (m : Nat) : ASt := mkSt [(0, o0), (1, o1), (2, AO.cells [AV.int IntKind.i64 (Int.ofNat 0), AV.bool true, AV.slice (some (17, 0)) (List.length h + 1) (Cap.rest 2), AV.bool true] true), (3, AO.cells (List.flatMap enc h) true), (14, AO.cells [] true), (15, AO.dead), (16, AO.cells [AV.int IntKind.i64 (Int.ofNat 1), AV.bool false] true), (17, AO.cells (List.flatMap enc h ++ [AV.int IntKind.i64 (Int.ofNat 1), AV.bool false]) true), (18, AO.cells [] true), (19, AO.dead), (20, AO.cells [AV.int IntKind.i64 (Int.ofNat 0), AV.bool true] true), (21, AO.cells (List.flatMap enc h ++ [AV.int IntKind.i64 (Int.ofNat 1), AV.bool false] ++ [AV.int IntKind.i64 (Int.ofNat 0), AV.bool true]) true)] 22
noncomputable def vcE_1_s8 (vl : AV) (vm : AV) (o0 : AO) (o1 : AO) (h : H) (m : Nat) : ASt := mkSt [(0, o0), (1, o1), (2, AO.cells [AV.int IntKind.i64 (Int.ofNat 0), AV.bool true, AV.slice (some (21, 0)) (List.length h + 1 + 1) (Cap.rest 2), AV.bool true] true), (3, AO.cells (List.flatMap enc h) true), (14, AO.cells [] true), (15, AO.dead), (16, AO.cells [AV.int IntKind.i64 (Int.ofNat 1), AV.bool false] true), (17, AO.cells (List.flatMap enc h ++ [AV.int IntKind.i64 (Int.ofNat 1), AV.bool false]) true), (18, AO.cells [] true), (19, AO.dead), (20, AO.cells [AV.int IntKind.i64 (Int.ofNat 0), AV.bool true] true), (21, AO.cells (List.flatMap enc h ++ [AV.int IntKind.i64 (Int.ofNat 1), AV.bool false] ++ [AV.int IntKind.i64 (Int.ofNat 0), AV.bool true]) true)] 22
theorem vcE_1 (vl : AV) (vm : AV) (o0 : AO) (o1 : AO) (h : H) (m : Nat) (Q : Exit × Option AV → Prop) :
  (aBuiltinM E Builtin.append [43, 43] [AV.slice (some (14, 0)) 0 (Cap.known 0), AV.slice (some (3, 0)) (List.length h) (Cap.rest 2)] (vcE_1_s0 vl vm o0 o1 h m) = some (AV.slice (some (15, 0)) (List.length h) (Cap.rest 2), vcE_1_s1 vl vm o0 o1 h m) ∧ aBuiltinM E Builtin.append [43, 43] [AV.slice (some (15, 0)) (List.length h) (Cap.rest 2), AV.slice (some (16, 0)) 1 (Cap.known 1)] (vcE_1_s2 vl vm o0 o1 h m) = some (AV.slice (some (17, 0)) (List.length h + 1) (Cap.rest 2), vcE_1_s3 vl vm o0 o1 h m) ∧ aBuiltinM E Builtin.append [43, 43] [AV.slice (some (18, 0)) 0 (Cap.known 0), AV.slice (some (17, 0)) (List.length h + 1) (Cap.rest 2)] (vcE_1_s4 vl vm o0 o1 h m) = some (AV.slice (some (19, 0)) (List.length h + 1) (Cap.rest 2), vcE_1_s5 vl vm o0 o1 h m) ∧ aBuiltinM E Builtin.append [43, 43] [AV.slice (some (19, 0)) (List.length h + 1) (Cap.rest 2), AV.slice (some (20, 0)) 1 (Cap.known 1)] (vcE_1_s6 vl vm o0 o1 h m) = some (AV.slice (some (21, 0)) (List.length h + 1 + 1) (Cap.rest 2), vcE_1_s7 vl vm o0 o1 h m) ∧ (M E (drawA E) sm 25).call 16 [AV.ptr (some (2, 0))] (vcE_1_s8 vl vm o0 o1 h m) = some (AV.int IntKind.i64 (Int.ofNat (List.length h + 1 + 1)), vcE_1_s8 vl vm o0 o1 h m) ∧ ifB (eqF (Int.ofNat (List.length h + 1 + 1)) (wrapF IntKind.i64 (Int.ofNat (List.length h) + Int.ofNat 2))) (Q (Exit.ret, some (AV.bool true))) (Q (Exit.ret, some (AV.bool false)))) =
  (tE_1 vl vm o0 o1 h m).allY (fun r => Q (r.1, ans (leaveA E Try.f4 r.2.1 r.2.2))) (An.v (AV.slice (some (15, 0)) (List.length h) (Cap.rest 2), vcE_1_s1 vl vm o0 o1 h m) (An.v (AV.slice (some (17, 0)) (List.length h + 1) (Cap.rest 2), vcE_1_s3 vl vm o0 o1 h m) (An.v (AV.slice (some (19, 0)) (List.length h + 1) (Cap.rest 2), vcE_1_s5 vl vm o0 o1 h m) (An.v (AV.slice (some (21, 0)) (List.length h + 1 + 1) (Cap.rest 2), vcE_1_s7 vl vm o0 o1 h m) (An.v (AV.int IntKind.i64 (Int.ofNat (List.length h + 1 + 1)), vcE_1_s8 vl vm o0 o1 h m) (An.b An.nil An.nil)))))) := by kernel_rfl
noncomputable def vcC17_s0 (vl : AV) (vm : AV) (o0 : AO) (o1 : AO) (h : H) (nd : Int) : ASt := mkSt [(0, o0), (1, o1), (2, AO.cells [AV.int IntKind.i64 nd, AV.bool true, AV.slice (some (3, 0)) (List.length h) (Cap.rest 2), AV.bool true] true), (3, AO.cells (List.flatMap enc h) true)] 4
theorem vcC17 (vl : AV) (vm : AV) (o0 : AO) (o1 : AO) (h : H) (nd : Int) (Q : Exit × AFr × ASt → Prop) :
  (Q (Exit.normal, xFr [(0, vl), (1, vm), (2, AV.int IntKind.i64 nd), (7, AV.ptr (some (2, 0))), (13, AV.int IntKind.i64 (Int.ofNat (List.length h))), (14, AV.int IntKind.i64 (Int.ofNat 0))] 184, vcC17_s0 vl vm o0 o1 h nd)) =
  (tC17 vl vm o0 o1 h nd).allY (fun r => Q (canR [0, 1, 2, 7, 13, 14] [0, 1, 2, 3] r)) (An.nil) := by kernel_rfl
noncomputable def vcD_0_s0 (vl : AV) (vm : AV) (o0 : AO) (o1 : AO) (h : H) (m : Nat) (j : Nat) (tx : Bool) : ASt := mkSt [(0, o0), (1, o1), (2, AO.cells [AV.int IntKind.i64 (Int.ofNat 0), AV.bool true, AV.slice (some (3, 0)) (List.length h) (Cap.rest 2), AV.bool true] true), (3, AO.cells (List.flatMap enc h) true)] 4
theorem vcD_0 (vl : AV) (vm : AV) (o0 : AO) (o1 : AO) (h : H) (m : Nat) (j : Nat) (tx : Bool) (Q : Exit × AFr × ASt → Prop) :
  (aBuiltinM E Builtin.len [39] [vm] (vcD_0_s0 vl vm o0 o1 h m j tx) = some (AV.int IntKind.i64 (Int.ofNat m), vcD_0_s0 vl vm o0 o1 h m j tx) ∧ ifB (ltF (Int.ofNat j) (Int.ofNat m)) (still (vcD_0_s0 vl vm o0 o1 h m j tx) (aIndexAddr E 39 vm (AV.int IntKind.i64 (Int.ofNat j))) = some (AV.ptr (some (1, 0 + j * 1)), vcD_0_s0 vl vm o0 o1 h m j tx) ∧ aLoad E 4 (AV.ptr (some (1, 0 + j * 1))) (vcD_0_s0 vl vm o0 o1 h m j tx) = some (AV.bool tx, vcD_0_s0 vl vm o0 o1 h m j tx) ∧ ifB tx (Q (Exit.normal, xFr [(0, vl), (1, vm), (2, AV.int IntKind.i64 (Int.ofNat 0)), (7, AV.ptr (some (2, 0))), (13, AV.int IntKind.i64 (Int.ofNat (List.length h))), (14, AV.int IntKind.i64 (wrapF IntKind.i64 (Int.ofNat j + Int.ofNat 1)))] 184, vcD_0_s0 vl vm o0 o1 h m j tx)) (Q (Exit.normal, xFr [(0, vl), (1, vm), (2, AV.int IntKind.i64 (Int.ofNat 0)), (7, AV.ptr (some (2, 0))), (13, AV.int IntKind.i64 (Int.ofNat (List.length h))), (14, AV.int IntKind.i64 (wrapF IntKind.i64 (Int.ofNat j + Int.ofNat 1)))] 184, vcD_0_s0 vl vm o0 o1 h m j tx))) (Q (Exit.exit 2, xFr [(0, vl), (1, vm), (2, AV.int IntKind.i64 (Int.ofNat 0)), (7, AV.ptr (some (2, 0))), (13, AV.int IntKind.i64 (Int.ofNat (List.length h))), (14, AV.int IntKind.i64 (Int.ofNat j))] 184, vcD_0_s0 vl vm o0 o1 h m j tx))) =
  (tD_0 vl vm o0 o1 h m j tx).allY (fun r => Q (canR [0, 1, 2, 7, 13, 14] [0, 1, 2, 3] r)) (An.v (AV.int IntKind.i64 (Int.ofNat m), vcD_0_s0 vl vm o0 o1 h m j tx) (An.b (An.v (AV.ptr (some (1, 0 + j * 1)), vcD_0_s0 vl vm o0 o1 h m j tx) (An.v (AV.bool tx, vcD_0_s0 vl vm o0 o1 h m j tx) (An.b An.nil An.nil))) An.nil)) := by kernel_rfl
noncomputable def vcD_1_s0 (vl : AV) (vm : AV) (o0 : AO) (o1 : AO) (h : H) (m : Nat) (j : Nat) (tx : Bool) : ASt := mkSt [(0, o0), (1, o1), (2, AO.cells [AV.int IntKind.i64 (Int.ofNat 1), AV.bool true, AV.slice (some (3, 0)) (List.length h) (Cap.rest 2), AV.bool true] true), (3, AO.cells (List.flatMap enc h) true)] 4
theorem vcD_1 (vl : AV) (vm : AV) (o0 : AO) (o1 : AO) (h : H) (m : Nat) (j : Nat) (tx : Bool) (Q : Exit × AFr × ASt → Prop) :
  (aBuiltinM E Builtin.len [39] [vm] (vcD_1_s0 vl vm o0 o1 h m j tx) = some (AV.int IntKind.i64 (Int.ofNat m), vcD_1_s0 vl vm o0 o1 h m j tx) ∧ ifB (ltF (Int.ofNat j) (Int.ofNat m)) (still (vcD_1_s0 vl vm o0 o1 h m j tx) (aIndexAddr E 39 vm (AV.int IntKind.i64 (Int.ofNat j))) = some (AV.ptr (some (1, 0 + j * 1)), vcD_1_s0 vl vm o0 o1 h m j tx) ∧ aLoad E 4 (AV.ptr (some (1, 0 + j * 1))) (vcD_1_s0 vl vm o0 o1 h m j tx) = some (AV.bool tx, vcD_1_s0 vl vm o0 o1 h m j tx) ∧ ifB tx (Q (Exit.normal, xFr [(0, vl), (1, vm), (2, AV.int IntKind.i64 (Int.ofNat 1)), (7, AV.ptr (some (2, 0))), (13, AV.int IntKind.i64 (Int.ofNat (List.length h))), (14, AV.int IntKind.i64 (wrapF IntKind.i64 (Int.ofNat j + Int.ofNat 1)))] 184, vcD_1_s0 vl vm o0 o1 h m j tx)) (Q (Exit.normal, xFr [(0, vl), (1, vm), (2, AV.int IntKind.i64 (Int.ofNat 1)), (7, AV.ptr (some (2, 0))), (13, AV.int IntKind.i64 (Int.ofNat (List.length h))), (14, AV.int IntKind.i64 (wrapF IntKind.i64 (Int.ofNat j + Int.ofNat 1)))] 184, vcD_1_s0 vl vm o0 o1 h m j tx))) (Q (Exit.exit 2, xFr [(0, vl), (1, vm), (2, AV.int IntKind.i64 (Int.ofNat 1)), (7, AV.ptr (some (2, 0))), (13, AV.int IntKind.i64 (Int.ofNat (List.length h))), (14, AV.int IntKind.i64 (Int.ofNat j))] 184, vcD_1_s0 vl vm o0 o1 h m j tx))) =
  (tD_1 vl vm o0 o1 h m j tx).allY (fun r => Q (canR [0, 1, 2, 7, 13, 14] [0, 1, 2, 3] r)) (An.v (AV.int IntKind.i64 (Int.ofNat m), vcD_1_s0 vl vm o0 o1 h m j tx) (An.b (An.v (AV.ptr (some (1, 0 + j * 1)), vcD_1_s0 vl vm o0 o1 h m j tx) (An.v (AV.bool tx, vcD_1_s0 vl vm o0 o1 h m j tx) (An.b An.nil An.nil))) An.nil)) := by kernel_rfl

theorem sl22 : sliceT E 22 = some 2 := by kernel_rfl
theorem sl39 : sliceT E 39 = some 1 := by kernel_rfl
theorem ce4 : cellT E 4 = true := by kernel_rfl
theorem ce3 : cellT E 3 = true := by kernel_rfl
theorem ap43 : appT E 43 43 = some (2, 16) := by kernel_rfl

/-! ### What has happened: takings and releases; whoever has the grant is a node -/
def Inv (h : H) (by_ : Int) (tk : Bool) : Prop := tk = true → (by_ = 0 ∨ by_ = 1) ∧ h ≠ []

section
variable {vl vm : AV} {o0 o1 : AO} {l : H} {ms : List Bool} {nd : Int}

noncomputable def stJ (o0 o1 : AO) (h : H) (by_ : Int) (tk : Bool) : ASt := match h with | [] => stI0 o0 o1 by_ tk | _ :: _ => stI o0 o1 h by_ tk
theorem stJ_cons (o0 o1 : AO) (h : H) (g : Int × Bool) (by_ : Int) (tk : Bool) : stJ o0 o1 (h ++ [g]) by_ tk = stI o0 o1 (h ++ [g]) by_ tk := by
  cases h <;> rfl

/-- frames with open arguments -/
theorem frE_H {ids : List Nat} (hp : preB 2 0 ids = true) (h2 : idxN ids 2 0 = some 2) (kl : KeptV 2 vl) (km : KeptV 2 vm) (x : List (Nat × AV)) (hx : ∀ p, p ∈ x → p.1 < 184 ∧ lkp p.1 ([(0, vl), (1, vm), (2, .int .i64 nd), (7, .ptr (some (2, 0)))] ++ x) = p.2 ∧ renV ids p.2 = some p.2) :
    frE ids (frH vl vm nd x) (List.map (fun p : Nat × AV => p.1) ([(0, vl), (1, vm), (2, .int .i64 nd), (7, .ptr (some (2, 0)))] ++ x)) = some ([(0, vl), (1, vm), (2, .int .i64 nd), (7, .ptr (some (2, 0)))] ++ x) := by
  refine frE_xFr fun p hp' => ?_
  rcases List.mem_append.1 hp' with h | h
  · simp only [List.mem_cons, List.not_mem_nil, or_false] at h
    rcases h with rfl | rfl | rfl | rfl
    · exact ⟨by simp, rfl, kl ids hp⟩
    · exact ⟨by simp, rfl, km ids hp⟩
    · exact ⟨by simp, rfl, rfl⟩
    · exact ⟨by simp, rfl, by simp only [renV, h2]⟩
  · exact hx p h

theorem toJ {h : H} {x y : Int} {b tk : Bool} {S : ASt} {xs : List (Nat × AV)} (k : Nat) (hn : noDup [0, 1, 2, k] = true) (h5 : idxN [0, 1, 2, k] k 0 = some 3) (kl : KeptV 2 vl) (km : KeptV 2 vm)
    (hx : ∀ p, p ∈ xs → p.1 < 184 ∧ lkp p.1 ([(0, vl), (1, vm), (2, .int .i64 nd), (7, .ptr (some (2, 0)))] ++ xs) = p.2 ∧ renV [0, 1, 2, k] p.2 = some p.2)
    (c0 : Came o0) (c1 : Came o1) (h0 : S.h.get 0 = some o0) (h1 : S.h.get 1 = some o1)
    (h2 : S.h.get 2 = some (.cells [.int .i64 y, .bool tk, .slice (some (k, 0)) (h.length + 1) (.rest 2), .bool true] true)) (h3 : S.h.get k = some (.cells (h.flatMap enc ++ [.int .i64 x, .bool b]) true)) :
    Wk 2 (frH vl vm nd xs) S (frH vl vm nd xs) (stI o0 o1 (h ++ [(x, b)]) y tk) := by
  unfold stI
  have e1 : (h ++ [(x, b)]).length = h.length + 1 := by simp
  have e2 : (h ++ [(x, b)]).flatMap enc = h.flatMap enc ++ [.int .i64 x, .bool b] := by simp [enc]
  rw [e1, e2]
  refine Wk.heldX [0, 1, 2, k] rfl hn _ (frE_H rfl rfl kl km xs hx) (StP.came c0 rfl h0 <| StP.came c1 rfl h1 <| .cons 2 _ rfl h2 (RenO.of ?_) <| .cons k _ rfl h3 (RenO.row ?_) .nil)
  · simp [renO, allR, mapR, renT, renV, h5, arbA]
  · intro c hc
    rcases List.mem_append.1 hc with hc | hc
    · exact encRef h c hc
    · simp at hc; rcases hc with rfl | rfl <;> simp [refsV]

theorem one_mem {ids : List Nat} {k : Nat} {z : Int} (hk : k = 8 ∨ k = 13) : ∀ p, p ∈ [(k, AV.int .i64 z)] → p.1 < 184 ∧ lkp p.1 ([(0, vl), (1, vm), (2, .int .i64 nd), (7, .ptr (some (2, 0)))] ++ [(k, AV.int .i64 z)]) = p.2 ∧ renV ids p.2 = some p.2 := fun p hp => by
  simp only [List.mem_cons, List.not_mem_nil, or_false] at hp
  subst hp
  rcases hk with rfl | rfl <;> exact ⟨by simp, rfl, rfl⟩

noncomputable def frB (vl vm : AV) (nd : Int) (i : Nat) : AFr := frH vl vm nd [(8, .int .i64 (.ofNat i))]
def RndQ (vl vm : AV) (o0 o1 : AO) (nd : Int) (n i : Nat) (J : ASt) (r : Exit × AFr × ASt) : Prop :=
  (i < n ∧ ∃ h by_ tk, h.length ≤ i + 1 ∧ Inv h by_ tk ∧ Stops 2 .normal (frB vl vm nd (i + 1)) (stJ o0 o1 h by_ tk) r) ∨ (i = n ∧ Stops 2 (.exit 0) (frB vl vm nd i) J r)
theorem RndQ.can {n i : Nat} {J : ASt} {kf ko : List Nat} {r : Exit × AFr × ASt} (h : RndQ vl vm o0 o1 nd n i J (canR kf ko r)) : RndQ vl vm o0 o1 nd n i J r := by
  rcases h with ⟨h1, h, b, t, h2, h3, h4⟩ | h
  · exact .inl ⟨h1, h, b, t, h2, h3, h4.can⟩
  · exact .inr ⟨h.1, h.2.can⟩

theorem app1 {h : H} {n p q : Nat} {cs : List AV} (hn : cs.length = n * 2) (h1 : 0 < n) (hh : n ≤ 1000) (S : ASt) (g3 : S.h.get q = some (.cells cs true)) (g4 : S.h.get p = some (.cells [] true)) :
    aBuiltinM E .append [43, 43] [.slice (some (p, 0)) 0 (.known 0), .slice (some (q, 0)) n (.rest 2)] S = some (.slice (some (S.next, 0)) n (.rest 2), S.add (.cells cs true)) :=
  append_zero_at ap43 rfl (first_at g3 (by rw [← hn]; unfold takeL; simp)) g4 h1 (by omega) (by omega)
theorem app2 {n p q : Nat} {cs : List AV} (hn : cs.length = n * 2) (hh : n ≤ 1000) (S : ASt) (v : List AV) (hv : v.length = 2) (g5 : S.h.get p = some (.cells cs true)) (g6 : S.h.get q = some (.cells v true)) :
    aBuiltinM E .append [43, 43] [.slice (some (p, 0)) n (.rest 2), .slice (some (q, 0)) 1 (.known 1)] S = some (.slice (some (S.next, 0)) (n + 1) (.rest 2), (S.put p .dead).add (.cells (cs ++ v) true)) :=
  append_grow_at ap43 rfl (first_at g6 (by obtain ⟨a, b, rfl⟩ : ∃ a b, v = [a, b] := (by match v, hv with | [a, b], _ => exact ⟨a, b, rfl⟩); rfl)) g5 hn (by omega) (by omega) (by omega) (by omega)


theorem round1 (hs : CallsOK Try.prog sm) (hE : Env.Ok Try.prog E) (SL : SlArg E 22 2 0 l.length vl o0 (l.flatMap enc)) (c0 : Came o0) (c1 : Came o1) (kl : KeptV 2 vl) (km : KeptV 2 vm) {h : H} {i : Nat} {by_ : Int} {tk : Bool} (hn : l.length ≤ 60) (hi : i ≤ l.length) (hh : h.length ≤ i) (h1 : 0 < h.length) (hinv : Inv h by_ tk) :
    Trip Try.prog 2 none B1 (frB vl vm nd i) (stI o0 o1 h by_ tk) (RndQ vl vm o0 o1 nd l.length i (stI o0 o1 h by_ tk)) := by
  have go : ∀ x tx, (i < l.length → l[i]? = some (x, tx)) → Trip Try.prog 2 none B1 (frB vl vm nd i) (stI o0 o1 h by_ tk) fun r => RndQ vl vm o0 o1 nd l.length i (stI o0 o1 h by_ tk) (canR [0, 1, 2, 7, 8] [0, 1, 2, 3, 4, 5, 6, 7, 8] r) := fun x tx hx => by
    refine Trip.runY hE hs (Eq.mp (vcB vl vm o0 o1 h l.length i nd by_ tk x tx (RndQ vl vm o0 o1 nd l.length i (stI o0 o1 h by_ tk))) ?_)
    have hw := wrap_succ (i := i) (by omega)
    rw [hw]
    have hst : vcB_s0 vl vm o0 o1 h l.length i nd by_ tk x tx = stI o0 o1 h by_ tk := rfl
    have hJ : stJ o0 o1 h by_ tk = stI o0 o1 h by_ tk := by cases h with | nil => simp at h1 | cons _ _ => rfl
    refine ⟨SL.len _, ifB_mk (fun hlt => ?_) (fun hge => ?_)⟩
    · rw [ltF_nn] at hlt
      have hlt : i < l.length := by simpa using hlt
      have hxi := hx hlt
      have ho := SL.obj (by omega)
      have hstay : RndQ vl vm o0 o1 nd l.length i (stI o0 o1 h by_ tk) (.normal, frB vl vm nd (i + 1), stI o0 o1 h by_ tk) := .inl ⟨hlt, h, by_, tk, by omega, hinv, rfl, by rw [hJ]; exact Wk.refl _ _ _⟩
      have ld3 : aLoad E 3 (.ptr (some (0, 0 + i * 2 + 0))) (stI o0 o1 h by_ tk) = some (.int .i64 x, stI o0 o1 h by_ tk) := load_at (rw := false) (cs := l.flatMap enc) ce3 (by rw [← ho]; kernel_rfl) (by rw [Nat.zero_add]; exact fm_get encLen hxi rfl)
      have ld4 : aLoad E 4 (.ptr (some (0, 0 + i * 2 + 1))) (stI o0 o1 h by_ tk) = some (.bool tx, stI o0 o1 h by_ tk) := load_at (rw := false) (cs := l.flatMap enc) ce4 (by rw [← ho]; kernel_rfl) (by rw [Nat.zero_add]; exact fm_get encLen hxi rfl)
      refine ⟨still_of (SL.idx i _ hlt), by rw [hst]; exact ld4, ifB_mk (fun ht => ?_) (fun ht => ?_)⟩
      · subst ht
        refine ⟨still_of (SL.idx i _ hlt), by rw [hst]; exact ld3, ?_⟩
        refine ifB_mk (fun e0 => ifB_mk (fun e1 => hstay) (fun e1 => ?_)) (fun e0 => ?_)
        all_goals
          have h01 : x = 0 ∨ x = 1 := by first | exact .inl (neqF_f e0) | exact .inr (neqF_f e1)
          refine ifB_mk (fun htk => ifB_mk (fun _ => hstay) (fun _ => hstay)) (fun htk => ?_)
          subst htk
          refine ⟨(app1 (h := h) (fm_len encLen h) h1 (by omega) _ (by kernel_rfl) (by kernel_rfl)).trans (by kernel_rfl), (app2 (fm_len encLen h) (by omega) _ [.int .i64 x, .bool true] rfl (by kernel_rfl) (by kernel_rfl)).trans (by kernel_rfl),
            .inl ⟨hlt, h ++ [(x, true)], x, true, by simp; omega, fun _ => ⟨h01, by simp⟩, rfl, ?_⟩⟩
          rw [stJ_cons]
          exact toJ 7 rfl rfl kl km (one_mem (.inl rfl)) c0 c1 (by kernel_rfl) (by kernel_rfl) (by kernel_rfl) (by kernel_rfl)
      · subst ht
        refine ⟨still_of (SL.idx i _ hlt), by rw [hst]; exact ld3, ?_⟩
        refine ifB_mk (fun e0 => ifB_mk (fun e1 => hstay) (fun e1 => ?_)) (fun e0 => ?_)
        all_goals
          refine ifB_mk (fun htk => ifB_mk (fun _ => hstay) (fun hb => ?_)) (fun htk => hstay)
          subst htk
          refine ⟨(app1 (h := h) (fm_len encLen h) h1 (by omega) _ (by kernel_rfl) (by kernel_rfl)).trans (by kernel_rfl), (app2 (fm_len encLen h) (by omega) _ [.int .i64 x, .bool false] rfl (by kernel_rfl) (by kernel_rfl)).trans (by kernel_rfl),
            .inl ⟨hlt, h ++ [(x, false)], 0, false, by simp; omega, (fun e => by cases e), rfl, ?_⟩⟩
          rw [stJ_cons]
          exact toJ 7 rfl rfl kl km (one_mem (.inl rfl)) c0 c1 (by kernel_rfl) (by kernel_rfl) (by kernel_rfl) (by kernel_rfl)
    · rw [ltF_nn] at hge
      have : i = l.length := by simp at hge; omega
      exact .inr ⟨this, rfl, Wk.refl _ _ _⟩
  by_cases hlt : i < l.length
  · exact (go l[i].1 l[i].2 (fun _ => by simp [hlt])).mono fun r hr => hr.can
  · exact (go 0 true (fun h => absurd h hlt)).mono fun r hr => hr.can

theorem app0 (S : ASt) (q : Nat) (v : List AV) (hv : v.length = 2) (g : S.h.get q = some (.cells v true)) : aBuiltinM E .append [43, 43] [.slice none 0 (.known 0), .slice (some (q, 0)) 1 (.known 1)] S = some (.slice (some (S.next, 0)) 1 (.rest 2), S.add (.cells v true)) :=
  append_nil_at ap43 rfl (first_at g (by obtain ⟨a, b, rfl⟩ : ∃ a b, v = [a, b] := (by match v, hv with | [a, b], _ => exact ⟨a, b, rfl⟩); rfl)) (by omega) (by omega) (by omega)

theorem round0 (hs : CallsOK Try.prog sm) (hE : Env.Ok Try.prog E) (SL : SlArg E 22 2 0 l.length vl o0 (l.flatMap enc)) (c0 : Came o0) (c1 : Came o1) (kl : KeptV 2 vl) (km : KeptV 2 vm) {i : Nat} {by_ : Int} (hn : l.length ≤ 60) (hi : i ≤ l.length) :
    Trip Try.prog 2 none B1 (frB vl vm nd i) (stI0 o0 o1 by_ false) (RndQ vl vm o0 o1 nd l.length i (stI0 o0 o1 by_ false)) := by
  have go : ∀ x tx, (i < l.length → l[i]? = some (x, tx)) → Trip Try.prog 2 none B1 (frB vl vm nd i) (stI0 o0 o1 by_ false) fun r => RndQ vl vm o0 o1 nd l.length i (stI0 o0 o1 by_ false) (canR [0, 1, 2, 7, 8] [0, 1, 2, 3, 4, 5, 6, 7, 8] r) := fun x tx hx => by
    refine Trip.runY hE hs (Eq.mp (vcB0 vl vm o0 o1 l.length i nd by_ false x tx (RndQ vl vm o0 o1 nd l.length i (stI0 o0 o1 by_ false))) ?_)
    have hw := wrap_succ (i := i) (by omega)
    rw [hw]
    have hst : vcB0_s0 vl vm o0 o1 l.length i nd by_ false x tx = stI0 o0 o1 by_ false := rfl
    refine ⟨SL.len _, ifB_mk (fun hlt => ?_) (fun hge => ?_)⟩
    · rw [ltF_nn] at hlt
      have hlt : i < l.length := by simpa using hlt
      have hxi := hx hlt
      have ho := SL.obj (by omega)
      have hstay : RndQ vl vm o0 o1 nd l.length i (stI0 o0 o1 by_ false) (.normal, frB vl vm nd (i + 1), stI0 o0 o1 by_ false) := .inl ⟨hlt, [], by_, false, by simp, (fun e => by cases e), rfl, Wk.refl _ _ _⟩
      have ld3 : aLoad E 3 (.ptr (some (0, 0 + i * 2 + 0))) (stI0 o0 o1 by_ false) = some (.int .i64 x, stI0 o0 o1 by_ false) := load_at (rw := false) (cs := l.flatMap enc) ce3 (by rw [← ho]; kernel_rfl) (by rw [Nat.zero_add]; exact fm_get encLen hxi rfl)
      have ld4 : aLoad E 4 (.ptr (some (0, 0 + i * 2 + 1))) (stI0 o0 o1 by_ false) = some (.bool tx, stI0 o0 o1 by_ false) := load_at (rw := false) (cs := l.flatMap enc) ce4 (by rw [← ho]; kernel_rfl) (by rw [Nat.zero_add]; exact fm_get encLen hxi rfl)
      refine ⟨still_of (SL.idx i _ hlt), by rw [hst]; exact ld4, ifB_mk (fun ht => ?_) (fun ht => ?_)⟩
      · subst ht
        refine ⟨still_of (SL.idx i _ hlt), by rw [hst]; exact ld3, ?_⟩
        refine ifB_mk (fun e0 => ifB_mk (fun e1 => hstay) (fun e1 => ?_)) (fun e0 => ?_)
        all_goals
          have h01 : x = 0 ∨ x = 1 := by first | exact .inl (neqF_f e0) | exact .inr (neqF_f e1)
          refine ifB_mk (fun htk => by cases htk) (fun _ => ?_)
          refine ⟨(app0 _ 3 [.int .i64 x, .bool true] rfl (by kernel_rfl)).trans (by kernel_rfl), .inl ⟨hlt, [] ++ [(x, true)], x, true, by simp, fun _ => ⟨h01, by simp⟩, rfl, ?_⟩⟩
          rw [stJ_cons]
          exact toJ (h := []) 4 rfl rfl kl km (one_mem (.inl rfl)) c0 c1 (by kernel_rfl) (by kernel_rfl) (by kernel_rfl) (by kernel_rfl)
      · subst ht
        refine ⟨still_of (SL.idx i _ hlt), by rw [hst]; exact ld3, ?_⟩
        refine ifB_mk (fun e0 => ifB_mk (fun e1 => hstay) (fun e1 => ?_)) (fun e0 => ?_)
        all_goals
          exact ifB_mk (fun htk => by cases htk) (fun _ => hstay)
    · rw [ltF_nn] at hge
      have : i = l.length := by simp at hge; omega
      exact .inr ⟨this, rfl, Wk.refl _ _ _⟩
  by_cases hlt : i < l.length
  · exact (go l[i].1 l[i].2 (fun _ => by simp [hlt])).mono fun r hr => hr.can
  · exact (go 0 true (fun h => absurd h hlt)).mono fun r hr => hr.can


theorem loop1 (hs : CallsOK Try.prog sm) (hE : Env.Ok Try.prog E) (SL : SlArg E 22 2 0 l.length vl o0 (l.flatMap enc)) (c0 : Came o0) (c1 : Came o1) (kl : KeptV 2 vl) (km : KeptV 2 vm) (hn : l.length ≤ 60) :
    Trip Try.prog 2 none (.block 0 (.loop B1)) (frB vl vm nd 0) (stJ o0 o1 [] 0 false) fun r => ∃ h by_ tk, h.length ≤ l.length ∧ Inv h by_ tk ∧ Stops 2 .normal (frB vl vm nd l.length) (stJ o0 o1 h by_ tk) r := by
  refine Trip.block (Trip.loop (fun m fr st => ∃ i h by_ tk, i ≤ l.length ∧ m = l.length - i ∧ h.length ≤ i ∧ Inv h by_ tk ∧ fr = frB vl vm nd i ∧ st = stJ o0 o1 h by_ tk) ?_ l.length ⟨0, [], 0, false, by omega, by omega, by simp, (fun e => by cases e), rfl, rfl⟩)
  rintro m fr st ⟨i, h, by_, tk, hi, rfl, hh, hinv, rfl, rfl⟩
  have key : Trip Try.prog 2 none B1 (frB vl vm nd i) (stJ o0 o1 h by_ tk) (RndQ vl vm o0 o1 nd l.length i (stJ o0 o1 h by_ tk)) := by
    cases h with
    | nil =>
      cases tk with
      | true => exact absurd rfl (hinv rfl).2
      | false => exact round0 hs hE SL c0 c1 kl km hn hi
    | cons g h => exact round1 hs hE SL c0 c1 kl km hn hi hh (by simp) hinv
  refine key.mono ?_
  rintro ⟨e, fr', st'⟩ (⟨hlt, h2, b2, t2, hh2, hi2, he, hw⟩ | ⟨heq, he, hw⟩)
  · simp only at he hw
    subst he
    exact ⟨l.length - (i + 1), _, _, by omega, hw, i + 1, h2, b2, t2, by omega, rfl, hh2, hi2, rfl, rfl⟩
  · simp only at he hw
    subst he
    rw [heq] at hw
    exact ⟨fun _ => ⟨h, by_, tk, by omega, hinv, rfl, hw⟩, fun h => absurd rfl h⟩

/-! ### Behind the first loop -/
def LawQ (r : Exit × AFr × ASt) : Prop := (r.1 = .normal ∨ r.1 = .ret) ∧ ans (leaveA E Try.f4 r.2.1 r.2.2) = some (.bool true)
def OkA (q : Exit × Option AV) : Prop := (q.1 = .normal ∨ q.1 = .ret) ∧ q.2 = some (.bool true)
noncomputable def frC (vl vm : AV) (nd : Int) (n : Nat) : AFr := frH vl vm nd [(13, .int .i64 (.ofNat n))]
noncomputable def frD (vl vm : AV) (nd : Int) (n j : Nat) : AFr := frH vl vm nd [(13, .int .i64 (.ofNat n)), (14, .int .i64 (.ofNat j))]
/-- the node has the grant -/
def Has (vl vm : AV) (o0 o1 : AO) (nd : Int) (r : Exit × AFr × ASt) : Prop := ∃ h : H, 0 < h.length ∧ h.length ≤ 61 ∧ Stops 2 .normal (frC vl vm nd h.length) (stI o0 o1 h nd true) r
theorem Has.can {kf ko : List Nat} {r : Exit × AFr × ASt} (h : Has vl vm o0 o1 nd (canR kf ko r)) : Has vl vm o0 o1 nd r := by
  obtain ⟨h, h1, h2, h3⟩ := h
  exact ⟨h, h1, h2, h3.can⟩

theorem take1_0 (hs : CallsOK Try.prog sm) (hE : Env.Ok Try.prog E) (c0 : Came o0) (c1 : Came o1) (kl : KeptV 2 vl) (km : KeptV 2 vm) {h : H} {i : Nat} {by_ : Int} {tk : Bool} (h1 : 0 < h.length) (hh : h.length ≤ 60) (hinv : Inv h by_ tk)
    (hrest : ∀ h : H, 0 < h.length → h.length ≤ 61 → Trip Try.prog 2 none rC (frC vl vm (.ofNat 0) h.length) (stI o0 o1 h (.ofNat 0) true) LawQ) : Trip Try.prog 2 none rB (frB vl vm (.ofNat 0) i) (stI o0 o1 h by_ tk) LawQ := by
  have hv : (tC_0 vl vm o0 o1 h i by_ tk).allY (mixQ E Try.f4 [0, 1, 2, 7, 13] [0, 1, 2, 3, 4, 5, 6, 7, 8] (Has vl vm o0 o1 (.ofNat 0)) OkA) _ := Eq.mp (vcC_0 vl vm o0 o1 h i by_ tk _ _) (by
    refine ifB_mk (fun ht => ifB_mk (fun hb => ifB_mk (fun _ => ifB_mk (fun _ => ⟨.inr rfl, rfl⟩) (fun he => ?_)) (fun hf => by rw [ht] at hf; cases hf)) (fun hb => ?_)) (fun ht => ?_)
    · have := (hinv ht).1
      have h2 := neqF_t hb
      have h3 := eqF_f he
      exfalso
      rcases this with e | e <;> subst e <;> first | exact h2 rfl | exact h3 rfl
    · have hb := neqF_f hb
      subst ht
      subst hb
      exact ⟨call_len (m := 27) (h := h) ⟨.ofNat 0, true, true, 3, true, by kernel_rfl, by kernel_rfl, by decide, by omega⟩ rfl, h, h1, by omega, rfl, Wk.refl _ _ _⟩
    · subst ht
      have e1 : (h ++ [(Int.ofNat 0, true)]).length = h.length + 1 := by simp
      have e2 : (h ++ [(Int.ofNat 0, true)]).flatMap enc = h.flatMap enc ++ [.int .i64 (.ofNat 0), .bool true] := by simp [enc]
      refine ⟨(app1 (h := h) (fm_len encLen h) h1 (by omega) _ (by kernel_rfl) (by kernel_rfl)).trans (by kernel_rfl), (app2 (fm_len encLen h) (by omega) _ [.int .i64 (.ofNat 0), .bool true] rfl (by kernel_rfl) (by kernel_rfl)).trans (by kernel_rfl),
        call_len (m := 27) (h := h ++ [(.ofNat 0, true)]) ⟨.ofNat 0, true, true, 7, true, by rw [e1]; kernel_rfl, by rw [e2]; kernel_rfl, by decide, by rw [e1]; omega⟩ e1, h ++ [(.ofNat 0, true)], by rw [e1]; omega, by rw [e1]; omega, rfl, ?_⟩
      rw [e1]
      exact toJ 7 rfl rfl kl km (one_mem (.inr rfl)) c0 c1 (by kernel_rfl) (by kernel_rfl) (by kernel_rfl) (by kernel_rfl))
  refine Trip.preM hE hs (k := 1) (by kernel_rfl) hv (fun F S hq => ?_) (fun r hr hq => ⟨.inr hr, hq.2⟩) (fun r h1 h2 hq => ?_)
  · obtain ⟨h2, g1, g2, _, g4⟩ := hq
    exact Trip.less g4 (hrest h2 g1 g2)
  · obtain ⟨h2, _, _, g3, _⟩ := hq
    exact absurd g3 h1

theorem take0_0 (hs : CallsOK Try.prog sm) (hE : Env.Ok Try.prog E) (c0 : Came o0) (c1 : Came o1) (kl : KeptV 2 vl) (km : KeptV 2 vm) {i : Nat} {by_ : Int}
    (hrest : ∀ h : H, 0 < h.length → h.length ≤ 61 → Trip Try.prog 2 none rC (frC vl vm (.ofNat 0) h.length) (stI o0 o1 h (.ofNat 0) true) LawQ) : Trip Try.prog 2 none rB (frB vl vm (.ofNat 0) i) (stI0 o0 o1 by_ false) LawQ := by
  have hv : (tC0_0 vl vm o0 o1 i by_).allY (mixQ E Try.f4 [0, 1, 2, 7, 13] [0, 1, 2, 3, 4, 5, 6, 7, 8] (Has vl vm o0 o1 (.ofNat 0)) OkA) _ := Eq.mp (vcC0_0 vl vm o0 o1 i by_ _ _)
    ⟨(app0 _ 3 [.int .i64 (.ofNat 0), .bool true] rfl (by kernel_rfl)).trans (by kernel_rfl), call_len (m := 27) (h := [(.ofNat 0, true)]) ⟨.ofNat 0, true, true, 4, true, by kernel_rfl, by kernel_rfl, by decide, by decide⟩ rfl, [(.ofNat 0, true)], by decide, by decide, rfl,
      toJ (h := []) (b := true) 4 rfl rfl kl km (one_mem (.inr rfl)) c0 c1 (by kernel_rfl) (by kernel_rfl) (by kernel_rfl) (by kernel_rfl)⟩
  refine Trip.preM hE hs (k := 1) (by kernel_rfl) hv (fun F S hq => ?_) (fun r hr hq => ⟨.inr hr, hq.2⟩) (fun r h1 h2 hq => ?_)
  · obtain ⟨h2, g1, g2, _, g4⟩ := hq
    exact Trip.less g4 (hrest h2 g1 g2)
  · obtain ⟨h2, _, _, g3, _⟩ := hq
    exact absurd g3 h1

def DQ_0 (vl vm : AV) (o0 o1 : AO) (h : H) (m j : Nat) (r : Exit × AFr × ASt) : Prop :=
  (j < m ∧ Stops 2 .normal (frD vl vm (.ofNat 0) h.length (j + 1)) (stI o0 o1 h (.ofNat 0) true) r) ∨ (j = m ∧ Stops 2 (.exit 2) (frD vl vm (.ofNat 0) h.length j) (stI o0 o1 h (.ofNat 0) true) r)

theorem round2_0 (hs : CallsOK Try.prog sm) (hE : Env.Ok Try.prog E) (SM : SlArg E 39 1 1 ms.length vm o1 (ms.map AV.bool)) {h : H} {j : Nat} (hm : ms.length ≤ 60) (hj : j ≤ ms.length) :
    Trip Try.prog 2 none B2 (frD vl vm (.ofNat 0) h.length j) (stI o0 o1 h (.ofNat 0) true) (DQ_0 vl vm o0 o1 h ms.length j) := by
  have go : ∀ tx, (j < ms.length → ms[j]? = some tx) → Trip Try.prog 2 none B2 (frD vl vm (.ofNat 0) h.length j) (stI o0 o1 h (.ofNat 0) true) (DQ_0 vl vm o0 o1 h ms.length j) := fun tx hx => by
    refine (Trip.runY hE hs (Eq.mp (vcD_0 vl vm o0 o1 h ms.length j tx (DQ_0 vl vm o0 o1 h ms.length j)) ?_)).mono fun r hq => ?_
    · have hw := wrap_succ (i := j) (by omega)
      rw [hw]
      refine ⟨SM.len _, ifB_mk (fun hlt => ?_) (fun hge => ?_)⟩
      · rw [ltF_nn] at hlt
        have hlt : j < ms.length := by simpa using hlt
        have ho := SM.obj (by omega)
        have hgo : DQ_0 vl vm o0 o1 h ms.length j (.normal, frD vl vm (.ofNat 0) h.length (j + 1), stI o0 o1 h (.ofNat 0) true) := .inl ⟨hlt, rfl, Wk.refl _ _ _⟩
        exact ⟨still_of (SM.idx j _ hlt), load_at (rw := false) (cs := ms.map AV.bool) ce4 (by rw [← ho]; kernel_rfl) (by simp [hx hlt]), ifB_mk (fun _ => hgo) (fun _ => hgo)⟩
      · rw [ltF_nn] at hge
        have : j = ms.length := by simp at hge; omega
        exact .inr ⟨this, rfl, Wk.refl _ _ _⟩
    · rcases hq with ⟨q1, q2⟩ | ⟨q1, q2⟩
      · exact .inl ⟨q1, q2.can⟩
      · exact .inr ⟨q1, q2.can⟩
  by_cases hlt : j < ms.length
  · exact go ms[j] (fun _ => by simp [hlt])
  · exact go true (fun h => absurd h hlt)

theorem rest_0 (hs : CallsOK Try.prog sm) (hE : Env.Ok Try.prog E) (SM : SlArg E 39 1 1 ms.length vm o1 (ms.map AV.bool)) (hm : ms.length ≤ 60) (h : H) (h1 : 0 < h.length) (hh : h.length ≤ 61) :
    Trip Try.prog 2 none rC (frC vl vm (.ofNat 0) h.length) (stI o0 o1 h (.ofNat 0) true) LawQ := by
  have e1 : rC = .seq (.seq k17 (.block 2 (.loop B2))) rD := by kernel_rfl
  rw [e1]
  refine Trip.seq (R := Stops 2 .normal (frD vl vm (.ofNat 0) h.length ms.length) (stI o0 o1 h (.ofNat 0) true)) (Trip.seq (R := Stops 2 .normal (frD vl vm (.ofNat 0) h.length 0) (stI o0 o1 h (.ofNat 0) true)) ?_ (fun fr' st' hq => Trip.less hq.2 ?_) (fun e fr' st' hne hq => absurd hq.1 hne)) (fun fr' st' hq => Trip.less hq.2 ?_) (fun e fr' st' hne hq => absurd hq.1 hne)
  · exact (Trip.runY hE hs (Eq.mp (vcC17 vl vm o0 o1 h (.ofNat 0) (Stops 2 .normal (frD vl vm (.ofNat 0) h.length 0) (stI o0 o1 h (.ofNat 0) true))) ⟨rfl, Wk.refl _ _ _⟩)).mono fun r hr => hr.can
  · refine Trip.block (Trip.loop (fun m fr st => ∃ j, j ≤ ms.length ∧ m = ms.length - j ∧ fr = frD vl vm (.ofNat 0) h.length j ∧ st = stI o0 o1 h (.ofNat 0) true) ?_ ms.length ⟨0, by omega, by omega, rfl, rfl⟩)
    rintro m fr st ⟨j, hj, rfl, rfl, rfl⟩
    refine (round2_0 hs hE SM hm hj).mono ?_
    rintro ⟨e, fr', st'⟩ (⟨q1, q3, q4⟩ | ⟨q1, q3, q4⟩)
    · simp only at q3 q4
      subst q3
      exact ⟨ms.length - (j + 1), _, _, by omega, q4, j + 1, by omega, rfl, rfl, rfl⟩
    · simp only at q3 q4
      subst q3
      subst q1
      exact ⟨fun _ => ⟨rfl, q4⟩, fun h => absurd rfl h⟩
  · refine Trip.runY hE hs (Eq.mp (vcE_0 vl vm o0 o1 h ms.length OkA) ?_)
    have e1 : (h ++ [(Int.ofNat 0, false), (Int.ofNat 1, true)]).length = h.length + 1 + 1 := by simp
    have e2 : (h ++ [(Int.ofNat 0, false), (Int.ofNat 1, true)]).flatMap enc = h.flatMap enc ++ [.int .i64 (.ofNat 0), .bool false] ++ [.int .i64 (.ofNat 1), .bool true] := by simp [enc]
    have hl : (h.flatMap enc ++ [AV.int .i64 (.ofNat 0), .bool false]).length = (h.length + 1) * 2 := by rw [List.length_append, fm_len encLen]; simp; omega
    refine ⟨(app1 (h := h) (fm_len encLen h) h1 (by omega) _ (by kernel_rfl) (by kernel_rfl)).trans (by kernel_rfl), (app2 (fm_len encLen h) (by omega) _ [.int .i64 (.ofNat 0), .bool false] rfl (by kernel_rfl) (by kernel_rfl)).trans (by kernel_rfl),
      (app1 (h := h) hl (by omega) (by omega) _ (by kernel_rfl) (by kernel_rfl)).trans (by kernel_rfl), (app2 hl (by omega) _ [.int .i64 (.ofNat 1), .bool true] rfl (by kernel_rfl) (by kernel_rfl)).trans (by kernel_rfl),
      call_len (m := 24) (h := h ++ [(.ofNat 0, false), (.ofNat 1, true)]) ⟨.ofNat 1, true, true, 21, true, by rw [e1]; kernel_rfl, by rw [e2]; kernel_rfl, by decide, by rw [e1]; omega⟩ e1, ifB_mk (fun _ => ⟨.inr rfl, rfl⟩) (fun he => ?_)⟩
    exfalso
    refine eqF_f he ?_
    have : (Int.ofNat h.length + Int.ofNat 2) = Int.ofNat (h.length + 1 + 1) := rfl
    rw [this, wrap_nat (by omega)]

theorem take1_1 (hs : CallsOK Try.prog sm) (hE : Env.Ok Try.prog E) (c0 : Came o0) (c1 : Came o1) (kl : KeptV 2 vl) (km : KeptV 2 vm) {h : H} {i : Nat} {by_ : Int} {tk : Bool} (h1 : 0 < h.length) (hh : h.length ≤ 60) (hinv : Inv h by_ tk)
    (hrest : ∀ h : H, 0 < h.length → h.length ≤ 61 → Trip Try.prog 2 none rC (frC vl vm (.ofNat 1) h.length) (stI o0 o1 h (.ofNat 1) true) LawQ) : Trip Try.prog 2 none rB (frB vl vm (.ofNat 1) i) (stI o0 o1 h by_ tk) LawQ := by
  have hv : (tC_1 vl vm o0 o1 h i by_ tk).allY (mixQ E Try.f4 [0, 1, 2, 7, 13] [0, 1, 2, 3, 4, 5, 6, 7, 8] (Has vl vm o0 o1 (.ofNat 1)) OkA) _ := Eq.mp (vcC_1 vl vm o0 o1 h i by_ tk _ _) (by
    refine ifB_mk (fun ht => ifB_mk (fun hb => ifB_mk (fun _ => ifB_mk (fun _ => ⟨.inr rfl, rfl⟩) (fun he => ?_)) (fun hf => by rw [ht] at hf; cases hf)) (fun hb => ?_)) (fun ht => ?_)
    · have := (hinv ht).1
      have h2 := neqF_t hb
      have h3 := eqF_f he
      exfalso
      rcases this with e | e <;> subst e <;> first | exact h2 rfl | exact h3 rfl
    · have hb := neqF_f hb
      subst ht
      subst hb
      exact ⟨call_len (m := 27) (h := h) ⟨.ofNat 1, true, true, 3, true, by kernel_rfl, by kernel_rfl, by decide, by omega⟩ rfl, h, h1, by omega, rfl, Wk.refl _ _ _⟩
    · subst ht
      have e1 : (h ++ [(Int.ofNat 1, true)]).length = h.length + 1 := by simp
      have e2 : (h ++ [(Int.ofNat 1, true)]).flatMap enc = h.flatMap enc ++ [.int .i64 (.ofNat 1), .bool true] := by simp [enc]
      refine ⟨(app1 (h := h) (fm_len encLen h) h1 (by omega) _ (by kernel_rfl) (by kernel_rfl)).trans (by kernel_rfl), (app2 (fm_len encLen h) (by omega) _ [.int .i64 (.ofNat 1), .bool true] rfl (by kernel_rfl) (by kernel_rfl)).trans (by kernel_rfl),
        call_len (m := 27) (h := h ++ [(.ofNat 1, true)]) ⟨.ofNat 1, true, true, 7, true, by rw [e1]; kernel_rfl, by rw [e2]; kernel_rfl, by decide, by rw [e1]; omega⟩ e1, h ++ [(.ofNat 1, true)], by rw [e1]; omega, by rw [e1]; omega, rfl, ?_⟩
      rw [e1]
      exact toJ 7 rfl rfl kl km (one_mem (.inr rfl)) c0 c1 (by kernel_rfl) (by kernel_rfl) (by kernel_rfl) (by kernel_rfl))
  refine Trip.preM hE hs (k := 1) (by kernel_rfl) hv (fun F S hq => ?_) (fun r hr hq => ⟨.inr hr, hq.2⟩) (fun r h1 h2 hq => ?_)
  · obtain ⟨h2, g1, g2, _, g4⟩ := hq
    exact Trip.less g4 (hrest h2 g1 g2)
  · obtain ⟨h2, _, _, g3, _⟩ := hq
    exact absurd g3 h1

theorem take0_1 (hs : CallsOK Try.prog sm) (hE : Env.Ok Try.prog E) (c0 : Came o0) (c1 : Came o1) (kl : KeptV 2 vl) (km : KeptV 2 vm) {i : Nat} {by_ : Int}
    (hrest : ∀ h : H, 0 < h.length → h.length ≤ 61 → Trip Try.prog 2 none rC (frC vl vm (.ofNat 1) h.length) (stI o0 o1 h (.ofNat 1) true) LawQ) : Trip Try.prog 2 none rB (frB vl vm (.ofNat 1) i) (stI0 o0 o1 by_ false) LawQ := by
  have hv : (tC0_1 vl vm o0 o1 i by_).allY (mixQ E Try.f4 [0, 1, 2, 7, 13] [0, 1, 2, 3, 4, 5, 6, 7, 8] (Has vl vm o0 o1 (.ofNat 1)) OkA) _ := Eq.mp (vcC0_1 vl vm o0 o1 i by_ _ _)
    ⟨(app0 _ 3 [.int .i64 (.ofNat 1), .bool true] rfl (by kernel_rfl)).trans (by kernel_rfl), call_len (m := 27) (h := [(.ofNat 1, true)]) ⟨.ofNat 1, true, true, 4, true, by kernel_rfl, by kernel_rfl, by decide, by decide⟩ rfl, [(.ofNat 1, true)], by decide, by decide, rfl,
      toJ (h := []) (b := true) 4 rfl rfl kl km (one_mem (.inr rfl)) c0 c1 (by kernel_rfl) (by kernel_rfl) (by kernel_rfl) (by kernel_rfl)⟩
  refine Trip.preM hE hs (k := 1) (by kernel_rfl) hv (fun F S hq => ?_) (fun r hr hq => ⟨.inr hr, hq.2⟩) (fun r h1 h2 hq => ?_)
  · obtain ⟨h2, g1, g2, _, g4⟩ := hq
    exact Trip.less g4 (hrest h2 g1 g2)
  · obtain ⟨h2, _, _, g3, _⟩ := hq
    exact absurd g3 h1

def DQ_1 (vl vm : AV) (o0 o1 : AO) (h : H) (m j : Nat) (r : Exit × AFr × ASt) : Prop :=
  (j < m ∧ Stops 2 .normal (frD vl vm (.ofNat 1) h.length (j + 1)) (stI o0 o1 h (.ofNat 1) true) r) ∨ (j = m ∧ Stops 2 (.exit 2) (frD vl vm (.ofNat 1) h.length j) (stI o0 o1 h (.ofNat 1) true) r)

theorem round2_1 (hs : CallsOK Try.prog sm) (hE : Env.Ok Try.prog E) (SM : SlArg E 39 1 1 ms.length vm o1 (ms.map AV.bool)) {h : H} {j : Nat} (hm : ms.length ≤ 60) (hj : j ≤ ms.length) :
    Trip Try.prog 2 none B2 (frD vl vm (.ofNat 1) h.length j) (stI o0 o1 h (.ofNat 1) true) (DQ_1 vl vm o0 o1 h ms.length j) := by
  have go : ∀ tx, (j < ms.length → ms[j]? = some tx) → Trip Try.prog 2 none B2 (frD vl vm (.ofNat 1) h.length j) (stI o0 o1 h (.ofNat 1) true) (DQ_1 vl vm o0 o1 h ms.length j) := fun tx hx => by
    refine (Trip.runY hE hs (Eq.mp (vcD_1 vl vm o0 o1 h ms.length j tx (DQ_1 vl vm o0 o1 h ms.length j)) ?_)).mono fun r hq => ?_
    · have hw := wrap_succ (i := j) (by omega)
      rw [hw]
      refine ⟨SM.len _, ifB_mk (fun hlt => ?_) (fun hge => ?_)⟩
      · rw [ltF_nn] at hlt
        have hlt : j < ms.length := by simpa using hlt
        have ho := SM.obj (by omega)
        have hgo : DQ_1 vl vm o0 o1 h ms.length j (.normal, frD vl vm (.ofNat 1) h.length (j + 1), stI o0 o1 h (.ofNat 1) true) := .inl ⟨hlt, rfl, Wk.refl _ _ _⟩
        exact ⟨still_of (SM.idx j _ hlt), load_at (rw := false) (cs := ms.map AV.bool) ce4 (by rw [← ho]; kernel_rfl) (by simp [hx hlt]), ifB_mk (fun _ => hgo) (fun _ => hgo)⟩
      · rw [ltF_nn] at hge
        have : j = ms.length := by simp at hge; omega
        exact .inr ⟨this, rfl, Wk.refl _ _ _⟩
    · rcases hq with ⟨q1, q2⟩ | ⟨q1, q2⟩
      · exact .inl ⟨q1, q2.can⟩
      · exact .inr ⟨q1, q2.can⟩
  by_cases hlt : j < ms.length
  · exact go ms[j] (fun _ => by simp [hlt])
  · exact go true (fun h => absurd h hlt)

theorem rest_1 (hs : CallsOK Try.prog sm) (hE : Env.Ok Try.prog E) (SM : SlArg E 39 1 1 ms.length vm o1 (ms.map AV.bool)) (hm : ms.length ≤ 60) (h : H) (h1 : 0 < h.length) (hh : h.length ≤ 61) :
    Trip Try.prog 2 none rC (frC vl vm (.ofNat 1) h.length) (stI o0 o1 h (.ofNat 1) true) LawQ := by
  have e1 : rC = .seq (.seq k17 (.block 2 (.loop B2))) rD := by kernel_rfl
  rw [e1]
  refine Trip.seq (R := Stops 2 .normal (frD vl vm (.ofNat 1) h.length ms.length) (stI o0 o1 h (.ofNat 1) true)) (Trip.seq (R := Stops 2 .normal (frD vl vm (.ofNat 1) h.length 0) (stI o0 o1 h (.ofNat 1) true)) ?_ (fun fr' st' hq => Trip.less hq.2 ?_) (fun e fr' st' hne hq => absurd hq.1 hne)) (fun fr' st' hq => Trip.less hq.2 ?_) (fun e fr' st' hne hq => absurd hq.1 hne)
  · exact (Trip.runY hE hs (Eq.mp (vcC17 vl vm o0 o1 h (.ofNat 1) (Stops 2 .normal (frD vl vm (.ofNat 1) h.length 0) (stI o0 o1 h (.ofNat 1) true))) ⟨rfl, Wk.refl _ _ _⟩)).mono fun r hr => hr.can
  · refine Trip.block (Trip.loop (fun m fr st => ∃ j, j ≤ ms.length ∧ m = ms.length - j ∧ fr = frD vl vm (.ofNat 1) h.length j ∧ st = stI o0 o1 h (.ofNat 1) true) ?_ ms.length ⟨0, by omega, by omega, rfl, rfl⟩)
    rintro m fr st ⟨j, hj, rfl, rfl, rfl⟩
    refine (round2_1 hs hE SM hm hj).mono ?_
    rintro ⟨e, fr', st'⟩ (⟨q1, q3, q4⟩ | ⟨q1, q3, q4⟩)
    · simp only at q3 q4
      subst q3
      exact ⟨ms.length - (j + 1), _, _, by omega, q4, j + 1, by omega, rfl, rfl, rfl⟩
    · simp only at q3 q4
      subst q3
      subst q1
      exact ⟨fun _ => ⟨rfl, q4⟩, fun h => absurd rfl h⟩
  · refine Trip.runY hE hs (Eq.mp (vcE_1 vl vm o0 o1 h ms.length OkA) ?_)
    have e1 : (h ++ [(Int.ofNat 1, false), (Int.ofNat 0, true)]).length = h.length + 1 + 1 := by simp
    have e2 : (h ++ [(Int.ofNat 1, false), (Int.ofNat 0, true)]).flatMap enc = h.flatMap enc ++ [.int .i64 (.ofNat 1), .bool false] ++ [.int .i64 (.ofNat 0), .bool true] := by simp [enc]
    have hl : (h.flatMap enc ++ [AV.int .i64 (.ofNat 1), .bool false]).length = (h.length + 1) * 2 := by rw [List.length_append, fm_len encLen]; simp; omega
    refine ⟨(app1 (h := h) (fm_len encLen h) h1 (by omega) _ (by kernel_rfl) (by kernel_rfl)).trans (by kernel_rfl), (app2 (fm_len encLen h) (by omega) _ [.int .i64 (.ofNat 1), .bool false] rfl (by kernel_rfl) (by kernel_rfl)).trans (by kernel_rfl),
      (app1 (h := h) hl (by omega) (by omega) _ (by kernel_rfl) (by kernel_rfl)).trans (by kernel_rfl), (app2 hl (by omega) _ [.int .i64 (.ofNat 0), .bool true] rfl (by kernel_rfl) (by kernel_rfl)).trans (by kernel_rfl),
      call_len (m := 24) (h := h ++ [(.ofNat 1, false), (.ofNat 0, true)]) ⟨.ofNat 0, true, true, 21, true, by rw [e1]; kernel_rfl, by rw [e2]; kernel_rfl, by decide, by rw [e1]; omega⟩ e1, ifB_mk (fun _ => ⟨.inr rfl, rfl⟩) (fun he => ?_)⟩
    exfalso
    refine eqF_f he ?_
    have : (Int.ofNat h.length + Int.ofNat 2) = Int.ofNat (h.length + 1 + 1) := rfl
    rw [this, wrap_nat (by omega)]

theorem mid (hs : CallsOK Try.prog sm) (hE : Env.Ok Try.prog E) (SL : SlArg E 22 2 0 l.length vl o0 (l.flatMap enc)) (SM : SlArg E 39 1 1 ms.length vm o1 (ms.map AV.bool)) (c0 : Came o0) (c1 : Came o1) (kl : KeptV 2 vl) (km : KeptV 2 vm) (hn : l.length ≤ 60) (hm : ms.length ≤ 60)
    (hnd : nd = .ofNat 0 ∨ nd = .ofNat 1) : Trip Try.prog 2 none rA (frH vl vm nd []) (stI0 o0 o1 0 false) LawQ := by
  have e1 : rA = .seq (.seq k6 (.block 0 (.loop B1))) rB := by kernel_rfl
  rw [e1]
  refine Trip.seq (R := fun r => ∃ h by_ tk, h.length ≤ l.length ∧ Inv h by_ tk ∧ Stops 2 .normal (frB vl vm nd l.length) (stJ o0 o1 h by_ tk) r) (Trip.seq (R := Stops 2 .normal (frB vl vm nd 0) (stJ o0 o1 [] 0 false)) ?_ (fun fr' st' hq => Trip.less hq.2 (loop1 hs hE SL c0 c1 kl km hn)) (fun e fr' st' hne hq => absurd hq.1 hne)) (fun fr' st' hq => ?_) (fun e fr' st' hne hq => ?_)
  · exact (Trip.runY hE hs (Eq.mp (vcA6 vl vm o0 o1 nd (Stops 2 .normal (frB vl vm nd 0) (stJ o0 o1 [] 0 false))) ⟨rfl, Wk.refl _ _ _⟩)).mono fun r hr => hr.can
  · obtain ⟨h, by_, tk, hl, hinv, _, hw⟩ := hq
    refine Trip.less hw ?_
    cases h with
    | nil =>
      cases tk with
      | true => exact absurd rfl (hinv rfl).2
      | false => rcases hnd with rfl | rfl
                 · exact take0_0 hs hE c0 c1 kl km (rest_0 hs hE SM hm)
                 · exact take0_1 hs hE c0 c1 kl km (rest_1 hs hE SM hm)
    | cons g h => rcases hnd with rfl | rfl
                  · exact take1_0 hs hE c0 c1 kl km (by simp) (by omega) hinv (rest_0 hs hE SM hm)
                  · exact take1_1 hs hE c0 c1 kl km (by simp) (by omega) hinv (rest_1 hs hE SM hm)
  · obtain ⟨h, by_, tk, hl, hinv, he, hw⟩ := hq
    exact absurd he hne

theorem law (hs : CallsOK Try.prog sm) (hE : Env.Ok Try.prog E) (SL : SlArg E 22 2 0 l.length vl o0 (l.flatMap enc)) (SM : SlArg E 39 1 1 ms.length vm o1 (ms.map AV.bool)) (c0 : Came o0) (c1 : Came o1) (kl : KeptV 2 vl) (km : KeptV 2 vm) :
    Trip Try.prog 2 none c4 (F0 vl vm nd) (stW o0 o1) LawQ := by
  have ok : OkA (.ret, some (.bool true)) := ⟨.inr rfl, rfl⟩
  have hv : (tA vl vm o0 o1 l.length ms.length nd).allY (mixQ E Try.f4 [0, 1, 2, 7] [0, 1, 2, 3, 4] (fun r => l.length ≤ 40 ∧ ms.length ≤ 40 ∧ (nd = .ofNat 0 ∨ nd = .ofNat 1) ∧ r = (.normal, frH vl vm nd [], stI0 o0 o1 0 false)) OkA) _ :=
    Eq.mp (vcA vl vm o0 o1 l.length ms.length nd _ _) ⟨SL.len _, ifB_mk (fun _ => ok) fun h1 => ⟨SM.len _, ifB_mk (fun _ => ok) fun h2 => ifB_mk (fun _ => ok) fun h3 => ifB_mk (fun _ => ok) fun h4 => by
      have g1 : (l.length : Int) ≤ 40 := ltF_f h1
      have g2 : (ms.length : Int) ≤ 40 := ltF_f h2
      have g3 : (0 : Int) ≤ nd := ltF_f h3
      have g4 : nd ≤ 1 := ltF_f h4
      exact ⟨by omega, by omega, by
        rcases (show nd = 0 ∨ nd = 1 by omega) with e | e
        · exact .inl e
        · exact .inr e, rfl⟩⟩⟩
  refine Trip.preM hE hs (k := 3) (by kernel_rfl) hv (fun F S hq => ?_) (fun r hr hq => ⟨.inr hr, hq.2⟩) (fun r h1 h2 hq => ?_)
  · obtain ⟨g1, g2, g3, hq⟩ := hq
    cases hq
    exact mid hs hE SL SM c0 c1 kl km (by omega) (by omega) g3
  · exact absurd (congrArg (·.1) hq.2.2.2) h1
end

/-! ### The environment; the chapter's row -/
theorem fnsOk : AllFn Try.prog fns :=
  ⟨⟨Try.func4, Try.call4⟩, ⟨Try.func9, Try.call9⟩, ⟨Try.func10, Try.call10⟩, ⟨Try.func11, Try.call11⟩, ⟨Try.func12, Try.call12⟩, ⟨Try.func13, Try.call13⟩, ⟨Try.func14, Try.call14⟩, ⟨Try.func15, Try.call15⟩, ⟨Try.func16, Try.call16⟩, ⟨Try.func39, Try.call39⟩, ⟨Try.func40, Try.call40⟩, ⟨Try.func41, Try.call41⟩, ⟨Try.func42, Try.call42⟩, ⟨Try.func53, Try.call53⟩, trivial⟩
theorem mixed : Try.prog.follows .mixedOrders = true := by kernel_rfl
theorem Eok : Env.Ok Try.prog E := envEx_ok (xs := []) fnsOk trivial mixed
theorem known : MemoOK Try.prog ⟨9, [], .bool true⟩ := memo_ok (n := 60) Eok noSum_ok Try.call9 (by kernel_rfl) (by kernel_rfl)
theorem sm_ok : CallsOK Try.prog sm := orC_ok (sumC_ok (l := [⟨9, [], .bool true⟩]) ⟨known, trivial⟩) (sumLen_ok Eok)

/-! ### The call -/
section
open Go.ChangeShapes Go.WideShapes Go.ChangeAt Go.RowKit Go.Deep

theorem own : ownKnob Try.prog.godebug = none := by kernel_rfl
theorem laidOut : laidOutB Try.prog = true := by kernel_rfl
theorem same_below {W W' : World} (h : Below W.heap.size W W') {p : MemPlace} (hp : p.block < W.heap.size) : W.sameAt W' p := by
  cases p with
  | cell b off => exact h.cell (p := ⟨b, off, none⟩) hp
  | map b => exact h.block b hp

/-- what the two slices are told as -/
def rows2 (r0 r1 : Option (Nat × Nat × List AV)) : Nat → Option (Nat × Nat × List AV)
  | 0 => r0
  | 1 => r1
  | _ => none

theorem walk {W : World} {v0 v1 : Value} {nd : Int} {l : H} {ms : List Bool} {vl vm : AV} {o0 o1 : AO} {r0 r1 : Option (Nat × Nat × List AV)}
    (A0 : ArgAt E W 22 2 0 l.length v0 (l.flatMap enc) vl o0 r0) (A1 : ArgAt E W 39 1 1 ms.length v1 (ms.map AV.bool) vm o1 r1) :
    Calls Try.prog 4 #[v0, v1, .int .i64 nd] W fun e w' => e = .returned (.bool true) ∧ Below W.heap.size W w' := by
  have hgl : GlobOK W := by intro _ _ h; cases h
  have hg : ∀ i, (stW o0 o1).h.get i = if i = 1 then some o1 else if i = 0 then some o0 else none := fun i => by
    show (((T.e : T AO).set D 0 _).set D 1 _).get i = _
    rw [T.get_set, T.get_set, T.get_e]
  have hrow : ∀ i r, rows2 r0 r1 i = some r → r.2.2 ≠ [] ∧ RowAt W r.1 r.2.1 r.2.2 := fun i r h => by
    match i, h with
    | 0, h => exact A0.row r h
    | 1, h => exact A1.row r h
  have hsr := rowsO_ok hgl (n := 2) (rows := rows2 r0 r1) hrow (st := stW o0 o1) rfl (fun i a hi => by
    rw [hg] at hi
    by_cases e1 : i = 1
    · subst e1; simp at hi; subst hi; exact ⟨by omega, A1.obj⟩
    · by_cases e0 : i = 0
      · subst e0; simp at hi; subst hi; exact ⟨by omega, A0.obj⟩
      · simp [e1, e0] at hi)
  have w0 : VR (rowsRen W 2 (rows2 r0 r1)) vl v0 := A0.vr _ fun q hq => rowsRen_at (i := 0) (by omega) hq (A0.row q hq).1 (A0.row q hq).2
  have w1 : VR (rowsRen W 2 (rows2 r0 r1)) vm v1 := A1.vr _ fun q hq => rowsRen_at (i := 1) (by omega) hq (A1.row q hq).1 (A1.row q hq).2
  have hv : VRs (rowsRen W 2 (rows2 r0 r1)) [vl, vm, .int .i64 nd] #[v0, v1, .int .i64 nd] := ⟨rfl, fun i x x' hx hx' => by
    match i with
    | 0 => simp at hx hx'; subst hx; subst hx'; exact w0
    | 1 => simp at hx hx'; subst hx; subst hx'; exact w1
    | 2 => simp at hx hx'; subst hx; subst hx'; exact .int _ _
    | i + 3 => simp at hx⟩
  have hfr : ({ m := putArgs [vl, vm, .int .i64 nd] 0 .e, n := Try.f4.ntmps, defs := [] } : AFr) = F0 vl vm nd := by kernel_rfl
  refine law_calls Eok (fn := Try.f4) (by kernel_rfl) (c := c4) (by kernel_rfl) (by kernel_rfl) (fun _ h => h) (fun k hk => .inr hk) hsr hv ?_
  rw [hfr]
  exact law sm_ok Eok A0.sl A1.sl (A0.came (encRef l)) (A1.came fun c hc => by obtain ⟨x, _, rfl⟩ := List.mem_map.1 hc; simp [refsV]) (A0.kept 2 (by omega)) (A1.kept 2 (by omega))

theorem spot_none {W : World} {a : Addr} {v : Value} (h : W.cell? (a.add 0) = some v) : a.spot = none := by
  obtain ⟨b, off, spot⟩ := a
  cases spot with
  | none => rfl
  | some s =>
    unfold World.cell? at h
    simp only [Addr.add, if_true] at h
    split at h
    · simp at h
    · cases h

theorem arg_pairs {W : World} {a : Addr} {len cap : Nat} {V0 V1 : Nat → Value} (hl : len ≤ cap) (hi : ∀ i, i < len → W.cell? (a.add (i * 2)) = some (V0 i) ∧ W.cell? (a.add (i * 2 + 1)) = some (V1 i) ∧ (∃ z, V0 i = .int .i64 z) ∧ ∃ t, V1 i = .bool t) :
    ∃ (l : H) (vl : AV) (o : AO) (r : Option (Nat × Nat × List AV)), ArgAt E W 22 2 0 l.length (.slice (some a) len cap) (l.flatMap enc) vl o r := by
  by_cases h0 : len = 0
  · subst h0
    exact ⟨[], _, _, _, ArgAt.mk_zero sl22⟩
  · have hz : ∃ f : Nat → Int × Bool, ∀ i, i < len → V0 i = .int .i64 (f i).1 ∧ V1 i = .bool (f i).2 := by
      refine ⟨fun i => (match V0 i with | .int _ z => z | _ => 0, match V1 i with | .bool t => t | _ => false), fun i hlt => ?_⟩
      obtain ⟨_, _, ⟨z, hz⟩, t, ht⟩ := hi i hlt
      simp only [hz, ht, and_self]
    obtain ⟨f, hf⟩ := hz
    have hsp := spot_none (show W.cell? (a.add 0) = some (V0 0) by have := (hi 0 (by omega)).1; rwa [Nat.zero_mul] at this)
    obtain ⟨b, off, spot⟩ := a
    simp only at hsp
    subst hsp
    have hlen : ((List.range len).map f).length = len := by simp
    refine ⟨(List.range len).map f, .slice (some (0, 0)) len (.atl len), .cells (((List.range len).map f).flatMap enc) false, some (b, off, ((List.range len).map f).flatMap enc), ?_⟩
    rw [hlen]
    have := ArgAt.mk_row (E := E) (W := W) (t := 22) (z := 2) (i := 0) (n := len) (b := b) (off := off) (cap := cap) (cs := ((List.range len).map f).flatMap enc) sl22
      (by intro e; have := congrArg List.length e; rw [fm_len encLen, hlen] at this; simp at this; omega) hl (fun k v hk => ?_)
    · exact this
    · have hk2 : k < len * 2 := by
        have := (List.getElem?_eq_some_iff.1 hk).1
        rw [fm_len encLen, hlen] at this; exact this
      have hk3 : k / 2 < len := by omega
      have hx : ((List.range len).map f)[k / 2]? = some (f (k / 2)) := by simp [hk3]
      obtain ⟨c0, c1, _⟩ := hi (k / 2) hk3
      obtain ⟨f0, f1⟩ := hf (k / 2) hk3
      rcases Nat.mod_two_eq_zero_or_one k with e | e
      · have h2 := fm_get (enc := enc) encLen hx (r := 0) rfl
        rw [show k / 2 * 2 + 0 = k by omega, hk] at h2
        simp only [Option.some.injEq] at h2
        subst h2
        refine ⟨rfl, _, ?_, fun ι => .int _ _⟩
        rw [← f0, ← c0, add_none]
        congr 2; omega
      · have h2 := fm_get (enc := enc) encLen hx (r := 1) rfl
        rw [show k / 2 * 2 + 1 = k by omega, hk] at h2
        simp only [Option.some.injEq] at h2
        subst h2
        refine ⟨rfl, _, ?_, fun ι => .bool _⟩
        rw [← f1, ← c1, add_none]
        congr 2; omega

theorem arg_bools {W : World} {a : Addr} {len cap : Nat} {B : Nat → Bool} (hl : len ≤ cap) (hi : ∀ i, i < len → W.cell? (a.add i) = some (.bool (B i))) :
    ∃ (ms : List Bool) (vm : AV) (o : AO) (r : Option (Nat × Nat × List AV)), ArgAt E W 39 1 1 ms.length (.slice (some a) len cap) (ms.map AV.bool) vm o r := by
  by_cases h0 : len = 0
  · subst h0
    exact ⟨[], _, _, _, ArgAt.mk_zero sl39⟩
  · have hsp := spot_none (hi 0 (by omega))
    obtain ⟨b, off, spot⟩ := a
    simp only at hsp
    subst hsp
    have hlen : ((List.range len).map B).length = len := by simp
    refine ⟨(List.range len).map B, .slice (some (1, 0)) len (.atl len), .cells (((List.range len).map B).map AV.bool) false, some (b, off, ((List.range len).map B).map AV.bool), ?_⟩
    rw [hlen]
    have := ArgAt.mk_row (E := E) (W := W) (t := 39) (z := 1) (i := 1) (n := len) (b := b) (off := off) (cap := cap) (cs := ((List.range len).map B).map AV.bool) sl39
      (by intro e; have := congrArg List.length e; simp at this; omega) hl (fun k v hk => ?_)
    · exact this
    · have hk2 : k < len := by
        have := (List.getElem?_eq_some_iff.1 hk).1
        simpa using this
      have hv : v = .bool (B k) := by
        simp [hk2] at hk
        exact hk.symm
      subst hv
      exact ⟨rfl, _, by have := hi k hk2; rw [add_none] at this; exact this, fun ι => .bool _⟩

/-! ### The row's step -/
set_option maxRecDepth 100000 in
theorem lifted (os : Os) (started : os.Started) (H : Type) (enc : TypeId × Value → H) :
    ReturnsInHanded {} Try.checked os 4 .any (Rows.arbiterHoldsSpec.pre6 enc Try.prog Try.f4 Rows.arbiterHoldsRow.domain false) (Rows.arbiterHoldsSpec.post enc Try.prog Try.f4 false true false false) := by
  refine returnsInHanded_of_change (C := Try.checked) own started (by kernel_rfl) Try.func4
    (ChangeSpec.witness6 (enc := enc) (C := Try.checked) false ⟨#[], #[.slice none 0 0, .slice none 0 0, .int .i64 0], []⟩ 8 (by kernel_rfl) (by kernel_rfl) (by kernel_rfl) (by kernel_rfl)) ?_
  intro W base args ds gs before hval0 hW hcnd _
  have hval : ∀ (j : Nat) t v, Try.f4.params[j]? = some t → args[j]? = some v → Value.okWide Try.prog W .any base t v := hval0
  have hW' := hW
  obtain ⟨p, q, hA0, hV, rfl, hfz, hnd⟩ := hW
  have hA : DataW.TrodAll enc Try.prog W 0 (fun _ => true) true Try.f4.params.toList args.toList ds p := hA0
  rw [Try.params4] at hA hval
  obtain ⟨v0, v1, v2, d0, d1, d2, p0, p1, p2, rfl, rfl, rfl, h0, h1, h2⟩ := trodAll_three hA
  obtain ⟨rfl, rfl⟩ := trodVars_none hV
  obtain ⟨a0, len, cap, rfl⟩ := okWide_slice Try.underlying22 (hval 0 22 v0 rfl rfl)
  obtain ⟨a1, len1, cap1, rfl⟩ := okWide_slice Try.underlying39 (hval 1 39 v1 rfl rfl)
  obtain ⟨nd, rfl, rfl, rfl, wnd⟩ := open_int Try.underlying3 (hval 2 3 v2 rfl rfl) h2
  have h0k := h0
  have h1k := h1
  obtain ⟨fu0, hf0⟩ := h0
  obtain ⟨fu1, hf1⟩ := h1
  clear hA0 hval0
  simp only [List.append_nil] at hW'
  have hlt : ∀ x ∈ p0 ++ p1, x.block < W.heap.size := fun x hx => by simpa using hW'.lt x hx
  have g0 : ∃ (l : arh.H) (vl : AV) (o : AO) (r : Option (Nat × Nat × List AV)), ArgAt E W 22 2 0 l.length (.slice a0 len cap) (l.flatMap arh.enc) vl o r := by
    rcases open_slice_pairs Try.underlying22 Try.underlying27 (by kernel_rfl) rfl rfl (by kernel_rfl) (by kernel_rfl) hf0 with ⟨hcs, _⟩ | ⟨a, len', cap', m, n, V0, V1, D0, D1, P0, P1, hcs, _, hl, _, hm, hx, hi⟩
    · simp [Value.cells] at hcs
      obtain ⟨rfl, rfl, rfl⟩ := hcs
      exact ⟨[], _, _, _, ArgAt.mk_nil sl22⟩
    · simp [Value.cells] at hcs
      obtain ⟨rfl, rfl, rfl⟩ := hcs
      refine arg_pairs (V0 := V0) (V1 := V1) hl fun i hlt => ?_
      obtain ⟨g0, g1, g2, g3⟩ := hi i (by rw [hm]; split <;> omega)
      obtain ⟨z, e1, _⟩ := DataW.trod_int Try.underlying3 g2
      obtain ⟨t, e2, _⟩ := DataW.trod_bool Try.underlying4 g3
      exact ⟨g0, g1, ⟨z, by simpa using e1⟩, t, by simpa using e2⟩
  have g1 : ∃ (ms : List Bool) (vm : AV) (o : AO) (r : Option (Nat × Nat × List AV)), ArgAt E W 39 1 1 ms.length (.slice a1 len1 cap1) (ms.map AV.bool) vm o r := by
    rcases open_bools Try.underlying39 Try.underlying4 (by kernel_rfl) hf1 with ⟨hcs, _⟩ | ⟨a, len', cap', B, hcs, _, hl, _, hx, hi⟩
    · simp [Value.cells] at hcs
      obtain ⟨rfl, rfl, rfl⟩ := hcs
      exact ⟨[], _, _, _, ArgAt.mk_nil sl39⟩
    · simp [Value.cells] at hcs
      obtain ⟨rfl, rfl, rfl⟩ := hcs
      exact arg_bools hl fun i hlt => hi i (by omega)
  obtain ⟨l, vl, o0, r0, A0⟩ := g0
  obtain ⟨ms, vm, o1, r1, A1⟩ := g1
  refine (walk A0 A1 (nd := nd)).mono fun e W' ⟨he, bel⟩ => ?_
  subst he
  have ARG0 : DataW.Trod enc Try.prog W' 0 (fun x => decide (x < W.heap.size)) true 22 (.slice a0 len cap) d0 p0 :=
    WideElems.Trod_stays laidOut (by kernel_rfl) (of_decide_eq_true (by kernel_rfl)) h0k (fun x hx => same_below bel (hlt x (List.mem_append_left _ hx))) (fun x hx => by simpa using hlt x (List.mem_append_left _ hx))
  have ARG1 : DataW.Trod enc Try.prog W' 0 (fun x => decide (x < W.heap.size)) true 39 (.slice a1 len1 cap1) d1 p1 :=
    WideElems.Trod_stays laidOut (by kernel_rfl) (of_decide_eq_true (by kernel_rfl)) h1k (fun x hx => same_below bel (hlt x (List.mem_append_right _ hx))) (fun x hx => by simpa using hlt x (List.mem_append_right _ hx))
  exact ⟨_, rfl, _, _, _, [], _, [], hW', trodAll_mk1 (shut_bool Try.underlying4 _), trodAll_mk3 ARG0 ARG1 (shut_int Try.underlying3 wnd), rfl, bel.frame _, fun h => by cases h⟩

theorem over : Rows.arbiterHoldsRow.holds Try.pinned (OpenSpec.ofChange Rows.arbiterHoldsSpec) :=
  OpenClaim.holds_of_wide 4 Try.f4 rfl rfl rfl rfl rfl rfl rfl ⟨rfl, rfl, rfl, rfl, rfl⟩ rfl rfl rfl rfl rfl (by kernel_rfl) Try.func4 (by kernel_rfl)
    (of_decide_eq_true (by kernel_rfl)) (by unfold Func.isWrapper; first | (rw [if_pos (by decide +kernel)]; kernel_rfl) | (rw [if_neg (by decide +kernel)]; exact ⟨rfl, rfl⟩))
    (fun os started H enc _ => lifted os started H enc)

/-- THE STATEMENT -/
theorem proved : Rows.ArbiterHoldsSaid := over
end
#print axioms proved
end Go.Proofs.Ytidmijpfoodkoaa.arh
