/-
  PROVED HERE: 'Rows.ShaAllSaid': the call of the law's function, which takes nothing, returns true and writes nothing that was there. No condition.
  THE WALK: the law's loop by an invariant (the row of the first numbers), each round a run of its text in an abstract machine (the texts YtgijfohgffhllaaAxA to YtgijfohgffhllaaAxFm show that it is sound); both hashes by contracts of their own (the texts YtgijfohgffhllaaSumH, YtgijfohgffhllaaRs)
-/
import Derived.Test.YtgijfohgffhllaaRs
open Go Go.Ax Go.Proofs.Ytgijfohgffhllaa
namespace Go.Proofs.Ytgijfohgffhllaa.rsa
open Go.Proofs.Ytgijfohgffhllaa.rsm
set_option linter.unusedVariables false
noncomputable def c3 : Code := Option.getD Try.f3.body .skip
noncomputable def F3 : AFr := { m := .e, n := 18, defs := [] }
noncomputable def pI3 : Code := .seq (preC 1 c3) (seqL (seqL (dropC 1 c3)))
noncomputable def L3a : Code := lopB (blkB (seqR (seqL (dropC 1 c3))))
def flR3 : Fl := ⟨[8, 10, 11, 16], [], [4, 11], []⟩
noncomputable def fr3 (v : AV) (n : Nat) : AFr := xFr [(1, v), (2, nI n)] 18
noncomputable def tI3 : Tr (Exit × AFr × ASt) := (TM E sm [] fl0 40).ex fl0 none (preC 1 c3) F3 (mkSt [] 0)
noncomputable def tJ3 : Tr (Exit × AFr × ASt) := (TM E sm [] fl0 40).ex fl0 none (seqL (seqL (dropC 1 c3))) (xFr [(1, .slice none 0 (.known 0))] 18) (mkSt [] 0)
noncomputable def tR3 (n : Nat) (v v2 : AV) (o o2 o3 : AO) (xs : Nat → Int) : Tr (Exit × AFr × ASt) := (TM E sm [] fl0 40).ex flR3 none L3a (fr3 v n) (mkSt [(0, o)] 1)
noncomputable def tE3 (v : AV) (n : Nat) (o : AO) : Tr (Exit × AFr × ASt) := (TM E sm [] fl0 40).ex fl0 none (dropC 2 c3) (fr3 v n) (mkSt [(0, o)] 1)
noncomputable def vcI3_s0  : ASt := mkSt [] 0
theorem vcI3  (Q : Exit × AFr × ASt → Prop) :
  (Q (Exit.normal, xFr [(1, AV.slice none 0 (Cap.known 0))] 18, vcI3_s0 )) =
  (tI3 ).allY (fun r => Q (canR [1] [] r)) (An.nil) := by kernel_rfl
noncomputable def vcJ3_s0  : ASt := mkSt [] 0
theorem vcJ3  (Q : Exit × AFr × ASt → Prop) :
  (Q (Exit.normal, xFr [(1, AV.slice none 0 (Cap.known 0)), (2, AV.int IntKind.i64 (Int.ofNat 0))] 18, vcJ3_s0 )) =
  (tJ3 ).allY (fun r => Q (canR [1, 2] [] r)) (An.nil) := by kernel_rfl
noncomputable def vcR3_s0 (n : Nat) (v : AV) (v2 : AV) (o : AO) (o2 : AO) (o3 : AO) (xs : Nat → Int) : ASt := mkSt [(0, o)] 1
noncomputable def vcR3_s1 (n : Nat) (v : AV) (v2 : AV) (o : AO) (o2 : AO) (o3 : AO) (xs : Nat → Int) : ASt := mkSt [(0, o), (1, AO.cells [AV.int IntKind.u8 (wrapF IntKind.u8 (Int.ofNat n))] true)] 2
noncomputable def vcR3_s2 (n : Nat) (v : AV) (v2 : AV) (o : AO) (o2 : AO) (o3 : AO) (xs : Nat → Int) : ASt := mkSt [(0, o2), (1, AO.cells [AV.int IntKind.u8 (wrapF IntKind.u8 (Int.ofNat n))] true), (2, o3)] 3
noncomputable def vcR3_s3 (n : Nat) (v : AV) (v2 : AV) (o : AO) (o2 : AO) (o3 : AO) (xs : Nat → Int) : ASt := mkSt [(0, o2), (2, o3)] 3
theorem vcR3 (n : Nat) (v : AV) (v2 : AV) (o : AO) (o2 : AO) (o3 : AO) (xs : Nat → Int) (Q : Exit × AFr × ASt → Prop) :
  (ifB (!ltF (Int.ofNat 200) (Int.ofNat n)) ((M E (drawA E) sm 34).call 7 [v] (vcR3_s0 n v v2 o o2 o3 xs) = some (AV.agg (cl xs), vcR3_s0 n v v2 o o2 o3 xs) ∧ (M E (drawA E) sm 34).call 8 [v] (vcR3_s0 n v v2 o o2 o3 xs) = some (AV.agg (cl xs), vcR3_s0 n v v2 o o2 o3 xs) ∧ still (vcR3_s0 n v v2 o o2 o3 xs) (aBin E BinOp.neq 23 (Operand.tmp 8) (Operand.tmp 10) (AV.agg (cl xs)) (AV.agg (cl xs))) = some (AV.bool false, vcR3_s0 n v v2 o o2 o3 xs) ∧ aBuiltinM E Builtin.append [22, 22] [v, AV.slice (some (1, 0)) 1 (Cap.known 1)] (vcR3_s1 n v v2 o o2 o3 xs) = some (v2, vcR3_s2 n v v2 o o2 o3 xs) ∧ Q (Exit.normal, xFr [(1, v2), (2, AV.int IntKind.i64 (wrapF IntKind.i64 (Int.ofNat n + Int.ofNat 1)))] 18, vcR3_s3 n v v2 o o2 o3 xs)) (Q (Exit.exit 0, xFr [(1, v), (2, AV.int IntKind.i64 (Int.ofNat n))] 18, vcR3_s0 n v v2 o o2 o3 xs))) =
  (tR3 n v v2 o o2 o3 xs).allY (fun r => Q (canR [1, 2] [0, 2] r)) (An.b (An.v (AV.agg (cl xs), vcR3_s0 n v v2 o o2 o3 xs) (An.v (AV.agg (cl xs), vcR3_s0 n v v2 o o2 o3 xs) (An.v (AV.bool false, vcR3_s0 n v v2 o o2 o3 xs) (An.b An.nil (An.v (v2, vcR3_s2 n v v2 o o2 o3 xs) An.nil))))) An.nil) := by kernel_rfl
theorem vcE3 (v : AV) (n : Nat) (o : AO) (Q : Exit × AFr × ASt → Prop) (Q2 : Exit × Option AV → Prop) :
  (Q2 (Exit.ret, some (AV.bool true))) =
  (tE3 v n o).allY (mixQ E Try.f3 [1, 2] [0] Q Q2) (An.nil) := by kernel_rfl


/-! ### The loop -/
def nums (n : Nat) : List Nat := (List.range n).map fun i => i % 256
def oN : Nat → AO
  | 0 => .dead
  | n + 1 => .cells ((nums (n + 1)).map cellU) true
def vN3 : Nat → AV
  | 0 => .slice none 0 (.known 0)
  | n + 1 => .slice (some (0, 0)) (n + 1) (.rest 1)
noncomputable def stN (n : Nat) : ASt := mkSt [(0, oN n)] 1
theorem nums_len (n : Nat) : (nums n).length = n := by simp [nums]
theorem nums_by (n : Nat) : ∀ x, x ∈ nums n → x < 256 := fun x hx => by
  obtain ⟨i, _, rfl⟩ := List.mem_map.1 hx
  exact Nat.mod_lt _ (by omega)
theorem nums_snoc {n : Nat} (h : n ≤ 200) : (nums n).map cellU ++ [AV.int .u8 (wrapF .u8 (.ofNat n))] = (nums (n + 1)).map cellU := by
  have e : wrapF .u8 (.ofNat n) = .ofNat (n % 256) := by
    unfold wrapF
    have hb : Nat.blt (modN (.ofNat n) (big .u8)) (half .u8) = true := by
      rw [Nat.blt_eq]; exact Nat.mod_lt n (show 0 < 256 by decide)
    show (bif Nat.blt (modN (.ofNat n) (big .u8)) (half .u8) then Int.ofNat (modN (.ofNat n) (big .u8)) else _) = _
    rw [hb]; rfl
  rw [e]
  simp [nums, List.range_succ, cellU]
theorem sl_N (n : Nat) {S : ASt} (hg : S.h.get 0 = some (oN n)) : SlB S (vN3 n) (nums n) ∧ ∀ c, vN3 n = .slice none 0 (.known c) → c = 0 := by
  cases n with
  | zero => exact ⟨.nil, fun c h => by cases h; rfl⟩
  | succ n =>
    refine ⟨.row hg ?_, fun c h => by cases h⟩
    have := tk0 (nums (n + 1))
    rw [nums_len] at this
    exact this
def I3 (m : Nat) (fr : AFr) (st : ASt) : Prop := ∃ n, n ≤ 201 ∧ m = 201 - n ∧ fr = fr3 (vN3 n) n ∧ st = stN n
def OkQ (q : Exit × Option AV) : Prop := (q.1 = .normal ∨ q.1 = .ret) ∧ q.2 = some (.bool true)
theorem cell1 {n : Nat} : ∀ c, c ∈ (nums n).map cellU → refsV 0 c := fun c hc => by obtain ⟨x, _, rfl⟩ := List.mem_map.1 hc; simp [cellU, refsV]
def QR (n : Nat) (r : Exit × AFr × ASt) : Prop := (n ≤ 200 ∧ Stops 0 .normal (fr3 (vN3 (n + 1)) (n + 1)) (stN (n + 1)) r) ∨ (n = 201 ∧ Stops 0 (.exit 0) (fr3 (vN3 201) 201) (stN 201) r)
theorem round3 {n : Nat} (hn : n ≤ 201) : Trip Try.prog 0 none L3a (fr3 (vN3 n) n) (stN n) (QR n) := by
  obtain ⟨xs, hxs⟩ : ∃ xs, xs = hx (rsm.hs (nums n)) := ⟨_, rfl⟩
  have sl := sl_N n (S := stN n) (by kernel_rfl)
  have c7 : (M E (drawA E) sm 34).call 7 [vN3 n] (stN n) = some (.agg (cl xs), stN n) := by rw [hxs]; exact call_sum sl.1 sl.2 (by rw [nums_len]; omega)
  have c8 : (M E (drawA E) sm 34).call 8 [vN3 n] (stN n) = some (.agg (cl xs), stN n) := by rw [hxs]; exact call_ref sl.1 sl.2 (nums_by n) (by rw [nums_len]; omega)
  have ne : ∀ {x y : Operand}, aBin E .neq 23 x y (.agg (cl xs)) (.agg (cl xs)) = some (.bool false) := fun {x y} => by rw [bin_ne]; simp
  have fin : ∀ {v2 : AV} {o2 o3 : AO} {y}, (tR3 n (vN3 n) v2 (oN n) o2 o3 xs).allY (fun r => QR n (canR [1, 2] [0, 2] r)) y → Trip Try.prog 0 none L3a (fr3 (vN3 n) n) (stN n) (QR n) := fun h =>
    (Trip.runY Eok sm_ok h).mono fun r hr => hr.imp (fun h => ⟨h.1, h.2.can⟩) (fun h => ⟨h.1, h.2.can⟩)
  have wk : ∀ {k : Nat} {o2 : AO}, k ≤ 200 → Wk 0 (xFr [(1, .slice (some (2, 0)) (k + 1) (.rest 1)), (2, AV.int IntKind.i64 (wrapF IntKind.i64 (Int.ofNat k + Int.ofNat 1)))] 18) (mkSt [(0, .dead), (2, .cells ((nums (k + 1)).map cellU) true)] 3) (fr3 (vN3 (k + 1)) (k + 1)) (stN (k + 1)) := fun {k o2} hk => by
    rw [wrap_succ (by omega)]
    exact Wk.heldX [2] rfl rfl [1, 2] (by kernel_rfl) (.cons 2 _ rfl (by kernel_rfl) (RenO.row cell1) .nil)
  have out : ∀ {k : Nat}, ltF (.ofNat 200) (.ofNat k) = !decide (k ≤ 200) := fun {k} => by
    rw [ltF_nat]
    by_cases e : k ≤ 200
    · simp [e, Nat.not_lt.2 e]
    · simp [e, Nat.lt_of_not_le e]
  cases n with
  | zero =>
    refine fin (Eq.mp (vcR3 0 (vN3 0) (.slice (some (2, 0)) 1 (.rest 1)) .dead .dead (.cells ((nums 1).map cellU) true) xs (QR 0)) (ifB_mk (fun _ => ⟨c7, c8, still_of ne, by kernel_rfl, .inl ⟨by omega, rfl, wk (o2 := .dead) (by omega)⟩⟩) fun h => ?_))
    rw [out] at h
    simp at h
  | succ n =>
    refine fin (Eq.mp (vcR3 (n + 1) (vN3 (n + 1)) (.slice (some (2, 0)) (n + 1 + 1) (.rest 1)) (oN (n + 1)) .dead (.cells ((nums (n + 1 + 1)).map cellU) true) xs (QR (n + 1))) (ifB_mk (fun h => ?_) fun h => ?_))
    · rw [out] at h
      have hl : n + 1 ≤ 200 := by simpa using h
      refine ⟨c7, c8, still_of ne, ?_, .inl ⟨hl, rfl, wk (o2 := .dead) hl⟩⟩
      refine (append_grow_at (z := 1) (b := 1) (new := [AV.int IntKind.u8 (wrapF IntKind.u8 (Int.ofNat (n + 1)))]) (cs := (nums (n + 1)).map cellU) (by kernel_rfl) (n := 1) (by kernel_rfl) (by kernel_rfl) (by kernel_rfl) (by simp [nums_len]) (by omega) (by omega) (by omega) (by omega)).trans ?_
      rw [nums_snoc hl]
      kernel_rfl
    · rw [out] at h
      have hl : ¬ n + 1 ≤ 200 := by simpa using h
      have e : n = 200 := by omega
      subst e
      exact .inr ⟨rfl, rfl, Wk.refl _ _ _⟩
theorem loop3 : Trip Try.prog 0 none (.block 0 (.loop L3a)) (fr3 (vN3 0) 0) (stN 0) (Stops 0 .normal (fr3 (vN3 201) 201) (stN 201)) := by
  refine Trip.block (Trip.loop (fun m fr st => ∃ n, n ≤ 201 ∧ m = 201 - n ∧ fr = fr3 (vN3 n) n ∧ st = stN n) ?_ 201 ⟨0, by omega, by omega, rfl, rfl⟩)
  rintro m fr st ⟨n, hn, rfl, rfl, rfl⟩
  refine (round3 hn).mono ?_
  rintro ⟨e, fr', st'⟩ (⟨h1, h2, h3⟩ | ⟨h1, h2, h3⟩)
  · simp only at h2
    subst h2
    exact ⟨201 - (n + 1), _, _, by omega, h3, n + 1, by omega, rfl, rfl, rfl⟩
  · simp only at h2
    subst h2
    exact ⟨fun _ => ⟨rfl, h3⟩, fun h => absurd rfl h⟩
theorem Wk.dead0 {kb : Nat} (fr : AFr) : Wk kb fr (mkSt [] 0) fr (mkSt [(0, .dead)] 1) := fun B w0 κ hb ι w a hk h1 h2 => by
  have hg : ∀ i, (mkSt [(0, .dead)] 1).h.get i = if i = 0 then some .dead else none := fun i => by
    show ((T.e : T AO).set D 0 _).get i = _
    rw [T.get_set, T.get_e]
  have hg2 : ∀ {i a}, (mkSt [(0, .dead)] 1).h.get i = some a → i = 0 ∧ a = .dead := fun {i a} hi => by
    rw [hg] at hi
    by_cases e : i = 0
    · simp [e] at hi; exact ⟨e, hi.symm⟩
    · simp [e] at hi
  exact ⟨ι, hk, ⟨h1.below, h1.base, fun i a hi hd => absurd (hg2 hi).2 hd, fun i a L hi ho => (by rw [(hg2 hi).2] at ho; cases ho), fun i L hL => Nat.lt_succ_of_lt (h1.dom i L hL), fun i a hi => (by rw [(hg2 hi).1]; exact Nat.zero_lt_one), fun i a L hi hd => absurd (hg2 hi).2 hd, fun i hi => ⟨Nat.lt_succ_of_lt (h1.res i hi).1, (h1.res i hi).2⟩, h1.glob⟩, h2⟩
theorem shape3 : dropC 1 c3 = .seq (.seq (seqL (seqL (dropC 1 c3))) (.block 0 (.loop L3a))) (dropC 2 c3) := by kernel_rfl
theorem whole3 : Trip Try.prog 0 none c3 F3 (mkSt [] 0) fun r => OkQ (r.1, ans (leaveA E Try.f3 r.2.1 r.2.2)) := by
  refine Trip.preY Eok sm_ok (k := 1) (c := c3) (kf := [1]) (ko := []) (Q1 := fun r => r = (.normal, xFr [(1, AV.slice none 0 (Cap.known 0))] 18, mkSt [] 0)) (by kernel_rfl) (Eq.mp (vcI3 (fun r => r = (.normal, xFr [(1, AV.slice none 0 (Cap.known 0))] 18, mkSt [] 0))) rfl) (fun F S h => ?_) (fun r hne h => ?_)
  · cases h
    rw [shape3]
    refine Trip.seq (R := Stops 0 .normal (fr3 (vN3 201) 201) (stN 201)) (Trip.seq (R := Stops 0 .normal (fr3 (vN3 0) 0) (stN 0)) ((Trip.runY Eok sm_ok (Eq.mp (vcJ3 (Stops 0 .normal (fr3 (vN3 0) 0) (stN 0))) ⟨rfl, ?_⟩)).mono fun r hr => hr.can) (fun fr' st' hq => Trip.less hq.2 loop3) (fun e fr' st' hne hq => absurd hq.1 hne)) (fun fr' st' hq => Trip.less hq.2 ?_) (fun e fr' st' hne hq => absurd hq.1 hne)
    · exact Wk.dead0 _
    · exact Trip.runM Eok sm_ok (fn := Try.f3) (kf := [1, 2]) (ko := [0]) (Q1 := fun _ => False) (Q2 := OkQ) (Eq.mp (vcE3 _ _ _ (fun _ => False) OkQ) ⟨.inr rfl, rfl⟩) (fun r h1 h2 => by rw [h1]; exact h2) (fun r h1 h2 => h2.elim)
  · have := congrArg Prod.fst h
    exact absurd this hne

noncomputable section
open Go.ChangeShapes Go.WideShapes Go.ChangeAt Go.RowKit Go.Deep
theorem own : ownKnob Try.prog.godebug = none := by kernel_rfl
theorem walk (W : World) : Calls Try.prog 3 #[] W fun e w' => e = .returned (.bool true) ∧ Below W.heap.size W w' := by
  have hgl : GlobOK W := by intro _ _ h; cases h
  have hg : ∀ i, (mkSt [] 0).h.get i = none := fun i => T.get_e i
  have hsr := rowsO_ok hgl (n := 0) (rows := fun _ => none) (fun i r h => by cases h) (st := mkSt [] 0) rfl (fun i a hi => by rw [hg] at hi; cases hi)
  have hfr : ({ m := putArgs [] 0 .e, n := Try.f3.ntmps, defs := [] } : AFr) = F3 := by kernel_rfl
  have hv : VRs (rowsRen W 0 fun _ => none) [] #[] := ⟨rfl, fun i x x' hx => by simp at hx⟩
  refine law_calls Eok (fn := Try.f3) (by kernel_rfl) (c := c3) (by kernel_rfl) (by kernel_rfl) (fun _ h => h) (fun k hk => .inr hk) hsr hv ?_
  rw [hfr]
  exact whole3
/-! ### The row's step -/
set_option maxRecDepth 100000 in
theorem lifted (os : Os) (started : os.Started) (H : Type) (enc : TypeId × Value → H) :
    ReturnsInHanded {} Try.checked os 3 .any (Rows.shaAllSpec.pre6 enc Try.prog Try.f3 Rows.shaAllRow.domain false) (Rows.shaAllSpec.post enc Try.prog Try.f3 false true false false) := by
  refine returnsInHanded_of_change (C := Try.checked) own started (by kernel_rfl) Try.func3
    (ChangeSpec.witness6 (enc := enc) (C := Try.checked) false ⟨#[], #[], []⟩ 8 (by kernel_rfl) (by kernel_rfl) (by kernel_rfl) (by kernel_rfl)) ?_
  intro W base args ds gs before hval0 hW hcnd _
  have hval : ∀ (j : Nat) t v, Try.f3.params[j]? = some t → args[j]? = some v → Value.okWide Try.prog W .any base t v := hval0
  have hW' := hW
  obtain ⟨p, q, hA0, hV, rfl, hfz, hnd⟩ := hW
  have hA : DataW.TrodAll enc Try.prog W 0 (fun _ => true) true Try.f3.params.toList args.toList ds p := hA0
  rw [Try.params3] at hA hval
  obtain ⟨rfl, rfl, rfl⟩ := trodAll_none hA
  obtain ⟨rfl, rfl⟩ := trodVars_none hV
  clear hA0 hval0
  refine (walk W).mono fun e W' ⟨he, bel⟩ => ?_
  subst he
  exact ⟨_, rfl, _, _, _, [], _, [], hW', trodAll_mk1 (shut_bool Try.underlying4 _), trodAll_mk0, rfl, bel.frame _, fun h => by cases h⟩
theorem over : Rows.shaAllRow.holds Try.pinned (OpenSpec.ofChange Rows.shaAllSpec) :=
  OpenClaim.holds_of_wide 3 Try.f3 rfl rfl rfl rfl rfl rfl rfl ⟨rfl, rfl, rfl, rfl, rfl⟩ rfl rfl rfl rfl rfl (by kernel_rfl) Try.func3 (by kernel_rfl)
    (of_decide_eq_true (by kernel_rfl)) (by unfold Func.isWrapper; first | (rw [if_pos (by decide +kernel)]; kernel_rfl) | (rw [if_neg (by decide +kernel)]; exact ⟨rfl, rfl⟩))
    (fun os started H enc _ => lifted os started H enc)
/-- THE STATEMENT -/
theorem proved : Rows.ShaAllSaid := over
end
#print axioms proved
end Go.Proofs.Ytgijfohgffhllaa.rsa
