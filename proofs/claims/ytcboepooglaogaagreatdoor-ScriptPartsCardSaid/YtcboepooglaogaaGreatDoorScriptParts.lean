/-
  PROVED HERE: 'Rows.ScriptPartsCardSaid': for every command, every block and every place the call of the law's function returns true, and the arguments read as they did; what the row lists is tied to the program's text by the given tie. No condition. THE WALK is a run of the function's text in an abstract machine (the texts WaA to WaF show that it is sound), with the arguments open; what it calls by contracts of its own (WsA to WsE), strings.Join and strconv.Itoa out of the library's; the package variables are told by WsG.
-/
import Derived.Test.YtcboepooglaogaaGreatDoorWsE
import Derived.Test.YtcboepooglaogaaGreatDoorWsG
import Derived.Test.YtcboepooglaogaaGreatDoorCards
import Derived.Test.YtcboepooglaogaaGreatDoorTie
import Derived.Carry
import Derived.WalkKit
import Derived.ProofKit
import Derived.LaidMore
import Derived.OpenShut
import Derived.ShutString
import Derived.ChangeOld
import Derived.ChangeSlices
import Derived.Below
import Derived.SevenTiedAt
import Derived.Stop.Joined
import Derived.Lay
import Derived.Deep.SlicePairs
import Derived.WideKeyArgs
section
open Go Go.Ax Go.Proofs
namespace Go.Proofs.YtcboepooglaogaaGreatDoor.spt
set_option linter.unusedVariables false
noncomputable section
open Go.ChangeShapes Go.WideShapes Go.ChangeAt Go.RowKit Go.Deep
section
variable {H : Type} {enc : TypeId × Value → H} {P : Program} {w : World} {base : Nat} {spare : Nat → Bool} {held : Bool} {fuel : Nat} {t : TypeId} {cs : List Value} {x : DataW H × List MemPlace}
theorem fieldOf {fs : Array Field} (ht : P.underlying t = some (.struct fs)) (h : DataW.trod enc P w base spare held fuel t cs = some x) {i : Nat} {f : Field} (hi : fs[i]? = some f) :
    ∃ n y, DataW.trod enc P w base spare held n f.type ((cs.drop f.offset).take (P.cellsOf f.type)) = some y := by
  obtain ⟨xs, n, _, _, _, hl, hf⟩ := DataW.trod_struct ht h
  have h1 := (Array.getElem?_eq_some_iff.1 hi).1
  exact ⟨n, xs[i]'(by omega), by rw [hf i f hi]; simp⟩
theorem elemOf {n : Nat} {e : TypeId} (ht : P.underlying t = some (.array n e)) (h : DataW.trod enc P w base spare held fuel t cs = some x) {i : Nat} (hi : i < n) :
    ∃ m y, DataW.trod enc P w base spare held m e ((cs.drop (i * P.cellsOf e)).take (P.cellsOf e)) = some y := by
  obtain ⟨xs, m, _, _, _, hl, hf⟩ := DataW.trod_array ht h
  exact ⟨m, xs[i]'(by omega), by rw [hf i hi]; simp⟩
theorem one_int {k : IntKind} {o : Nat} (ht : P.underlying t = some (.int k)) (h : DataW.trod enc P w base spare held fuel t ((cs.drop o).take 1) = some x) : ∃ z, cs[o]? = some (.int k z) ∧ (Lit.int k z).wf = true := by
  obtain ⟨z, e, _, hw⟩ := DataW.trod_int ht h
  refine ⟨z, ?_, hw⟩
  have : ((cs.drop o).take 1)[0]? = some (.int k z) := by rw [e]; rfl
  simpa using this
theorem sub_get {o c i : Nat} {v : Value} (h : ((cs.drop o).take c)[i]? = some v) : cs[o + i]? = some v := by
  rw [List.getElem?_take] at h
  split at h
  · simpa using h
  · cases h
end
theorem okWide_arr {r : Reach} {b0 n : Nat} {e t : TypeId} {P : Program} {W : World} {v : Value} (hu : P.underlying t = some (.array n e)) (h : Value.okWide P W r b0 t v) : ∃ xs : Array Value, v = .agg xs ∧ xs.size = P.cellsOf t := by
  simp only [Value.okWide, hu] at h
  obtain ⟨cs, h1, h2, _⟩ := h
  exact ⟨cs, h1, h2⟩
theorem own : ownKnob Tryz.prog.godebug = none := by kernel_rfl
theorem laidOut : laidOutB Tryz.prog = true := by kernel_rfl
theorem same_below {W W' : World} (h : Below W.heap.size W W') {p : MemPlace} (hp : p.block < W.heap.size) : W.sameAt W' p := by
  cases p with
  | cell b off => exact h.cell (p := ⟨b, off, none⟩) hp
  | map b => exact h.block b hp
theorem law_at {P : Program} {f : Nat} {args : List AV} {args' : Array Value} {B : Prot} (hB : ∀ i, ¬ B.rs i) {W : World} (hall : ∀ k, k < W.heap.size → B.all k) {ι : Ren} {st : ASt} (hsr : SR B W ι st W) (hv : VRs ι args args')
    (h : AtMem P f args st (.bool true)) : Calls P f args' W fun e w' => e = .returned (.bool true) ∧ Below W.heap.size W w' := by
  have := (h B W ι W args' hB hsr hv).2
  rw [callsIn_wide] at this
  refine this.mono ?_
  rintro e w' ⟨⟨v, st'⟩, hv, x, ι', rfl, _, h2, h3⟩
  simp only at hv h3
  subst hv
  cases h3
  exact ⟨rfl, h2.below.os, h2.below.tape, h2.below.output, h2.below.size, fun k hk => h2.below.block k (hall k hk)⟩
theorem byte_of {z : Int} (h : (Lit.int .u8 z).wf = true) : ∃ n : Nat, z = .ofNat n ∧ n < 256 := by
  have h3 : 0 ≤ z ∧ z ≤ 255 := by
    simp only [Lit.wf, Bool.and_eq_true, decide_eq_true_eq] at h
    exact h
  exact ⟨z.toNat, (Int.toNat_of_nonneg h3.1).symm, by omega⟩
theorem u64_of {z : Int} (h : (Lit.int .u64 z).wf = true) : ∃ n : Nat, z = .ofNat n ∧ n < 18446744073709551616 := by
  have h3 : 0 ≤ z ∧ z ≤ 18446744073709551615 := by
    simp only [Lit.wf, Bool.and_eq_true, decide_eq_true_eq] at h
    exact h
  exact ⟨z.toNat, (Int.toNat_of_nonneg h3.1).symm, by omega⟩
theorem bytes256 {H : Type} {enc : TypeId × Value → H} {W : World} {base fuel : Nat} {spare : Nat → Bool} {held : Bool} {cs : List Value} {x : DataW H × List MemPlace} (h : DataW.trod enc Tryz.prog W base spare held fuel 25 cs = some x) :
    cs.length = 256 ∧ ∃ b : Nat → Nat, (∀ i, b i < 256) ∧ ∀ i, i < 256 → cs[i]? = some (.int .u8 (.ofNat (b i))) := by
  have hlen : cs.length = 256 := by
    obtain ⟨_, _, _, _, hl, _⟩ := DataW.trod_array Tryz.underlying25 h
    rw [hl]
    kernel_rfl
  have c5 : Tryz.prog.cellsOf 5 = 1 := by kernel_rfl
  have each : ∀ i, i < 256 → ∃ n : Nat, cs[i]? = some (.int .u8 (.ofNat n)) ∧ n < 256 := fun i hi => by
    obtain ⟨m, y, hy⟩ := elemOf Tryz.underlying25 h (i := i) hi
    simp only [c5, Nat.mul_one] at hy
    obtain ⟨z, e, hz⟩ := one_int Tryz.underlying5 hy
    obtain ⟨n, rfl, hn⟩ := byte_of hz
    exact ⟨n, e, hn⟩
  refine ⟨hlen, fun i => if h : i < 256 then (each i h).choose else 0, fun i => ?_, fun i hi => ?_⟩
  · by_cases h : i < 256
    · simp only [h, dif_pos]; exact (each i h).choose_spec.2
    · simp only [h, dif_neg, not_false_eq_true]; decide
  · simp only [hi, dif_pos]
    exact (each i hi).choose_spec.1
theorem cmd_of {H : Type} {enc : TypeId × Value → H} {W : World} {base fuel : Nat} {spare : Nat → Bool} {held : Bool} {cs : List Value} {x : DataW H × List MemPlace} (h : DataW.trod enc Tryz.prog W base spare held fuel 31 cs = some x) :
    ∃ (num key nw : Nat) (who k blk ak aw at_ : Int) (b : Nat → Nat), key < 18446744073709551616 ∧ nw < 18446744073709551616 ∧ (∀ i, b i < 256) ∧ cs.length = 265 ∧
      cs[0]? = some (.int .u64 (.ofNat num)) ∧ cs[1]? = some (.int .i64 who) ∧ cs[2]? = some (.int .i64 k) ∧ cs[3]? = some (.int .i64 blk) ∧ (∀ i, i < 256 → cs[4 + i]? = some (.int .u8 (.ofNat (b i)))) ∧
      cs[260]? = some (.int .i64 ak) ∧ cs[261]? = some (.int .i64 aw) ∧ cs[262]? = some (.int .u64 (.ofNat key)) ∧ cs[263]? = some (.int .u64 (.ofNat nw)) ∧ cs[264]? = some (.int .i64 at_) := by
  have hlen : cs.length = 265 := by
    obtain ⟨_, _, _, _, hl, _⟩ := DataW.trod_struct Tryz.underlying31 h
    rw [hl]; kernel_rfl
  have c3 : Tryz.prog.cellsOf 3 = 1 := by kernel_rfl
  have c22 : Tryz.prog.cellsOf 22 = 1 := by kernel_rfl
  have c23 : Tryz.prog.cellsOf 23 = 1 := by kernel_rfl
  have c25 : Tryz.prog.cellsOf 25 = 256 := by kernel_rfl
  have c26 : Tryz.prog.cellsOf 26 = 1 := by kernel_rfl
  have c27 : Tryz.prog.cellsOf 27 = 1 := by kernel_rfl
  have c29 : Tryz.prog.cellsOf 29 = 5 := by kernel_rfl
  obtain ⟨n0, y0, f0⟩ := fieldOf Tryz.underlying31 h (i := 0) rfl
  obtain ⟨n1, y1, f1⟩ := fieldOf Tryz.underlying31 h (i := 1) rfl
  obtain ⟨n2, y2, f2⟩ := fieldOf Tryz.underlying31 h (i := 2) rfl
  obtain ⟨n3, y3, f3⟩ := fieldOf Tryz.underlying31 h (i := 3) rfl
  obtain ⟨n4, y4, f4⟩ := fieldOf Tryz.underlying31 h (i := 4) rfl
  obtain ⟨n5, y5, f5⟩ := fieldOf Tryz.underlying31 h (i := 5) rfl
  replace f0 : DataW.trod enc Tryz.prog W base spare held n0 22 ((cs.drop 0).take (Tryz.prog.cellsOf 22)) = some y0 := f0
  replace f1 : DataW.trod enc Tryz.prog W base spare held n1 3 ((cs.drop 1).take (Tryz.prog.cellsOf 3)) = some y1 := f1
  replace f2 : DataW.trod enc Tryz.prog W base spare held n2 23 ((cs.drop 2).take (Tryz.prog.cellsOf 23)) = some y2 := f2
  replace f3 : DataW.trod enc Tryz.prog W base spare held n3 3 ((cs.drop 3).take (Tryz.prog.cellsOf 3)) = some y3 := f3
  replace f4 : DataW.trod enc Tryz.prog W base spare held n4 25 ((cs.drop 4).take (Tryz.prog.cellsOf 25)) = some y4 := f4
  replace f5 : DataW.trod enc Tryz.prog W base spare held n5 29 ((cs.drop 260).take (Tryz.prog.cellsOf 29)) = some y5 := f5
  rw [c22] at f0
  rw [c3] at f1 f3
  rw [c23] at f2
  rw [c25] at f4
  rw [c29] at f5
  obtain ⟨m0, g0, k0⟩ := fieldOf Tryz.underlying29 f5 (i := 0) rfl
  obtain ⟨m1, g1, k1⟩ := fieldOf Tryz.underlying29 f5 (i := 1) rfl
  obtain ⟨m2, g2, k2⟩ := fieldOf Tryz.underlying29 f5 (i := 2) rfl
  obtain ⟨m3, g3, k3⟩ := fieldOf Tryz.underlying29 f5 (i := 3) rfl
  obtain ⟨m4, g4, k4⟩ := fieldOf Tryz.underlying29 f5 (i := 4) rfl
  replace k0 : DataW.trod enc Tryz.prog W base spare held m0 26 ((((cs.drop 260).take 5).drop 0).take (Tryz.prog.cellsOf 26)) = some g0 := k0
  replace k1 : DataW.trod enc Tryz.prog W base spare held m1 3 ((((cs.drop 260).take 5).drop 1).take (Tryz.prog.cellsOf 3)) = some g1 := k1
  replace k2 : DataW.trod enc Tryz.prog W base spare held m2 22 ((((cs.drop 260).take 5).drop 2).take (Tryz.prog.cellsOf 22)) = some g2 := k2
  replace k3 : DataW.trod enc Tryz.prog W base spare held m3 22 ((((cs.drop 260).take 5).drop 3).take (Tryz.prog.cellsOf 22)) = some g3 := k3
  replace k4 : DataW.trod enc Tryz.prog W base spare held m4 27 ((((cs.drop 260).take 5).drop 4).take (Tryz.prog.cellsOf 27)) = some g4 := k4
  rw [c26] at k0
  rw [c3] at k1
  rw [c22] at k2 k3
  rw [c27] at k4
  obtain ⟨z0, e0, w0⟩ := one_int Tryz.underlying22 f0
  obtain ⟨num, rfl, _⟩ := u64_of w0
  obtain ⟨who, e1, _⟩ := one_int Tryz.underlying3 f1
  obtain ⟨k, e2, _⟩ := one_int Tryz.underlying23 f2
  obtain ⟨blk, e3, _⟩ := one_int Tryz.underlying3 f3
  obtain ⟨_, b, hb, eb⟩ := bytes256 f4
  obtain ⟨ak, q0, _⟩ := one_int Tryz.underlying26 k0
  obtain ⟨aw, q1, _⟩ := one_int Tryz.underlying3 k1
  obtain ⟨z2, q2, w2⟩ := one_int Tryz.underlying22 k2
  obtain ⟨key, rfl, hk⟩ := u64_of w2
  obtain ⟨z3, q3, w3⟩ := one_int Tryz.underlying22 k3
  obtain ⟨nw, rfl, hn⟩ := u64_of w3
  obtain ⟨at_, q4, _⟩ := one_int Tryz.underlying27 k4
  exact ⟨num, key, nw, who, k, blk, ak, aw, at_, b, hk, hn, hb, hlen, e0, e1, e2, e3, fun i hi => sub_get (eb i hi), sub_get q0, sub_get q1, sub_get q2, sub_get q3, sub_get q4⟩
theorem ddL_len (d : Nat → Nat) : (ddL d).length = 256 := by rw [ddL_il, List.length_map, il_len]
theorem ddL_get (d : Nat → Nat) {i : Nat} (hi : i < 256) : (ddL d)[i]? = some (.int .u8 (.ofNat (d i))) := by
  rw [ddL_il, List.getElem?_map]
  unfold il
  rw [List.getElem?_map, List.getElem?_range hi]
  rfl
theorem walk {W : World} (hgl : GlobOK W) {cs bs : Array Value} {m : Int} {num key nw : Nat} {who k blk ak aw at_ : Int} {b e : Nat → Nat} (hk : key < 18446744073709551616) (hn : nw < 18446744073709551616) (hb : ∀ i, b i < 256) (he : ∀ i, e i < 256)
    (hl : cs.toList.length = 265) (e0 : cs.toList[0]? = some (.int .u64 (.ofNat num))) (e1 : cs.toList[1]? = some (.int .i64 who)) (e2 : cs.toList[2]? = some (.int .i64 k)) (e3 : cs.toList[3]? = some (.int .i64 blk)) (eb : ∀ i, i < 256 → cs.toList[4 + i]? = some (.int .u8 (.ofNat (b i))))
    (q0 : cs.toList[260]? = some (.int .i64 ak)) (q1 : cs.toList[261]? = some (.int .i64 aw)) (q2 : cs.toList[262]? = some (.int .u64 (.ofNat key))) (q3 : cs.toList[263]? = some (.int .u64 (.ofNat nw))) (q4 : cs.toList[264]? = some (.int .i64 at_))
    (hl2 : bs.toList.length = 256) (ee : ∀ i, i < 256 → bs.toList[i]? = some (.int .u8 (.ofNat (e i)))) :
    Calls Tryz.prog 3 #[.agg cs, .agg bs, .int .i64 m] W fun e w' => e = .returned (.bool true) ∧ Below W.heap.size W w' := by
  have hsr := rowsO_ok hgl (n := 0) (rows := fun _ => none) (fun i r h => by cases h) (st := mkSt [] 0) rfl (fun i a hi => by
    have h0 : (mkSt [] 0).h.get i = none := T.get_e i
    rw [h0] at hi
    cases hi)
  have hd : ∀ d : Nat → Nat, ∀ c, c ∈ ddL d → c.isCell = true := fun d c hc => by
    rw [ddL_il] at hc
    obtain ⟨x, _, rfl⟩ := List.mem_map.1 hc
    rfl
  have hv : VRs (rowsRen W 0 (fun _ => none)) [.agg (cmK k (.ofNat num) who blk ak aw (.ofNat key) (.ofNat nw) at_ b), .agg (ddL e), .int .i64 m] #[.agg cs, .agg bs, .int .i64 m] := ⟨rfl, fun i x x' hx hx' => by
    match i with
    | 0 =>
      simp only [List.getElem?_cons_zero, Option.some.injEq] at hx
      simp at hx'; subst hx; subst hx'
      have hlen : (cmK k (.ofNat num) who blk ak aw (.ofNat key) (.ofNat nw) at_ b).length = 265 := by
        simp [cmK, cmL, acL, ddL_len]
      refine .agg _ _ (hlen.trans (by simpa using hl.symm)) (fun c hc => ?_) fun j y y' hy hy' => ?_
      · unfold cmK cmL at hc
        simp only [List.mem_append, acL, List.mem_cons, List.not_mem_nil, or_false] at hc
        rcases hc with (rfl | rfl | rfl | rfl) | h | rfl | rfl | rfl | rfl | rfl
        · rfl
        · rfl
        · rfl
        · rfl
        · exact hd _ _ h
        · rfl
        · rfl
        · rfl
        · rfl
        · rfl
      · have hj : j < 265 := by
          have h9 := (List.getElem?_eq_some_iff.mp hy).1
          exact Nat.lt_of_lt_of_eq h9 hlen
        rw [← Array.getElem?_toList] at hy'
        have fin : ∀ {kd : IntKind} {z : Int}, (cmK k (.ofNat num) who blk ak aw (.ofNat key) (.ofNat nw) at_ b)[j]? = some (.int kd z) → cs.toList[j]? = some (.int kd z) → VR (rowsRen W 0 (fun _ => none)) y y' := fun h1 h2 => by
          rw [hy] at h1; rw [hy'] at h2
          cases h1; cases h2
          exact .int _ _
        have hmid : ∀ i, i < 256 → (cmK k (.ofNat num) who blk ak aw (.ofNat key) (.ofNat nw) at_ b)[4 + i]? = some (.int .u8 (.ofNat (b i))) := fun i hi => by
          unfold cmK cmL
          rw [List.getElem?_append_right (by simp), List.getElem?_append_left (by rw [ddL_len]; simp; omega)]
          rw [show 4 + i - [AV.int .u64 (.ofNat num), .int .i64 who, .int .i64 k, .int .i64 blk].length = i by show 4 + i - 4 = i; omega]
          exact ddL_get b hi
        have hend : ∀ i, (cmK k (.ofNat num) who blk ak aw (.ofNat key) (.ofNat nw) at_ b)[260 + i]? = (acL ak aw (.ofNat key) (.ofNat nw) at_)[i]? := fun i => by
          unfold cmK cmL
          rw [List.getElem?_append_right (by show 4 ≤ 260 + i; omega), List.getElem?_append_right (by rw [ddL_len]; show 256 ≤ 260 + i - 4; omega), ddL_len]
          have e9 : 260 + i - [AV.int .u64 (.ofNat num), .int .i64 who, .int .i64 k, .int .i64 blk].length - 256 = i := by show 260 + i - 4 - 256 = i; omega
          rw [e9]
        by_cases c0 : j = 0
        · subst c0; exact fin rfl e0
        by_cases c1 : j = 1
        · subst c1; exact fin rfl e1
        by_cases c2 : j = 2
        · subst c2; exact fin rfl e2
        by_cases c3 : j = 3
        · subst c3; exact fin rfl e3
        by_cases c4 : j < 260
        · obtain ⟨i, rfl⟩ : ∃ i, j = 4 + i := ⟨j - 4, by omega⟩
          exact fin (hmid i (by omega)) (eb i (by omega))
        by_cases d0 : j = 260
        · subst d0; exact fin (hend 0) q0
        by_cases d1 : j = 261
        · subst d1; exact fin (hend 1) q1
        by_cases d2 : j = 262
        · subst d2; exact fin (hend 2) q2
        by_cases d3 : j = 263
        · subst d3; exact fin (hend 3) q3
        · have d4 : j = 264 := by omega
          subst d4; exact fin (hend 4) q4
    | 1 =>
      simp at hx hx'; subst hx; subst hx'
      refine .agg _ _ (by rw [ddL_len]; simpa using hl2.symm) (hd _) fun j y y' hy hy' => ?_
      have hj : j < 256 := by
        have := (List.getElem?_eq_some_iff.mp hy).1
        rwa [ddL_len] at this
      rw [ddL_get e hj] at hy
      rw [← Array.getElem?_toList, ee j hj] at hy'
      cases hy; cases hy'
      exact .int _ _
    | 2 => simp at hx hx'; subst hx; subst hx'; exact .int _ _
    | i + 3 => simp at hx⟩
  exact law_at (fun _ h => h) (fun k hk => .inr hk) hsr hv (law_mem hk hn hb he)
def laidAll : List (String × DataW Unit) := [("math/bits.deBruijn32tab", Rows.laid_math_bits_deBruijn32tab), ("math/bits.deBruijn64tab", Rows.laid_math_bits_deBruijn64tab), ("internal/strconv.uint64pow10", Rows.laid_internal_strconv_uint64pow10), ("unicode/utf8.acceptRanges", Rows.laid_unicode_utf8_acceptRanges), ("unicode/utf8.first", Rows.laid_unicode_utf8_first)]
def wit : Array Value := #[.agg (#[.int .u64 0, .int .i64 0, .int .i64 0, .int .i64 0] ++ Array.replicate 256 (.int .u8 0) ++ #[.int .i64 0, .int .i64 0, .int .u64 0, .int .u64 0, .int .i64 0]), .agg (Array.replicate 256 (.int .u8 0)), .int .i64 0]
theorem door_met (os : Os) (args : Array Value) : laidMetH Tryz.prog laidAll ((World.laidAll Tryz.prog os laidAll).forCall (fun _ _ => 0) ⟨#[], args, []⟩).memory := by
  rw [MakeChecks.laidMetH_plain _ _ _ (by kernel_rfl)]
  exact laidMet_laidAll _ (by kernel_rfl) (by kernel_rfl)
set_option maxRecDepth 100000 in
theorem lifted (os : Os) (started : os.Started) (H : Type) (enc : TypeId × Value → H) :
    ReturnsInHanded {} Tryz.checked os 3 .any (fun w args => (Rows.scriptPartsSpec.pre enc Tryz.prog Tryz.f3 [] false w args ∧ laidMetH Tryz.prog laidAll w) ∧ sizedMet enc Tryz.prog Tryz.f3 (OpenSpec.ofChange Rows.scriptPartsSpec) false w args)
      (Rows.scriptPartsSpec.post enc Tryz.prog Tryz.f3 false true false false) := by
  refine returnsInHanded_of_change_and (C := Tryz.checked) (X := fun w _ => laidMetH Tryz.prog laidAll w) (fun _ _ _ hh h => h.of_heap hh) own started (by kernel_rfl) Tryz.func3
    (ChangeSpec.witness_shaped (enc := enc) (C := Tryz.checked) (os := os) (X := fun w _ => laidMetH Tryz.prog laidAll w) false (World.laidAll Tryz.prog os laidAll) wit 8 (World.laidAll_os _ _ _) (World.shaped_of_ZipB (by kernel_rfl) (by kernel_rfl)) (by kernel_rfl) (by kernel_rfl) (by kernel_rfl) (door_met os _)) ?_
  intro W base args ds gs before hval0 hW _ _ hL _
  have hval : ∀ (j : Nat) t v, Tryz.f3.params[j]? = some t → args[j]? = some v → Value.okWide Tryz.prog W .any base t v := hval0
  have hW' := hW
  obtain ⟨p, q, hA0, hV, rfl, hfz, hnd⟩ := hW
  have hA : DataW.TrodAll enc Tryz.prog W 0 (fun _ => true) true Tryz.f3.params.toList args.toList ds p := hA0
  rw [Tryz.params3] at hA hval
  obtain ⟨v0, v1, v2, d0, d1, d2, p0, p1, p2, rfl, rfl, rfl, h0, h1, h2⟩ := trodAll_three hA
  obtain ⟨rfl, rfl⟩ := trodVars_none hV
  obtain ⟨cs, rfl, hsz⟩ := okWide_struct Tryz.underlying31 (hval 0 31 v0 rfl rfl)
  obtain ⟨bs, rfl, hsb⟩ := okWide_arr Tryz.underlying25 (hval 1 25 v1 rfl rfl)
  obtain ⟨m, rfl, rfl, rfl, wm⟩ := open_int Tryz.underlying3 (hval 2 3 v2 rfl rfl) h2
  have h0k := h0
  have h1k := h1
  obtain ⟨fu0, hf0⟩ := h0
  obtain ⟨fu1, hf1⟩ := h1
  clear hA0 hval0
  have hW0 := hW'
  simp only [List.append_nil] at hW'
  have hlt0 : ∀ x ∈ p0, x.block < W.heap.size := fun x hx => by simpa using hW'.lt x (by simp only [List.mem_append]; exact .inl hx)
  have hlt1 : ∀ x ∈ p1, x.block < W.heap.size := fun x hx => by simpa using hW'.lt x (by simp only [List.mem_append]; exact .inr hx)
  have hf0' : DataW.trod enc Tryz.prog W 0 (fun _ => true) true fu0 31 cs.toList = some (d0, p0) := hf0
  have hf1' : DataW.trod enc Tryz.prog W 0 (fun _ => true) true fu1 25 bs.toList = some (d1, p1) := hf1
  obtain ⟨num, key, nw, who, k, blk, ak, aw, at_, b, hk, hn, hb, hl, e0, e1, e2, e3, eb, q0, q1, q2, q3, q4⟩ := cmd_of hf0'
  obtain ⟨hl2, e, he, ee⟩ := bytes256 hf1'
  refine (walk (globPart.globOK hL) hk hn hb he hl e0 e1 e2 e3 eb q0 q1 q2 q3 q4 hl2 ee).mono fun e W' ⟨he, bel⟩ => ?_
  subst he
  have ARG0 : DataW.Trod enc Tryz.prog W' 0 (fun x => decide (x < W.heap.size)) true 31 (.agg cs) d0 p0 :=
    WideElems.Trod_stays laidOut (by kernel_rfl) (of_decide_eq_true (by kernel_rfl)) h0k (fun x hx => same_below bel (hlt0 x hx)) (fun x hx => by simpa using hlt0 x hx)
  have ARG1 : DataW.Trod enc Tryz.prog W' 0 (fun x => decide (x < W.heap.size)) true 25 (.agg bs) d1 p1 :=
    WideElems.Trod_stays laidOut (by kernel_rfl) (of_decide_eq_true (by kernel_rfl)) h1k (fun x hx => same_below bel (hlt1 x hx)) (fun x hx => by simpa using hlt1 x hx)
  exact ⟨_, rfl, _, _, _, [], _, [], hW0, trodAll_mk1 (shut_bool Tryz.underlying4 _), trodAll_mk3 ARG0 ARG1 (shut_int Tryz.underlying3 wm), rfl, bel.frame _, fun h => by cases h⟩
theorem over : Rows.scriptPartsRow.holds Tryz.pinned (OpenSpec.ofChange Rows.scriptPartsSpec) :=
  OpenClaim.holds_of_wide 3 Tryz.f3 rfl rfl rfl rfl rfl rfl rfl ⟨rfl, rfl, rfl, rfl, rfl⟩ rfl rfl rfl rfl rfl (by kernel_rfl) Tryz.func3 (by kernel_rfl)
    (of_decide_eq_true (by kernel_rfl)) (by unfold Func.isWrapper; first | (rw [if_pos (by decide +kernel)]; kernel_rfl) | (rw [if_neg (by decide +kernel)]; exact ⟨rfl, rfl⟩))
    (fun os started H enc _ => lifted os started H enc)
set_option maxRecDepth 100000 in
theorem proved : Rows.ScriptPartsCardSaid :=
  Claim7.holds_tied_plain_at .later [] [.data, .data, .data, .data, .pinned] true (true, "1744fa35d596e300cad6bd3b1f12cab5886ca8eb22f64e2d26da82f587e521ab") false
    over (fun _ h => by cases h) (by kernel_rfl) (fun _ h => by cases h) scriptParts_row_tie rfl ⟨rfl, rfl⟩ (by kernel_rfl) rfl
    (fun f fn hf hfn => by
      obtain rfl : f = 3 := Option.some.inj ((show Tryz.prog.funcNamed "gemel/gemellaw25.ScriptParts" = some 3 by kernel_rfl).symm.trans hf) |>.symm
      obtain rfl : fn = Tryz.f3 := (Option.some.inj (Tryz.func3.symm.trans hfn)).symm
      exact ⟨by kernel_rfl, fun j t ht => by
        rw [Tryz.params3] at ht
        match j with
        | 0 => simp at ht; subst ht; exact (by kernel_rfl : Tryz.prog.wantsStandIn 31 = false)
        | 1 => simp at ht; subst ht; exact (by kernel_rfl : Tryz.prog.wantsStandIn 25 = false)
        | 2 => simp at ht; subst ht; exact (by kernel_rfl : Tryz.prog.wantsStandIn 3 = false)
        | j + 3 => simp at ht⟩)
    (by kernel_rfl)
end
#print axioms proved
end Go.Proofs.YtcboepooglaogaaGreatDoor.spt
end
