/-
  OWN WORK, A PART: an abstract machine for the program's text that the kernel can run, and the proof that it is sound: what it answers is what the program answers; contracts of functions by it. No condition.
-/
import Derived.Test.YtiafochainjglaaGreatDoorRows
import Derived.Test.YtiafochainjglaaGreatDoorWaF
import Derived.WalkKit
import Derived.ProofKit
import Derived.OpenVars
import Derived.OpenShut
import Derived.LaidMore
import Derived.Lay
import Derived.Stop.Joined
import Derived.Test.YtiafochainjglaaGreatDoorWaJ
section
namespace Go.Proofs.YtiafochainjglaaGreatDoor.globPart
open Go.ChangeShapes Go.WideShapes Go.ChangeAt Go.RowKit Go.Ax
set_option linter.unusedVariables false
section
variable {P : Program} {w : World}
theorem laid_at : ∀ {laid : List (String × DataW Unit)} {ps : List MemPlace}, DataW.LaidVars P w laid ps → ∀ n d, (n, d) ∈ laid → ∃ g t cs fuel p, P.globalNamed n = some g ∧ (P.globals[g]?).map (·.type) = some t ∧ w.var? P n = some cs ∧ DataW.trod (fun _ => ()) P w 0 (fun _ => true) false fuel t cs.toList = some (d, p)
  | [], ps, h, n, d, hm => by cases hm
  | (n0, d0) :: r, ps, h, n, d, hm => by
    obtain ⟨g, t, cs, fuel, p, q, h1, h2, h3, h4, h5, _⟩ := h
    rcases List.mem_cons.1 hm with e | hm
    · cases e
      exact ⟨g, t, cs, fuel, p, h1, h2, h3, h4⟩
    · exact laid_at h5 n d hm
theorem heap_at {n : String} {g : Nat} {cs : Array Value} (hn : P.globalNamed n = some g) (hv : w.var? P n = some cs) : ∃ e m, w.heap[g]? = some (.cells cs e m) := by
  unfold World.var? at hv
  rw [hn] at hv
  simp only [Option.bind_some] at hv
  split at hv
  · rename_i c e m hc
    simp only [Option.some.injEq] at hv; subst hv
    exact ⟨e, m, hc⟩
  · cases hv
theorem ints_at {n : String} {g at_ et : Nat} {k : IntKind} {zs : List Int} {ds : List AV} {laid : List (String × DataW Unit)} {ps : List MemPlace} (h : DataW.LaidVars P w laid ps) (hm : (n, DataW.agg (zs.map fun z => .lit (.int k z))) ∈ laid)
    (hn : P.globalNamed n = some g) (ht : (P.globals[g]?).map (·.type) = some at_) (hu : P.underlying at_ = some (.array zs.length et)) (he : P.underlying et = some (.int k)) (hc : P.cellsOf et = 1) (hca : P.cellsOf at_ = zs.length) (hds : ds = zs.map fun z => .int k z) :
    (∀ v, v ∈ ds → v.isCell = true) ∧ ∃ cs e m, w.heap[g]? = some (.cells cs e m) ∧ ds.length = cs.size ∧ ∀ (i : Nat) v v', ds[i]? = some v → cs[i]? = some v' → ∀ ι, VR ι v v' := by
  subst hds
  refine ⟨fun v hv => by obtain ⟨z, _, rfl⟩ := List.mem_map.1 hv; rfl, ?_⟩
  obtain ⟨g', t', cs, fuel, p, h1, h2, h3, h4⟩ := laid_at h n _ hm
  obtain rfl := Option.some.inj (hn.symm.trans h1)
  obtain rfl := Option.some.inj (ht.symm.trans h2)
  obtain ⟨e, m, hw⟩ := heap_at hn h3
  obtain ⟨xs, m2, _, ex, hcl, hl, hel⟩ := DataW.trod_array hu h4
  have e3 : xs.map (·.1) = zs.map fun z => .lit (.int k z) := (DataW.agg.inj (Prod.mk.inj ex).1).symm
  refine ⟨cs, e, m, hw, ?_, fun i v v' hv hv' ι => ?_⟩
  · rw [List.length_map]
    rw [hca] at hcl
    simpa using hcl.symm
  · rw [List.getElem?_map, Option.map_eq_some_iff] at hv
    obtain ⟨z, hz, rfl⟩ := hv
    have hi : i < zs.length := (List.getElem?_eq_some_iff.1 hz).1
    have hE := hel i hi
    rw [hc, Nat.mul_one, List.getElem?_eq_getElem (by omega)] at hE
    obtain ⟨z', e1, e2, _⟩ := DataW.trod_int he hE
    have e4 : (xs.map (·.1))[i]? = (zs.map fun z => (DataW.lit (.int k z) : DataW Unit))[i]? := by rw [e3]
    rw [List.getElem?_map, List.getElem?_map, List.getElem?_eq_getElem (by omega : i < xs.length), hz, e2] at e4
    simp only [Option.map_some, Option.some.injEq, DataW.lit.injEq, Lit.int.injEq, true_and] at e4
    have h0 : ((cs.toList.drop i).take 1)[0]? = some (.int k z') := by rw [e1]; rfl
    have h6 : cs[i]? = some (.int k z') := by simpa using h0
    rw [h6] at hv'
    cases hv'
    rw [e4]
    exact .int _ _
theorem strs_at {n : String} {g at_ et : Nat} {zs : List (List UInt8)} {ds : List AV} {laid : List (String × DataW Unit)} {ps : List MemPlace} (h : DataW.LaidVars P w laid ps) (hm : (n, DataW.agg (zs.map fun z => .lit (.string z))) ∈ laid)
    (hn : P.globalNamed n = some g) (ht : (P.globals[g]?).map (·.type) = some at_) (hu : P.underlying at_ = some (.array zs.length et)) (he : P.underlying et = some .string) (hc : P.cellsOf et = 1) (hca : P.cellsOf at_ = zs.length) (hds : ds = zs.map fun z => .str (z.map UInt8.toNat)) :
    (∀ v, v ∈ ds → v.isCell = true) ∧ ∃ cs e m, w.heap[g]? = some (.cells cs e m) ∧ ds.length = cs.size ∧ ∀ (i : Nat) v v', ds[i]? = some v → cs[i]? = some v' → ∀ ι, VR ι v v' := by
  subst hds
  refine ⟨fun v hv => by obtain ⟨z, _, rfl⟩ := List.mem_map.1 hv; rfl, ?_⟩
  obtain ⟨g', t', cs, fuel, p, h1, h2, h3, h4⟩ := laid_at h n _ hm
  obtain rfl := Option.some.inj (hn.symm.trans h1)
  obtain rfl := Option.some.inj (ht.symm.trans h2)
  obtain ⟨e, m, hw⟩ := heap_at hn h3
  obtain ⟨xs, m2, _, ex, hcl, hl, hel⟩ := DataW.trod_array hu h4
  have e3 : xs.map (·.1) = zs.map fun z => .lit (.string z) := (DataW.agg.inj (Prod.mk.inj ex).1).symm
  refine ⟨cs, e, m, hw, ?_, fun i v v' hv hv' ι => ?_⟩
  · rw [List.length_map]
    rw [hca] at hcl
    simpa using hcl.symm
  · rw [List.getElem?_map, Option.map_eq_some_iff] at hv
    obtain ⟨z, hz, rfl⟩ := hv
    have hi : i < zs.length := (List.getElem?_eq_some_iff.1 hz).1
    have hE := hel i hi
    rw [hc, Nat.mul_one, List.getElem?_eq_getElem (by omega)] at hE
    obtain ⟨s, e1, e2, _⟩ := DataW.trod_string he hE
    have e4 : (xs.map (·.1))[i]? = (zs.map fun z => (DataW.lit (.string z) : DataW Unit))[i]? := by rw [e3]
    rw [List.getElem?_map, List.getElem?_map, List.getElem?_eq_getElem (by omega : i < xs.length), hz, e2] at e4
    simp only [Option.map_some, Option.some.injEq, DataW.lit.injEq, Lit.string.injEq] at e4
    have h0 : ((cs.toList.drop i).take 1)[0]? = some (.string s) := by rw [e1]; rfl
    have h6 : cs[i]? = some (.string s) := by simpa using h0
    rw [h6] at hv'
    cases hv'
    exact .str _ _ (by rw [e4])
end
def tab0 : List (List UInt8) := [[109, 101, 116, 97], [115, 117, 112, 101, 114], [108, 105, 110, 101], [116, 97, 98, 108, 101], [107, 101, 121], [109, 97, 112], [104, 111, 116]]
def tab1 : List Int := [1, 10, 100, 1000, 10000, 100000, 1000000, 10000000, 100000000, 1000000000, 10000000000, 100000000000, 1000000000000, 10000000000000, 100000000000000, 1000000000000000, 10000000000000000, 100000000000000000, 1000000000000000000, 10000000000000000000]
def tab2 : List Int := [0, 1, 28, 2, 29, 14, 24, 3, 30, 22, 20, 15, 25, 17, 4, 8, 31, 27, 13, 23, 21, 19, 16, 7, 26, 12, 18, 6, 11, 5, 10, 9]
def tab3 : List Int := [0, 1, 56, 2, 57, 49, 28, 3, 61, 58, 42, 50, 38, 29, 17, 4, 62, 47, 59, 36, 45, 43, 51, 22, 53, 39, 33, 30, 24, 18, 12, 5, 63, 55, 48, 27, 60, 41, 37, 16, 46, 35, 44, 21, 52, 32, 23, 11, 54, 26, 40, 15, 34, 20, 31, 10, 25, 14, 19, 9, 13, 8, 7, 6]
theorem globOK {W : World} (h : laidMetH Tryz.prog [("math/bits.deBruijn32tab", Rows.laid_math_bits_deBruijn32tab), ("math/bits.deBruijn64tab", Rows.laid_math_bits_deBruijn64tab), ("internal/strconv.uint64pow10", Rows.laid_internal_strconv_uint64pow10), ("unicode/utf8.acceptRanges", Rows.laid_unicode_utf8_acceptRanges), ("strconv.ErrRange", Rows.laid_strconv_ErrRange), ("strconv.ErrSyntax", Rows.laid_strconv_ErrSyntax), ("gemel/meta.words", Rows.laid_gemel_meta_words), ("unicode/utf8.first", Rows.laid_unicode_utf8_first)] W) : GlobOK W := by
  rw [MakeChecks.laidMetH_plain _ _ _ (by kernel_rfl)] at h
  obtain ⟨ps, hl, _, _⟩ := h
  intro g ds hgl
  unfold glV at hgl
  cases hb0 : Nat.beq g 0 with
  | true =>
    rw [hb0, cond_true, Option.some.injEq] at hgl
    obtain rfl := Nat.eq_of_beq_eq_true hb0
    have q := strs_at (g := 0) (zs := tab0) hl (List.mem_cons_of_mem _ (List.mem_cons_of_mem _ (List.mem_cons_of_mem _ (List.mem_cons_of_mem _ (List.mem_cons_of_mem _ (List.mem_cons_of_mem _ List.mem_cons_self)))))) (by kernel_rfl) (by kernel_rfl : _ = some 155) Tryz.underlying155 Tryz.underlying9 (by kernel_rfl) (by kernel_rfl) (hgl.symm.trans (by rfl))
    exact ⟨q.1, q.2⟩
  | false =>
  rw [hb0, cond_false] at hgl
  cases hb1 : Nat.beq g 4 with
  | true =>
    rw [hb1, cond_true, Option.some.injEq] at hgl
    obtain rfl := Nat.eq_of_beq_eq_true hb1
    have q := ints_at (g := 4) (zs := tab1) hl (List.mem_cons_of_mem _ (List.mem_cons_of_mem _ List.mem_cons_self)) (by kernel_rfl) (by kernel_rfl : _ = some 314) Tryz.underlying314 Tryz.underlying24 (by kernel_rfl) (by kernel_rfl) (hgl.symm.trans (by rfl))
    exact ⟨q.1, q.2⟩
  | false =>
  rw [hb1, cond_false] at hgl
  cases hb2 : Nat.beq g 7 with
  | true =>
    rw [hb2, cond_true, Option.some.injEq] at hgl
    obtain rfl := Nat.eq_of_beq_eq_true hb2
    have q := ints_at (g := 7) (zs := tab2) hl List.mem_cons_self (by kernel_rfl) (by kernel_rfl : _ = some 190) Tryz.underlying190 Tryz.underlying5 (by kernel_rfl) (by kernel_rfl) (hgl.symm.trans (by rfl))
    exact ⟨q.1, q.2⟩
  | false =>
  rw [hb2, cond_false] at hgl
  cases hb3 : Nat.beq g 8 with
  | true =>
    rw [hb3, cond_true, Option.some.injEq] at hgl
    obtain rfl := Nat.eq_of_beq_eq_true hb3
    have q := ints_at (g := 8) (zs := tab3) hl (List.mem_cons_of_mem _ List.mem_cons_self) (by kernel_rfl) (by kernel_rfl : _ = some 323) Tryz.underlying323 Tryz.underlying5 (by kernel_rfl) (by kernel_rfl) (hgl.symm.trans (by rfl))
    exact ⟨q.1, q.2⟩
  | false =>
  rw [hb3, cond_false] at hgl
  cases hgl
end Go.Proofs.YtiafochainjglaaGreatDoor.globPart
end

section
namespace Go.Proofs.YtiafochainjglaaGreatDoor.joinPart
open Go.Shelf
set_option linter.unusedVariables false
def ren : Go.Shelf.Ren := ⟨fun | 156 => 100 | 165 => 162 | 166 => 163 | 169 => 164 | 240 => 191 | 241 => 192 | 276 => 221 | 277 => 222 | n => n, fun | 31 => 158 | 9 => 9 | 3 => 3 | 4 => 4 | 0 => 0 | 20 => 20 | 72 => 218 | 76 => 222 | 70 => 216 | 37 => 176 | 75 => 221 | 127 => 249 | 164 => 274 | 5 => 5 | 80 => 164 | n => n, fun n => n⟩
theorem lays : Lays.n156 Tryz.prog ren :=
  { mixed := by kernel_rfl,
    f156 := Tryz.func100.trans (congrArg some (by kernel_rfl)),
    f165 := Tryz.func162.trans (congrArg some (by kernel_rfl)),
    f166 := Tryz.func163.trans (congrArg some (by kernel_rfl)),
    f169 := Tryz.func164.trans (congrArg some (by kernel_rfl)),
    f240 := Tryz.func191.trans (congrArg some (by kernel_rfl)),
    f241 := Tryz.func192.trans (congrArg some (by kernel_rfl)),
    f276 := Tryz.func221.trans (congrArg some (by kernel_rfl)),
    f277 := Tryz.func222.trans (congrArg some (by kernel_rfl)),
    t0 := Tryz.underlying0,
    a0 := Tryz.isAgg0,
    z0 := Tryz.sizeOf0,
    v0 := Tryz.zeroValue0,
    t3 := Tryz.underlying3,
    a3 := Tryz.isAgg3,
    z3 := Tryz.sizeOf3,
    v3 := Tryz.zeroValue3,
    t4 := Tryz.underlying4,
    a4 := Tryz.isAgg4,
    z4 := Tryz.sizeOf4,
    v4 := Tryz.zeroValue4,
    t9 := Tryz.underlying9,
    a9 := Tryz.isAgg9,
    z9 := Tryz.sizeOf9,
    v9 := Tryz.zeroValue9,
    t20 := Tryz.underlying20,
    a20 := Tryz.isAgg20,
    z20 := Tryz.sizeOf20,
    v20 := Tryz.zeroValue20,
    t31 := Tryz.underlying158,
    a31 := Tryz.isAgg158,
    z31 := Tryz.sizeOf158,
    v31 := Tryz.zeroValue158,
    t37 := Tryz.underlying176,
    a37 := Tryz.isAgg176,
    z37 := Tryz.sizeOf176,
    v37 := Tryz.zeroValue176,
    t70 := Tryz.underlying216,
    a70 := Tryz.isAgg216,
    z70 := Tryz.sizeOf216,
    v70 := Tryz.zeroValue216,
    t72 := Tryz.underlying218,
    a72 := Tryz.isAgg218,
    z72 := Tryz.sizeOf218,
    v72 := Tryz.zeroValue218,
    t75 := Tryz.underlying221,
    a75 := Tryz.isAgg221,
    z75 := Tryz.sizeOf221,
    v75 := Tryz.zeroValue221,
    t76 := Tryz.underlying222,
    a76 := Tryz.isAgg222,
    z76 := Tryz.sizeOf222,
    v76 := Tryz.zeroValue222,
    t127 := Tryz.underlying249,
    a127 := Tryz.isAgg249,
    z127 := Tryz.sizeOf249,
    v127 := Tryz.zeroValue249,
    t164 := Tryz.underlying274,
    a164 := Tryz.isAgg274,
    z164 := Tryz.sizeOf274,
    v164 := Tryz.zeroValue274 }
theorem extra : Builder.Extra Tryz.prog ren :=
  { sizeBuilder := by kernel_rfl, liesBuilder := by kernel_rfl, t5 := Tryz.underlying5, a5 := Tryz.isAgg5, z5 := Tryz.sizeOf5, v5 := Tryz.zeroValue5, infoByte := by kernel_rfl, cellsByte := by kernel_rfl, sizeByte := by kernel_rfl, neB5 := by decide }
theorem join_ok : Go.Ax.CallsOK Tryz.prog (Go.Ax.sumJoin 100) := Go.Ax.sumJoin_ok lays extra
end Go.Proofs.YtiafochainjglaaGreatDoor.joinPart
end
