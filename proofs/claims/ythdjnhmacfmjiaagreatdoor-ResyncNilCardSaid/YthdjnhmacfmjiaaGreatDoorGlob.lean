/-
  OWN WORK: what the row lists of the program's variables is what the abstract machine takes them to hold.
-/
import Derived.Test.YthdjnhmacfmjiaaGreatDoorRows
import Derived.Test.YthdjnhmacfmjiaaGreatDoorAxGc
import Derived.WalkKit
import Derived.ProofKit
import Derived.OpenVars
import Derived.OpenShut
import Derived.LaidMore
import Derived.Lay
import Derived.Stop.Joined
namespace Go.Proofs.YthdjnhmacfmjiaaGreatDoor.globPart
open Go.ChangeShapes Go.WideShapes Go.ChangeAt Go.RowKit Go.Ax

def tab : List Int := [0, 1, 56, 2, 57, 49, 28, 3, 61, 58, 42, 50, 38, 29, 17, 4, 62, 47, 59, 36, 45, 43, 51, 22, 53, 39, 33, 30, 24, 18, 12, 5, 63, 55, 48, 27, 60, 41, 37, 16, 46, 35, 44, 21, 52, 32, 23, 11, 54, 26, 40, 15, 34, 20, 31, 10, 25, 14, 19, 9, 13, 8, 7, 6]

theorem globOK {W : World} (h : laidMetH Tryz.prog [("math/bits.deBruijn64tab", Rows.laid_math_bits_deBruijn64tab)] W) : GlobOK W := by
  rw [MakeChecks.laidMetH_plain _ _ _ (by kernel_rfl)] at h
  obtain ⟨ps, ⟨g, t, cs, fuel, p, q, hg, ht, hv, hd, _, _⟩, _, _⟩ := h
  obtain rfl := Option.some.inj ((show Tryz.prog.globalNamed "math/bits.deBruijn64tab" = some 0 by kernel_rfl).symm.trans hg)
  obtain rfl := Option.some.inj ((show (Tryz.prog.globals[0]?).map (·.type) = some 214 by kernel_rfl).symm.trans ht)
  obtain ⟨xs, m, _, ex, hcl, hl, hel⟩ := DataW.trod_array Tryz.underlying214 hd
  have c5 : Tryz.prog.cellsOf 5 = 1 := by kernel_rfl
  have c64 : Tryz.prog.cellsOf 214 = 64 := by kernel_rfl
  have htl : tab.length = 64 := by kernel_rfl
  have e3 : (xs.map (·.1)) = tab.map fun n => .lit (.int .u8 n) := (DataW.agg.inj (Prod.mk.inj ex).1).symm
  have hcell : ∀ r, r < 64 → cs[r]? = some (.int .u8 (tab.getD r 0)) := fun r hr => by
    have hE := hel r hr
    rw [c5, Nat.mul_one, List.getElem?_eq_getElem (by omega)] at hE
    obtain ⟨z, e1, e2, _⟩ := DataW.trod_int Tryz.underlying5 hE
    have e4 : (xs.map (·.1))[r]? = (tab.map fun n => (DataW.lit (.int .u8 n) : DataW Unit))[r]? := by rw [e3]
    rw [List.getElem?_map, List.getElem?_map, List.getElem?_eq_getElem (by omega : r < xs.length), List.getElem?_eq_getElem (by omega : r < tab.length), e2] at e4
    have hz : z = tab.getD r 0 := by
      simp only [Option.map_some, Option.some.injEq, DataW.lit.injEq, Lit.int.injEq, true_and] at e4
      rw [e4, List.getD, List.getElem?_eq_getElem (by omega : r < tab.length)]; rfl
    rw [← hz]
    have h0 : ((cs.toList.drop r).take 1)[0]? = some (.int .u8 z) := by rw [e1]; rfl
    simpa using h0
  intro g ds hgl
  have hg0 : g = 0 ∧ ds = tab.map fun n => AV.int .u8 n := by
    unfold glV at hgl
    cases hb : Nat.beq g 0
    · rw [hb] at hgl; cases hgl
    · rw [hb, cond_true, Option.some.injEq] at hgl
      exact ⟨Nat.eq_of_beq_eq_true hb, hgl.symm.trans (by rfl)⟩
  obtain ⟨rfl, rfl⟩ := hg0
  refine ⟨fun v hv => by obtain ⟨n, _, rfl⟩ := List.mem_map.1 hv; rfl, ?_⟩
  have hw : ∃ e m, W.heap[0]? = some (.cells cs e m) := by
    unfold World.var? at hv
    rw [show Tryz.prog.globalNamed "math/bits.deBruijn64tab" = some 0 by kernel_rfl] at hv
    simp only [Option.bind_some] at hv
    split at hv
    · rename_i c e m hc
      simp only [Option.some.injEq] at hv; subst hv
      exact ⟨e, m, hc⟩
    · cases hv
  obtain ⟨e, mk, hw⟩ := hw
  refine ⟨cs, e, mk, hw, ?_, fun k v v' hk hk' ι => ?_⟩
  · rw [List.length_map, htl]
    have := hcl
    rw [c64] at this
    simpa using this.symm
  · have hk64 : k < 64 := by have := (List.getElem?_eq_some_iff.1 hk).1; simpa [htl] using this
    rw [hcell k hk64] at hk'
    rw [List.getElem?_map, List.getElem?_eq_getElem (by omega : k < tab.length)] at hk
    simp only [Option.map_some, Option.some.injEq] at hk hk'
    subst hk; subst hk'
    rw [List.getD, List.getElem?_eq_getElem (by omega : k < tab.length)]
    exact .int _ _
end Go.Proofs.YthdjnhmacfmjiaaGreatDoor.globPart
