/-
  OWN WORK, A PART: an abstract machine for the program's text that the kernel can run, and the proof that it is sound: what it answers is what the program answers; contracts of functions by it. No condition.
-/
import Derived.Test.YtidmijpfoodkoaaDoorRows
import Derived.Test.YtidmijpfoodkoaaDoorWaF
import Derived.WalkKit
import Derived.ProofKit
import Derived.OpenVars
import Derived.OpenShut
import Derived.LaidMore
import Derived.Lay
import Derived.Stop.Joined
section
namespace Go.Proofs.YtidmijpfoodkoaaDoor.globPart
open Go.ChangeShapes Go.WideShapes Go.ChangeAt Go.RowKit Go.Ax
def tab : List Int := [0, 1, 3, 2, 4, 6, 5, 7, 8]
theorem globOK {W : World} (h : laidMetH Tryd.prog [("gemel/uuid.turned", Rows.laid_gemel_uuid_turned)] W) : GlobOK W := by
  rw [MakeChecks.laidMetH_plain _ _ _ (by kernel_rfl)] at h
  obtain ⟨ps, ⟨g, t, cs, fuel, p, q, hg, ht, hv, hd, _, _⟩, _, _⟩ := h
  obtain rfl := Option.some.inj ((show Tryd.prog.globalNamed "gemel/uuid.turned" = some 0 by kernel_rfl).symm.trans hg)
  obtain rfl := Option.some.inj ((show (Tryd.prog.globals[0]?).map (·.type) = some 51 by kernel_rfl).symm.trans ht)
  obtain ⟨xs, m, _, ex, hcl, hl, hel⟩ := DataW.trod_array Tryd.underlying51 hd
  have c5 : Tryd.prog.cellsOf 34 = 1 := by kernel_rfl
  have c9 : Tryd.prog.cellsOf 51 = 9 := by kernel_rfl
  have htl : tab.length = 9 := by kernel_rfl
  have e3 : (xs.map (·.1)) = tab.map fun n => .lit (.int .i64 n) := (DataW.agg.inj (Prod.mk.inj ex).1).symm
  have hcell : ∀ r, r < 9 → cs[r]? = some (.int .i64 (tab.getD r 0)) := fun r hr => by
    have hE := hel r hr
    rw [c5, Nat.mul_one, List.getElem?_eq_getElem (by omega)] at hE
    obtain ⟨z, e1, e2, _⟩ := DataW.trod_int Tryd.underlying34 hE
    have e4 : (xs.map (·.1))[r]? = (tab.map fun n => (DataW.lit (.int .i64 n) : DataW Unit))[r]? := by rw [e3]
    rw [List.getElem?_map, List.getElem?_map, List.getElem?_eq_getElem (by omega : r < xs.length), List.getElem?_eq_getElem (by omega : r < tab.length), e2] at e4
    have hz : z = tab.getD r 0 := by
      simp only [Option.map_some, Option.some.injEq, DataW.lit.injEq, Lit.int.injEq, true_and] at e4
      rw [e4, List.getD, List.getElem?_eq_getElem (by omega : r < tab.length)]; rfl
    rw [← hz]
    have h0 : ((cs.toList.drop r).take 1)[0]? = some (.int .i64 z) := by rw [e1]; rfl
    simpa using h0
  intro g ds hgl
  have hg0 : g = 0 ∧ ds = tab.map fun n => AV.int .i64 n := by
    unfold glV at hgl
    cases hb : Nat.beq g 0
    · rw [hb] at hgl; cases hgl
    · rw [hb, cond_true, Option.some.injEq] at hgl
      exact ⟨Nat.eq_of_beq_eq_true hb, hgl.symm.trans (by rfl)⟩
  obtain ⟨rfl, rfl⟩ := hg0
  refine ⟨fun v hv => by obtain ⟨n, _, rfl⟩ := List.mem_map.1 hv; rfl, ?_⟩
  have hw : ∃ e m, W.heap[0]? = some (.cells cs e m) := by
    unfold World.var? at hv
    rw [show Tryd.prog.globalNamed "gemel/uuid.turned" = some 0 by kernel_rfl] at hv
    simp only [Option.bind_some] at hv
    split at hv
    · rename_i c e m hc
      simp only [Option.some.injEq] at hv; subst hv
      exact ⟨e, m, hc⟩
    · cases hv
  obtain ⟨e, mk, hw⟩ := hw
  refine ⟨cs, e, mk, hw, ?_, fun k v v' hk hk' ι => ?_⟩
  · rw [List.length_map, htl]
    have := hcl
    rw [c9] at this
    simpa using this.symm
  · have hk9 : k < 9 := by have := (List.getElem?_eq_some_iff.1 hk).1; simpa [htl] using this
    rw [hcell k hk9] at hk'
    rw [List.getElem?_map, List.getElem?_eq_getElem (by omega : k < tab.length)] at hk
    simp only [Option.map_some, Option.some.injEq] at hk hk'
    subst hk; subst hk'
    rw [List.getD, List.getElem?_eq_getElem (by omega : k < tab.length)]
    exact .int _ _
end Go.Proofs.YtidmijpfoodkoaaDoor.globPart
end
