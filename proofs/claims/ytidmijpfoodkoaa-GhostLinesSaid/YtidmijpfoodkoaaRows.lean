/-
  No cell of these rows narrows 'for every input' (looked for: loops, veiled, ifaces, maps, wideKeys, modest, calm, conditions, laid).
  DERIVED. THE GIVEN ROWS OF THIS SEAT. 6 by the template 'for every input the law returns true; each argument reads behind the call as it read before'; 0 by the template 'total and deterministic' (their statements: YtidmijpfoodkoaaTotals.lean).
  GIVEN WITH THE SEED: the statements are not yours to turn. If you find one false, say at which input.
  Laid BY PROGRAM, IN A SANDBOX (cutbox-rows.mjs): the forced cells as the released guide's own fill.sh prints them over the translation 30e2904119066521… (all of the seat's roots in one cut). By AI agents, Wed Nov 11 2026. No macro, syntax, notation, axiom, sorry.
-/
import Derived.Test.YtidmijpfoodkoaaChecked
import GoSem.Claim
import GoSem.ClaimJoined
import GoSem.ClaimMapViews
import Derived.JoinedTies
import Derived.KernelRfl
namespace Go.Proofs.Ytidmijpfoodkoaa
/- THE CELL 'sum', in the pinned program and in every row, IS THE sha256 OF THE DUMP (.gsa) THAT YtidmijpfoodkoaaProg.lean LOADS. Nothing in Lean hashes anything: it is a label: what it is worth is what the hold of that sum in a sandbox is worth. -/
noncomputable def Try.pinned : Pinned := { name := "ytidmijpfoodkoaa", sum := "30e2904119066521e76fb24c1f7210b7e02644cfbb43427c85e857fe6c677c8e", checked := Try.checked }
namespace Rows
def none {H : Type} : Left H := { results := [], args := [] }

/-- 'gemellaw17.ArbiterMeans': WHATEVER THE INPUT: true; the input reads as it did. -/
def arbiterMeansSpec : ChangeSpec := { name := "arbiterMeans", fn := fun _ => fun
  | [d] => { results := [.lit (.bool true)], args := [d] }
  | _ => none }
def arbiterMeansRow : OpenClaim := { program := "ytidmijpfoodkoaa", sum := "30e2904119066521e76fb24c1f7210b7e02644cfbb43427c85e857fe6c677c8e", func := "gemel/gemellaw17.ArbiterMeans", spec := "arbiterMeans", unfollowed := true, recurses := true, apart := false }
def ArbiterMeansSaid : Prop := arbiterMeansRow.holds Try.pinned (OpenSpec.ofChange arbiterMeansSpec)

/-- ITS FALSE NEIGHBOUR: 'it returns false'. Refute it at one input. -/
def arbiterMeansWrong : ChangeSpec := { name := "arbiterMeans", fn := fun _ => fun
  | [d] => { results := [.lit (.bool false)], args := [d] }
  | _ => none }
def ArbiterMeansWrongFalsely : Prop := arbiterMeansRow.holds Try.pinned (OpenSpec.ofChange arbiterMeansWrong)

/-- 'gemellaw17.ArbiterHolds': WHATEVER THE INPUT: true; the input reads as it did. -/
def arbiterHoldsSpec : ChangeSpec := { name := "arbiterHolds", fn := fun _ => fun
  | [d1, d2, d3] => { results := [.lit (.bool true)], args := [d1, d2, d3] }
  | _ => none }
def arbiterHoldsRow : OpenClaim := { program := "ytidmijpfoodkoaa", sum := "30e2904119066521e76fb24c1f7210b7e02644cfbb43427c85e857fe6c677c8e", func := "gemel/gemellaw17.ArbiterHolds", spec := "arbiterHolds", unfollowed := true, recurses := true, apart := false }
def ArbiterHoldsSaid : Prop := arbiterHoldsRow.holds Try.pinned (OpenSpec.ofChange arbiterHoldsSpec)

/-- ITS FALSE NEIGHBOUR: 'it returns false'. Refute it at one input. -/
def arbiterHoldsWrong : ChangeSpec := { name := "arbiterHolds", fn := fun _ => fun
  | [d1, d2, d3] => { results := [.lit (.bool false)], args := [d1, d2, d3] }
  | _ => none }
def ArbiterHoldsWrongFalsely : Prop := arbiterHoldsRow.holds Try.pinned (OpenSpec.ofChange arbiterHoldsWrong)

/-- 'gemellaw17.ArbiterNil': WHATEVER THE INPUT: true; the input reads as it did. -/
def arbiterNilSpec : ChangeSpec := { name := "arbiterNil", fn := fun _ => fun
  | [] => { results := [.lit (.bool true)], args := [] }
  | _ => none }
def arbiterNilRow : OpenClaim := { program := "ytidmijpfoodkoaa", sum := "30e2904119066521e76fb24c1f7210b7e02644cfbb43427c85e857fe6c677c8e", func := "gemel/gemellaw17.ArbiterNil", spec := "arbiterNil", unfollowed := true, recurses := true, apart := false }
def ArbiterNilSaid : Prop := arbiterNilRow.holds Try.pinned (OpenSpec.ofChange arbiterNilSpec)

/-- ITS FALSE NEIGHBOUR: 'it returns false'. Refute it at one input. -/
def arbiterNilWrong : ChangeSpec := { name := "arbiterNil", fn := fun _ => fun
  | [] => { results := [.lit (.bool false)], args := [] }
  | _ => none }
def ArbiterNilWrongFalsely : Prop := arbiterNilRow.holds Try.pinned (OpenSpec.ofChange arbiterNilWrong)

/-- 'gemellaw22.GhostCommon': WHATEVER THE INPUT: true; the input reads as it did. -/
def ghostCommonSpec : ChangeSpec := { name := "ghostCommon", fn := fun _ => fun
  | [d1, d2, d3, d4] => { results := [.lit (.bool true)], args := [d1, d2, d3, d4] }
  | _ => none }
def ghostCommonRow : OpenClaim := { program := "ytidmijpfoodkoaa", sum := "30e2904119066521e76fb24c1f7210b7e02644cfbb43427c85e857fe6c677c8e", func := "gemel/gemellaw22.GhostCommon", spec := "ghostCommon", unfollowed := true, recurses := true, apart := false }
def GhostCommonSaid : Prop := ghostCommonRow.holds Try.pinned (OpenSpec.ofChange ghostCommonSpec)

/-- ITS FALSE NEIGHBOUR: 'it returns false'. Refute it at one input. -/
def ghostCommonWrong : ChangeSpec := { name := "ghostCommon", fn := fun _ => fun
  | [d1, d2, d3, d4] => { results := [.lit (.bool false)], args := [d1, d2, d3, d4] }
  | _ => none }
def GhostCommonWrongFalsely : Prop := ghostCommonRow.holds Try.pinned (OpenSpec.ofChange ghostCommonWrong)

/-- 'gemellaw22.GhostLines': WHATEVER THE INPUT: true; the input reads as it did. -/
def ghostLinesSpec : ChangeSpec := { name := "ghostLines", fn := fun _ => fun
  | [d] => { results := [.lit (.bool true)], args := [d] }
  | _ => none }
def ghostLinesRow : OpenClaim := { program := "ytidmijpfoodkoaa", sum := "30e2904119066521e76fb24c1f7210b7e02644cfbb43427c85e857fe6c677c8e", func := "gemel/gemellaw22.GhostLines", spec := "ghostLines", unfollowed := true, recurses := true, apart := false }
def GhostLinesSaid : Prop := ghostLinesRow.holds Try.pinned (OpenSpec.ofChange ghostLinesSpec)

/-- ITS FALSE NEIGHBOUR: 'it returns false'. Refute it at one input. -/
def ghostLinesWrong : ChangeSpec := { name := "ghostLines", fn := fun _ => fun
  | [d] => { results := [.lit (.bool false)], args := [d] }
  | _ => none }
def GhostLinesWrongFalsely : Prop := ghostLinesRow.holds Try.pinned (OpenSpec.ofChange ghostLinesWrong)

/-- 'gemellaw07.UuidTree': WHATEVER THE INPUT: true; the input reads as it did. -/
def uuidTreeSpec : ChangeSpec := { name := "uuidTree", fn := fun _ => fun
  | [d] => { results := [.lit (.bool true)], args := [d] }
  | _ => none }
def uuidTreeRow : OpenClaim := { program := "ytidmijpfoodkoaa", sum := "30e2904119066521e76fb24c1f7210b7e02644cfbb43427c85e857fe6c677c8e", func := "gemel/gemellaw07.UuidTree", spec := "uuidTree", unfollowed := true, recurses := true, apart := false }
def UuidTreeSaid : Prop := uuidTreeRow.holds Try.pinned (OpenSpec.ofChange uuidTreeSpec)

/-- ITS FALSE NEIGHBOUR: 'it returns false'. Refute it at one input. -/
def uuidTreeWrong : ChangeSpec := { name := "uuidTree", fn := fun _ => fun
  | [d] => { results := [.lit (.bool false)], args := [d] }
  | _ => none }
def UuidTreeWrongFalsely : Prop := uuidTreeRow.holds Try.pinned (OpenSpec.ofChange uuidTreeWrong)

/- THE SECOND FORM. 'bulk': how many values and letters a reading holds, each counted each time it is reached (what is shared counts as often as it is met; a slice's spare places count too). A statement '..UptoSaid' is the law's where the arguments, and the package variables that the reading takes, are together of bulk at most 1048576: NARROWER than '..Said'. Prove '..Said' where nothing that the law and all that it calls make is longer than what came in: it says more and counts as full. Else prove '..UptoSaid'. A law counts once. -/
mutual
def uptoBulk {H : Type} : DataW H → Nat
  | .lit (.string bytes) => bytes.length + 1
  | .lit _ => 1
  | .nil => 1
  | .ptr d => uptoBulk d + 1
  | .slice elems spare => uptoBulkAll elems + uptoBulkAll spare + 1
  | .agg parts => uptoBulkAll parts + 1
  | .iface _ d => uptoBulk d + 1
  | .map entries => uptoBulkEntries entries + 1
  | .held _ => 1
def uptoBulkAll {H : Type} : List (DataW H) → Nat
  | [] => 0
  | d :: r => uptoBulk d + uptoBulkAll r
def uptoBulkEntries {H : Type} : List (Lit × DataW H) → Nat
  | [] => 0
  | x :: r => uptoBulkEntry x + uptoBulkEntries r
def uptoBulkEntry {H : Type} : Lit × DataW H → Nat
  | (.string bytes, d) => bytes.length + uptoBulk d + 1
  | (_, d) => uptoBulk d + 1
 end
def uptoSmall : (H : Type) → List (DataW H) → Bool := fun _ ds => decide (uptoBulkAll ds ≤ 1048576)
def OpenSpec.upto (s : _root_.Go.ChangeSpec) : _root_.Go.OpenSpec := { _root_.Go.OpenSpec.ofChange s with cond := some uptoSmall }

/-- 'gemellaw17.ArbiterMeans', WHERE WHAT IT READS IS OF BULK AT MOST 1048576: true; the input reads as it did. -/
def arbiterMeansUptoRow : OpenClaim := { program := "ytidmijpfoodkoaa", sum := "30e2904119066521e76fb24c1f7210b7e02644cfbb43427c85e857fe6c677c8e", func := "gemel/gemellaw17.ArbiterMeans", spec := "arbiterMeans", unfollowed := true, recurses := true, apart := false, narrowed := true }
def ArbiterMeansUptoSaid : Prop := arbiterMeansUptoRow.holds Try.pinned (OpenSpec.upto arbiterMeansSpec)

/-- 'gemellaw17.ArbiterHolds', WHERE WHAT IT READS IS OF BULK AT MOST 1048576: true; the input reads as it did. -/
def arbiterHoldsUptoRow : OpenClaim := { program := "ytidmijpfoodkoaa", sum := "30e2904119066521e76fb24c1f7210b7e02644cfbb43427c85e857fe6c677c8e", func := "gemel/gemellaw17.ArbiterHolds", spec := "arbiterHolds", unfollowed := true, recurses := true, apart := false, narrowed := true }
def ArbiterHoldsUptoSaid : Prop := arbiterHoldsUptoRow.holds Try.pinned (OpenSpec.upto arbiterHoldsSpec)

/-- 'gemellaw17.ArbiterNil', WHERE WHAT IT READS IS OF BULK AT MOST 1048576: true; the input reads as it did. -/
def arbiterNilUptoRow : OpenClaim := { program := "ytidmijpfoodkoaa", sum := "30e2904119066521e76fb24c1f7210b7e02644cfbb43427c85e857fe6c677c8e", func := "gemel/gemellaw17.ArbiterNil", spec := "arbiterNil", unfollowed := true, recurses := true, apart := false, narrowed := true }
def ArbiterNilUptoSaid : Prop := arbiterNilUptoRow.holds Try.pinned (OpenSpec.upto arbiterNilSpec)

/-- 'gemellaw22.GhostCommon', WHERE WHAT IT READS IS OF BULK AT MOST 1048576: true; the input reads as it did. -/
def ghostCommonUptoRow : OpenClaim := { program := "ytidmijpfoodkoaa", sum := "30e2904119066521e76fb24c1f7210b7e02644cfbb43427c85e857fe6c677c8e", func := "gemel/gemellaw22.GhostCommon", spec := "ghostCommon", unfollowed := true, recurses := true, apart := false, narrowed := true }
def GhostCommonUptoSaid : Prop := ghostCommonUptoRow.holds Try.pinned (OpenSpec.upto ghostCommonSpec)

/-- 'gemellaw22.GhostLines', WHERE WHAT IT READS IS OF BULK AT MOST 1048576: true; the input reads as it did. -/
def ghostLinesUptoRow : OpenClaim := { program := "ytidmijpfoodkoaa", sum := "30e2904119066521e76fb24c1f7210b7e02644cfbb43427c85e857fe6c677c8e", func := "gemel/gemellaw22.GhostLines", spec := "ghostLines", unfollowed := true, recurses := true, apart := false, narrowed := true }
def GhostLinesUptoSaid : Prop := ghostLinesUptoRow.holds Try.pinned (OpenSpec.upto ghostLinesSpec)

/-- 'gemellaw07.UuidTree', WHERE WHAT IT READS IS OF BULK AT MOST 1048576: true; the input reads as it did. -/
def uuidTreeUptoRow : OpenClaim := { program := "ytidmijpfoodkoaa", sum := "30e2904119066521e76fb24c1f7210b7e02644cfbb43427c85e857fe6c677c8e", func := "gemel/gemellaw07.UuidTree", spec := "uuidTree", unfollowed := true, recurses := true, apart := false, narrowed := true }
def UuidTreeUptoSaid : Prop := uuidTreeUptoRow.holds Try.pinned (OpenSpec.upto uuidTreeSpec)

end Rows
end Go.Proofs.Ytidmijpfoodkoaa
