/-
  No cell of these rows narrows 'for every input' (looked for: loops, veiled, ifaces, maps, wideKeys, modest, calm, conditions, laid).
  DERIVED. THE GIVEN ROWS OF THIS SEAT. 7 by the template 'for every input the law returns true; each argument reads behind the call as it read before'; 0 by the template 'total and deterministic' (their statements: YtlnohbilfogheaaTotals.lean).
  GIVEN WITH THE SEED: the statements are not yours to turn. If you find one false, say at which input.
  Laid BY PROGRAM, IN A SANDBOX (cutbox-rows.mjs): the forced cells as the released guide's own fill.sh prints them over the translation edff6a935383443b… (all of the seat's roots in one cut). By AI agents, Wed Nov 11 2026. No macro, syntax, notation, axiom, sorry.
-/
import Derived.Test.YtlnohbilfogheaaChecked
import GoSem.Claim
import GoSem.ClaimJoined
import GoSem.ClaimMapViews
import Derived.JoinedTies
import Derived.KernelRfl
namespace Go.Proofs.Ytlnohbilfogheaa
/- THE CELL 'sum', in the pinned program and in every row, IS THE sha256 OF THE DUMP (.gsa) THAT YtlnohbilfogheaaProg.lean LOADS. Nothing in Lean hashes anything: it is a label: what it is worth is what the hold of that sum in a sandbox is worth. -/
noncomputable def Try.pinned : Pinned := { name := "ytlnohbilfogheaa", sum := "edff6a935383443b29444b31bcd930d1d5d06f38c8a84cb3444737c7ed76776e", checked := Try.checked }
namespace Rows
def none {H : Type} : Left H := { results := [], args := [] }

/-- 'gemellaw01.WireWrites': WHATEVER THE INPUT: true; the input reads as it did. -/
def wireWritesSpec : ChangeSpec := { name := "wireWrites", fn := fun _ => fun
  | [d] => { results := [.lit (.bool true)], args := [d] }
  | _ => none }
def wireWritesRow : OpenClaim := { program := "ytlnohbilfogheaa", sum := "edff6a935383443b29444b31bcd930d1d5d06f38c8a84cb3444737c7ed76776e", func := "gemel/gemellaw01.WireWrites", spec := "wireWrites", apart := false }
def WireWritesSaid : Prop := wireWritesRow.holds Try.pinned (OpenSpec.ofChange wireWritesSpec)

/-- ITS FALSE NEIGHBOUR: 'it returns false'. Refute it at one input. -/
def wireWritesWrong : ChangeSpec := { name := "wireWrites", fn := fun _ => fun
  | [d] => { results := [.lit (.bool false)], args := [d] }
  | _ => none }
def WireWritesWrongFalsely : Prop := wireWritesRow.holds Try.pinned (OpenSpec.ofChange wireWritesWrong)

/-- 'gemellaw12.CommandParts': WHATEVER THE INPUT: true; the input reads as it did. -/
def commandPartsSpec : ChangeSpec := { name := "commandParts", fn := fun _ => fun
  | [d] => { results := [.lit (.bool true)], args := [d] }
  | _ => none }
def commandPartsRow : OpenClaim := { program := "ytlnohbilfogheaa", sum := "edff6a935383443b29444b31bcd930d1d5d06f38c8a84cb3444737c7ed76776e", func := "gemel/gemellaw12.CommandParts", spec := "commandParts", apart := false }
def CommandPartsSaid : Prop := commandPartsRow.holds Try.pinned (OpenSpec.ofChange commandPartsSpec)

/-- ITS FALSE NEIGHBOUR: 'it returns false'. Refute it at one input. -/
def commandPartsWrong : ChangeSpec := { name := "commandParts", fn := fun _ => fun
  | [d] => { results := [.lit (.bool false)], args := [d] }
  | _ => none }
def CommandPartsWrongFalsely : Prop := commandPartsRow.holds Try.pinned (OpenSpec.ofChange commandPartsWrong)

/-- 'gemellaw12.CommandRights': WHATEVER THE INPUT: true; the input reads as it did. -/
def commandRightsSpec : ChangeSpec := { name := "commandRights", fn := fun _ => fun
  | [d1, d2, d3] => { results := [.lit (.bool true)], args := [d1, d2, d3] }
  | _ => none }
def commandRightsRow : OpenClaim := { program := "ytlnohbilfogheaa", sum := "edff6a935383443b29444b31bcd930d1d5d06f38c8a84cb3444737c7ed76776e", func := "gemel/gemellaw12.CommandRights", spec := "commandRights", unfollowed := true, recurses := true, apart := false }
def CommandRightsSaid : Prop := commandRightsRow.holds Try.pinned (OpenSpec.ofChange commandRightsSpec)

/-- ITS FALSE NEIGHBOUR: 'it returns false'. Refute it at one input. -/
def commandRightsWrong : ChangeSpec := { name := "commandRights", fn := fun _ => fun
  | [d1, d2, d3] => { results := [.lit (.bool false)], args := [d1, d2, d3] }
  | _ => none }
def CommandRightsWrongFalsely : Prop := commandRightsRow.holds Try.pinned (OpenSpec.ofChange commandRightsWrong)

/-- 'gemellaw08.PacketSizes': WHATEVER THE INPUT: true; the input reads as it did. -/
def packetSizesSpec : ChangeSpec := { name := "packetSizes", fn := fun _ => fun
  | [d] => { results := [.lit (.bool true)], args := [d] }
  | _ => none }
def packetSizesRow : OpenClaim := { program := "ytlnohbilfogheaa", sum := "edff6a935383443b29444b31bcd930d1d5d06f38c8a84cb3444737c7ed76776e", func := "gemel/gemellaw08.PacketSizes", spec := "packetSizes", inPlace := ["math/bits.Add64"], unfollowed := true, recurses := true, apart := false }
def PacketSizesSaid : Prop := packetSizesRow.holds Try.pinned (OpenSpec.ofChange packetSizesSpec)

/-- ITS FALSE NEIGHBOUR: 'it returns false'. Refute it at one input. -/
def packetSizesWrong : ChangeSpec := { name := "packetSizes", fn := fun _ => fun
  | [d] => { results := [.lit (.bool false)], args := [d] }
  | _ => none }
def PacketSizesWrongFalsely : Prop := packetSizesRow.holds Try.pinned (OpenSpec.ofChange packetSizesWrong)

/-- 'gemellaw08.PacketReads': WHATEVER THE INPUT: true; the input reads as it did. -/
def packetReadsSpec : ChangeSpec := { name := "packetReads", fn := fun _ => fun
  | [d] => { results := [.lit (.bool true)], args := [d] }
  | _ => none }
def packetReadsRow : OpenClaim := { program := "ytlnohbilfogheaa", sum := "edff6a935383443b29444b31bcd930d1d5d06f38c8a84cb3444737c7ed76776e", func := "gemel/gemellaw08.PacketReads", spec := "packetReads", inPlace := ["math/bits.Add64"], unfollowed := true, recurses := true, apart := false }
def PacketReadsSaid : Prop := packetReadsRow.holds Try.pinned (OpenSpec.ofChange packetReadsSpec)

/-- ITS FALSE NEIGHBOUR: 'it returns false'. Refute it at one input. -/
def packetReadsWrong : ChangeSpec := { name := "packetReads", fn := fun _ => fun
  | [d] => { results := [.lit (.bool false)], args := [d] }
  | _ => none }
def PacketReadsWrongFalsely : Prop := packetReadsRow.holds Try.pinned (OpenSpec.ofChange packetReadsWrong)

/-- 'gemellaw10.MessageNames': WHATEVER THE INPUT: true; the input reads as it did. -/
def messageNamesSpec : ChangeSpec := { name := "messageNames", fn := fun _ => fun
  | [] => { results := [.lit (.bool true)], args := [] }
  | _ => none }
def messageNamesRow : OpenClaim := { program := "ytlnohbilfogheaa", sum := "edff6a935383443b29444b31bcd930d1d5d06f38c8a84cb3444737c7ed76776e", func := "gemel/gemellaw10.MessageNames", spec := "messageNames", unfollowed := true, recurses := true, apart := false }
def MessageNamesSaid : Prop := messageNamesRow.holds Try.pinned (OpenSpec.ofChange messageNamesSpec)

/-- ITS FALSE NEIGHBOUR: 'it returns false'. Refute it at one input. -/
def messageNamesWrong : ChangeSpec := { name := "messageNames", fn := fun _ => fun
  | [] => { results := [.lit (.bool false)], args := [] }
  | _ => none }
def MessageNamesWrongFalsely : Prop := messageNamesRow.holds Try.pinned (OpenSpec.ofChange messageNamesWrong)

/-- 'gemellaw10.MessageReads': WHATEVER THE INPUT: true; the input reads as it did. -/
def messageReadsSpec : ChangeSpec := { name := "messageReads", fn := fun _ => fun
  | [d] => { results := [.lit (.bool true)], args := [d] }
  | _ => none }
def messageReadsRow : OpenClaim := { program := "ytlnohbilfogheaa", sum := "edff6a935383443b29444b31bcd930d1d5d06f38c8a84cb3444737c7ed76776e", func := "gemel/gemellaw10.MessageReads", spec := "messageReads", unfollowed := true, recurses := true, apart := false }
def MessageReadsSaid : Prop := messageReadsRow.holds Try.pinned (OpenSpec.ofChange messageReadsSpec)

/-- ITS FALSE NEIGHBOUR: 'it returns false'. Refute it at one input. -/
def messageReadsWrong : ChangeSpec := { name := "messageReads", fn := fun _ => fun
  | [d] => { results := [.lit (.bool false)], args := [d] }
  | _ => none }
def MessageReadsWrongFalsely : Prop := messageReadsRow.holds Try.pinned (OpenSpec.ofChange messageReadsWrong)

/- THE SECOND FORM. 'bulk': how many values and letters a reading holds, each counted each time it is reached (what is shared counts as often as it is met; a slice's spare places count too). A statement '..UptoSaid' is the law's where the arguments, and the package variables that the reading takes, are together of bulk at most 1048576: NARROWER than '..Said'. Prove '..Said' where nothing that the law and all that it calls make is longer than what came in: it says more and counts as full. Else prove '..UptoSaid'. A law counts once. -/
mutual
def uptoBulk {H : Type} : DataW H → Nat
  | .lit (.string bytes) => bytes.length + 1
  | .lit _ => 1
  | .nil => 1
  | .ptr d => uptoBulk d + 1
  | .slice elems spare => uptoBulkAll elems + uptoBulkAll spare + 1
  | .agg parts => uptoBulkAll parts + 1
  | .iface _ d => uptoBulk d + 1
  | .map entries => uptoBulkEntries entries + 1
  | .held _ => 1
def uptoBulkAll {H : Type} : List (DataW H) → Nat
  | [] => 0
  | d :: r => uptoBulk d + uptoBulkAll r
def uptoBulkEntries {H : Type} : List (Lit × DataW H) → Nat
  | [] => 0
  | x :: r => uptoBulkEntry x + uptoBulkEntries r
def uptoBulkEntry {H : Type} : Lit × DataW H → Nat
  | (.string bytes, d) => bytes.length + uptoBulk d + 1
  | (_, d) => uptoBulk d + 1
 end
def uptoSmall : (H : Type) → List (DataW H) → Bool := fun _ ds => decide (uptoBulkAll ds ≤ 1048576)
def OpenSpec.upto (s : _root_.Go.ChangeSpec) : _root_.Go.OpenSpec := { _root_.Go.OpenSpec.ofChange s with cond := some uptoSmall }

/-- 'gemellaw01.WireWrites', WHERE WHAT IT READS IS OF BULK AT MOST 1048576: true; the input reads as it did. -/
def wireWritesUptoRow : OpenClaim := { program := "ytlnohbilfogheaa", sum := "edff6a935383443b29444b31bcd930d1d5d06f38c8a84cb3444737c7ed76776e", func := "gemel/gemellaw01.WireWrites", spec := "wireWrites", apart := false, narrowed := true }
def WireWritesUptoSaid : Prop := wireWritesUptoRow.holds Try.pinned (OpenSpec.upto wireWritesSpec)

/-- 'gemellaw12.CommandParts', WHERE WHAT IT READS IS OF BULK AT MOST 1048576: true; the input reads as it did. -/
def commandPartsUptoRow : OpenClaim := { program := "ytlnohbilfogheaa", sum := "edff6a935383443b29444b31bcd930d1d5d06f38c8a84cb3444737c7ed76776e", func := "gemel/gemellaw12.CommandParts", spec := "commandParts", apart := false, narrowed := true }
def CommandPartsUptoSaid : Prop := commandPartsUptoRow.holds Try.pinned (OpenSpec.upto commandPartsSpec)

/-- 'gemellaw12.CommandRights', WHERE WHAT IT READS IS OF BULK AT MOST 1048576: true; the input reads as it did. -/
def commandRightsUptoRow : OpenClaim := { program := "ytlnohbilfogheaa", sum := "edff6a935383443b29444b31bcd930d1d5d06f38c8a84cb3444737c7ed76776e", func := "gemel/gemellaw12.CommandRights", spec := "commandRights", unfollowed := true, recurses := true, apart := false, narrowed := true }
def CommandRightsUptoSaid : Prop := commandRightsUptoRow.holds Try.pinned (OpenSpec.upto commandRightsSpec)

/-- 'gemellaw08.PacketSizes', WHERE WHAT IT READS IS OF BULK AT MOST 1048576: true; the input reads as it did. -/
def packetSizesUptoRow : OpenClaim := { program := "ytlnohbilfogheaa", sum := "edff6a935383443b29444b31bcd930d1d5d06f38c8a84cb3444737c7ed76776e", func := "gemel/gemellaw08.PacketSizes", spec := "packetSizes", inPlace := ["math/bits.Add64"], unfollowed := true, recurses := true, apart := false, narrowed := true }
def PacketSizesUptoSaid : Prop := packetSizesUptoRow.holds Try.pinned (OpenSpec.upto packetSizesSpec)

/-- 'gemellaw08.PacketReads', WHERE WHAT IT READS IS OF BULK AT MOST 1048576: true; the input reads as it did. -/
def packetReadsUptoRow : OpenClaim := { program := "ytlnohbilfogheaa", sum := "edff6a935383443b29444b31bcd930d1d5d06f38c8a84cb3444737c7ed76776e", func := "gemel/gemellaw08.PacketReads", spec := "packetReads", inPlace := ["math/bits.Add64"], unfollowed := true, recurses := true, apart := false, narrowed := true }
def PacketReadsUptoSaid : Prop := packetReadsUptoRow.holds Try.pinned (OpenSpec.upto packetReadsSpec)

/-- 'gemellaw10.MessageNames', WHERE WHAT IT READS IS OF BULK AT MOST 1048576: true; the input reads as it did. -/
def messageNamesUptoRow : OpenClaim := { program := "ytlnohbilfogheaa", sum := "edff6a935383443b29444b31bcd930d1d5d06f38c8a84cb3444737c7ed76776e", func := "gemel/gemellaw10.MessageNames", spec := "messageNames", unfollowed := true, recurses := true, apart := false, narrowed := true }
def MessageNamesUptoSaid : Prop := messageNamesUptoRow.holds Try.pinned (OpenSpec.upto messageNamesSpec)

/-- 'gemellaw10.MessageReads', WHERE WHAT IT READS IS OF BULK AT MOST 1048576: true; the input reads as it did. -/
def messageReadsUptoRow : OpenClaim := { program := "ytlnohbilfogheaa", sum := "edff6a935383443b29444b31bcd930d1d5d06f38c8a84cb3444737c7ed76776e", func := "gemel/gemellaw10.MessageReads", spec := "messageReads", unfollowed := true, recurses := true, apart := false, narrowed := true }
def MessageReadsUptoSaid : Prop := messageReadsUptoRow.holds Try.pinned (OpenSpec.upto messageReadsSpec)

end Rows
end Go.Proofs.Ytlnohbilfogheaa
