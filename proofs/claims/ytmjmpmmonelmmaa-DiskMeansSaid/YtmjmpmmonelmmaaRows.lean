/-
  No cell of these rows narrows 'for every input' (looked for: loops, veiled, ifaces, maps, wideKeys, modest, calm, conditions, laid).
  DERIVED. THE GIVEN ROWS OF THIS SEAT. 6 by the template 'for every input the law returns true; each argument reads behind the call as it read before'; 0 by the template 'total and deterministic' (their statements: YtmjmpmmonelmmaaTotals.lean).
  GIVEN WITH THE SEED: the statements are not yours to turn. If you find one false, say at which input.
  Laid BY PROGRAM, IN A SANDBOX (cutbox-rows.mjs): the forced cells as the released guide's own fill.sh prints them over the translation e3944d3e3b76abb7… (all of the seat's roots in one cut). By AI agents, Wed Nov 11 2026. No macro, syntax, notation, axiom, sorry.
-/
import Derived.Test.YtmjmpmmonelmmaaChecked
import GoSem.Claim
import GoSem.ClaimJoined
import GoSem.ClaimMapViews
import Derived.JoinedTies
import Derived.KernelRfl
namespace Go.Proofs.Ytmjmpmmonelmmaa
/- THE CELL 'sum', in the pinned program and in every row, IS THE sha256 OF THE DUMP (.gsa) THAT YtmjmpmmonelmmaaProg.lean LOADS. Nothing in Lean hashes anything: it is a label: what it is worth is what the hold of that sum in a sandbox is worth. -/
noncomputable def Try.pinned : Pinned := { name := "ytmjmpmmonelmmaa", sum := "e3944d3e3b76abb7fa9a1bc3489ab729a61f90dfb1126a633e898b0823a203f8", checked := Try.checked }
namespace Rows
def none {H : Type} : Left H := { results := [], args := [] }

/-- 'gemellaw03.DiskMeans': WHATEVER THE INPUT: true; the input reads as it did. -/
def diskMeansSpec : ChangeSpec := { name := "diskMeans", fn := fun _ => fun
  | [d1, d2, d3] => { results := [.lit (.bool true)], args := [d1, d2, d3] }
  | _ => none }
def diskMeansRow : OpenClaim := { program := "ytmjmpmmonelmmaa", sum := "e3944d3e3b76abb7fa9a1bc3489ab729a61f90dfb1126a633e898b0823a203f8", func := "gemel/gemellaw03.DiskMeans", spec := "diskMeans", unfollowed := true, recurses := true, apart := false }
def DiskMeansSaid : Prop := diskMeansRow.holds Try.pinned (OpenSpec.ofChange diskMeansSpec)

/-- ITS FALSE NEIGHBOUR: 'it returns false'. Refute it at one input. -/
def diskMeansWrong : ChangeSpec := { name := "diskMeans", fn := fun _ => fun
  | [d1, d2, d3] => { results := [.lit (.bool false)], args := [d1, d2, d3] }
  | _ => none }
def DiskMeansWrongFalsely : Prop := diskMeansRow.holds Try.pinned (OpenSpec.ofChange diskMeansWrong)

/-- 'gemellaw03.DiskNil': WHATEVER THE INPUT: true; the input reads as it did. -/
def diskNilSpec : ChangeSpec := { name := "diskNil", fn := fun _ => fun
  | [] => { results := [.lit (.bool true)], args := [] }
  | _ => none }
def diskNilRow : OpenClaim := { program := "ytmjmpmmonelmmaa", sum := "e3944d3e3b76abb7fa9a1bc3489ab729a61f90dfb1126a633e898b0823a203f8", func := "gemel/gemellaw03.DiskNil", spec := "diskNil", inPlace := ["maps.clone"], unfollowed := true, recurses := true, apart := false }
def DiskNilSaid : Prop := diskNilRow.holds Try.pinned (OpenSpec.ofChange diskNilSpec)

/-- ITS FALSE NEIGHBOUR: 'it returns false'. Refute it at one input. -/
def diskNilWrong : ChangeSpec := { name := "diskNil", fn := fun _ => fun
  | [] => { results := [.lit (.bool false)], args := [] }
  | _ => none }
def DiskNilWrongFalsely : Prop := diskNilRow.holds Try.pinned (OpenSpec.ofChange diskNilWrong)

/-- 'gemellaw04.SuperNil': WHATEVER THE INPUT: true; the input reads as it did. -/
def superNilSpec : ChangeSpec := { name := "superNil", fn := fun _ => fun
  | [] => { results := [.lit (.bool true)], args := [] }
  | _ => none }
def superNilRow : OpenClaim := { program := "ytmjmpmmonelmmaa", sum := "e3944d3e3b76abb7fa9a1bc3489ab729a61f90dfb1126a633e898b0823a203f8", func := "gemel/gemellaw04.SuperNil", spec := "superNil", inPlace := ["math/bits.Add64"], unfollowed := true, recurses := true, apart := false }
def SuperNilSaid : Prop := superNilRow.holds Try.pinned (OpenSpec.ofChange superNilSpec)

/-- ITS FALSE NEIGHBOUR: 'it returns false'. Refute it at one input. -/
def superNilWrong : ChangeSpec := { name := "superNil", fn := fun _ => fun
  | [] => { results := [.lit (.bool false)], args := [] }
  | _ => none }
def SuperNilWrongFalsely : Prop := superNilRow.holds Try.pinned (OpenSpec.ofChange superNilWrong)

/-- 'gemellaw05.ActlogNil': WHATEVER THE INPUT: true; the input reads as it did. -/
def actlogNilSpec : ChangeSpec := { name := "actlogNil", fn := fun _ => fun
  | [] => { results := [.lit (.bool true)], args := [] }
  | _ => none }
def actlogNilRow : OpenClaim := { program := "ytmjmpmmonelmmaa", sum := "e3944d3e3b76abb7fa9a1bc3489ab729a61f90dfb1126a633e898b0823a203f8", func := "gemel/gemellaw05.ActlogNil", spec := "actlogNil", inPlace := ["math/bits.Add64"], unfollowed := true, recurses := true, apart := false }
def ActlogNilSaid : Prop := actlogNilRow.holds Try.pinned (OpenSpec.ofChange actlogNilSpec)

/-- ITS FALSE NEIGHBOUR: 'it returns false'. Refute it at one input. -/
def actlogNilWrong : ChangeSpec := { name := "actlogNil", fn := fun _ => fun
  | [] => { results := [.lit (.bool false)], args := [] }
  | _ => none }
def ActlogNilWrongFalsely : Prop := actlogNilRow.holds Try.pinned (OpenSpec.ofChange actlogNilWrong)

/-- 'gemellaw06.MapBlocks': WHATEVER THE INPUT: true; the input reads as it did. -/
def mapBlocksSpec : ChangeSpec := { name := "mapBlocks", fn := fun _ => fun
  | [d1, d2, d3, d4] => { results := [.lit (.bool true)], args := [d1, d2, d3, d4] }
  | _ => none }
def mapBlocksRow : OpenClaim := { program := "ytmjmpmmonelmmaa", sum := "e3944d3e3b76abb7fa9a1bc3489ab729a61f90dfb1126a633e898b0823a203f8", func := "gemel/gemellaw06.MapBlocks", spec := "mapBlocks", inPlace := ["math/bits.Add64"], unfollowed := true, recurses := true, apart := false }
def MapBlocksSaid : Prop := mapBlocksRow.holds Try.pinned (OpenSpec.ofChange mapBlocksSpec)

/-- ITS FALSE NEIGHBOUR: 'it returns false'. Refute it at one input. -/
def mapBlocksWrong : ChangeSpec := { name := "mapBlocks", fn := fun _ => fun
  | [d1, d2, d3, d4] => { results := [.lit (.bool false)], args := [d1, d2, d3, d4] }
  | _ => none }
def MapBlocksWrongFalsely : Prop := mapBlocksRow.holds Try.pinned (OpenSpec.ofChange mapBlocksWrong)

/-- 'gemellaw11.ReserveNil': WHATEVER THE INPUT: true; the input reads as it did. -/
def reserveNilSpec : ChangeSpec := { name := "reserveNil", fn := fun _ => fun
  | [] => { results := [.lit (.bool true)], args := [] }
  | _ => none }
def reserveNilRow : OpenClaim := { program := "ytmjmpmmonelmmaa", sum := "e3944d3e3b76abb7fa9a1bc3489ab729a61f90dfb1126a633e898b0823a203f8", func := "gemel/gemellaw11.ReserveNil", spec := "reserveNil", inPlace := ["math/bits.Add64"], unfollowed := true, recurses := true, apart := false }
def ReserveNilSaid : Prop := reserveNilRow.holds Try.pinned (OpenSpec.ofChange reserveNilSpec)

/-- ITS FALSE NEIGHBOUR: 'it returns false'. Refute it at one input. -/
def reserveNilWrong : ChangeSpec := { name := "reserveNil", fn := fun _ => fun
  | [] => { results := [.lit (.bool false)], args := [] }
  | _ => none }
def ReserveNilWrongFalsely : Prop := reserveNilRow.holds Try.pinned (OpenSpec.ofChange reserveNilWrong)

/- THE SECOND FORM. 'bulk': how many values and letters a reading holds, each counted each time it is reached (what is shared counts as often as it is met; a slice's spare places count too). A statement '..UptoSaid' is the law's where the arguments, and the package variables that the reading takes, are together of bulk at most 1048576: NARROWER than '..Said'. Prove '..Said' where nothing that the law and all that it calls make is longer than what came in: it says more and counts as full. Else prove '..UptoSaid'. A law counts once. -/
mutual
def uptoBulk {H : Type} : DataW H → Nat
  | .lit (.string bytes) => bytes.length + 1
  | .lit _ => 1
  | .nil => 1
  | .ptr d => uptoBulk d + 1
  | .slice elems spare => uptoBulkAll elems + uptoBulkAll spare + 1
  | .agg parts => uptoBulkAll parts + 1
  | .iface _ d => uptoBulk d + 1
  | .map entries => uptoBulkEntries entries + 1
  | .held _ => 1
def uptoBulkAll {H : Type} : List (DataW H) → Nat
  | [] => 0
  | d :: r => uptoBulk d + uptoBulkAll r
def uptoBulkEntries {H : Type} : List (Lit × DataW H) → Nat
  | [] => 0
  | x :: r => uptoBulkEntry x + uptoBulkEntries r
def uptoBulkEntry {H : Type} : Lit × DataW H → Nat
  | (.string bytes, d) => bytes.length + uptoBulk d + 1
  | (_, d) => uptoBulk d + 1
 end
def uptoSmall : (H : Type) → List (DataW H) → Bool := fun _ ds => decide (uptoBulkAll ds ≤ 1048576)
def OpenSpec.upto (s : _root_.Go.ChangeSpec) : _root_.Go.OpenSpec := { _root_.Go.OpenSpec.ofChange s with cond := some uptoSmall }

/-- 'gemellaw03.DiskMeans', WHERE WHAT IT READS IS OF BULK AT MOST 1048576: true; the input reads as it did. -/
def diskMeansUptoRow : OpenClaim := { program := "ytmjmpmmonelmmaa", sum := "e3944d3e3b76abb7fa9a1bc3489ab729a61f90dfb1126a633e898b0823a203f8", func := "gemel/gemellaw03.DiskMeans", spec := "diskMeans", unfollowed := true, recurses := true, apart := false, narrowed := true }
def DiskMeansUptoSaid : Prop := diskMeansUptoRow.holds Try.pinned (OpenSpec.upto diskMeansSpec)

/-- 'gemellaw03.DiskNil', WHERE WHAT IT READS IS OF BULK AT MOST 1048576: true; the input reads as it did. -/
def diskNilUptoRow : OpenClaim := { program := "ytmjmpmmonelmmaa", sum := "e3944d3e3b76abb7fa9a1bc3489ab729a61f90dfb1126a633e898b0823a203f8", func := "gemel/gemellaw03.DiskNil", spec := "diskNil", inPlace := ["maps.clone"], unfollowed := true, recurses := true, apart := false, narrowed := true }
def DiskNilUptoSaid : Prop := diskNilUptoRow.holds Try.pinned (OpenSpec.upto diskNilSpec)

/-- 'gemellaw04.SuperNil', WHERE WHAT IT READS IS OF BULK AT MOST 1048576: true; the input reads as it did. -/
def superNilUptoRow : OpenClaim := { program := "ytmjmpmmonelmmaa", sum := "e3944d3e3b76abb7fa9a1bc3489ab729a61f90dfb1126a633e898b0823a203f8", func := "gemel/gemellaw04.SuperNil", spec := "superNil", inPlace := ["math/bits.Add64"], unfollowed := true, recurses := true, apart := false, narrowed := true }
def SuperNilUptoSaid : Prop := superNilUptoRow.holds Try.pinned (OpenSpec.upto superNilSpec)

/-- 'gemellaw05.ActlogNil', WHERE WHAT IT READS IS OF BULK AT MOST 1048576: true; the input reads as it did. -/
def actlogNilUptoRow : OpenClaim := { program := "ytmjmpmmonelmmaa", sum := "e3944d3e3b76abb7fa9a1bc3489ab729a61f90dfb1126a633e898b0823a203f8", func := "gemel/gemellaw05.ActlogNil", spec := "actlogNil", inPlace := ["math/bits.Add64"], unfollowed := true, recurses := true, apart := false, narrowed := true }
def ActlogNilUptoSaid : Prop := actlogNilUptoRow.holds Try.pinned (OpenSpec.upto actlogNilSpec)

/-- 'gemellaw06.MapBlocks', WHERE WHAT IT READS IS OF BULK AT MOST 1048576: true; the input reads as it did. -/
def mapBlocksUptoRow : OpenClaim := { program := "ytmjmpmmonelmmaa", sum := "e3944d3e3b76abb7fa9a1bc3489ab729a61f90dfb1126a633e898b0823a203f8", func := "gemel/gemellaw06.MapBlocks", spec := "mapBlocks", inPlace := ["math/bits.Add64"], unfollowed := true, recurses := true, apart := false, narrowed := true }
def MapBlocksUptoSaid : Prop := mapBlocksUptoRow.holds Try.pinned (OpenSpec.upto mapBlocksSpec)

/-- 'gemellaw11.ReserveNil', WHERE WHAT IT READS IS OF BULK AT MOST 1048576: true; the input reads as it did. -/
def reserveNilUptoRow : OpenClaim := { program := "ytmjmpmmonelmmaa", sum := "e3944d3e3b76abb7fa9a1bc3489ab729a61f90dfb1126a633e898b0823a203f8", func := "gemel/gemellaw11.ReserveNil", spec := "reserveNil", inPlace := ["math/bits.Add64"], unfollowed := true, recurses := true, apart := false, narrowed := true }
def ReserveNilUptoSaid : Prop := reserveNilUptoRow.holds Try.pinned (OpenSpec.upto reserveNilSpec)

end Rows
end Go.Proofs.Ytmjmpmmonelmmaa
