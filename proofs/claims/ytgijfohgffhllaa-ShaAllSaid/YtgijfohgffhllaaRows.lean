/-
  No cell of these rows narrows 'for every input' (looked for: loops, veiled, ifaces, maps, wideKeys, modest, calm, conditions, laid).
  DERIVED. THE GIVEN ROWS OF THIS SEAT. 4 by the template 'for every input the law returns true; each argument reads behind the call as it read before'; 0 by the template 'total and deterministic' (their statements: YtgijfohgffhllaaTotals.lean).
  GIVEN WITH THE SEED: the statements are not yours to turn. If you find one false, say at which input.
  Laid BY PROGRAM, IN A SANDBOX (cutbox-rows.mjs): the forced cells as the released guide's own fill.sh prints them over the translation 2e6b3e9aa811f48e… (all of the seat's roots in one cut). By AI agents, Wed Nov 11 2026. No macro, syntax, notation, axiom, sorry.
-/
import Derived.Test.YtgijfohgffhllaaChecked
import GoSem.Claim
import GoSem.ClaimJoined
import GoSem.ClaimMapViews
import Derived.JoinedTies
import Derived.KernelRfl
namespace Go.Proofs.Ytgijfohgffhllaa
/- THE CELL 'sum', in the pinned program and in every row, IS THE sha256 OF THE DUMP (.gsa) THAT YtgijfohgffhllaaProg.lean LOADS. Nothing in Lean hashes anything: it is a label: what it is worth is what the hold of that sum in a sandbox is worth. -/
noncomputable def Try.pinned : Pinned := { name := "ytgijfohgffhllaa", sum := "2e6b3e9aa811f48e2e87276982503fa6d3add6352104f0f42a9a18eb63ebf9f5", checked := Try.checked }
namespace Rows
def none {H : Type} : Left H := { results := [], args := [] }

/-- 'gemellaw02.ShaAll': WHATEVER THE INPUT: true; the input reads as it did. -/
def shaAllSpec : ChangeSpec := { name := "shaAll", fn := fun _ => fun
  | [] => { results := [.lit (.bool true)], args := [] }
  | _ => none }
def shaAllRow : OpenClaim := { program := "ytgijfohgffhllaa", sum := "2e6b3e9aa811f48e2e87276982503fa6d3add6352104f0f42a9a18eb63ebf9f5", func := "gemel/gemellaw02.ShaAll", spec := "shaAll", inPlace := ["math/bits.Add64"], unfollowed := true, recurses := true, apart := false }
def ShaAllSaid : Prop := shaAllRow.holds Try.pinned (OpenSpec.ofChange shaAllSpec)

/-- ITS FALSE NEIGHBOUR: 'it returns false'. Refute it at one input. -/
def shaAllWrong : ChangeSpec := { name := "shaAll", fn := fun _ => fun
  | [] => { results := [.lit (.bool false)], args := [] }
  | _ => none }
def ShaAllWrongFalsely : Prop := shaAllRow.holds Try.pinned (OpenSpec.ofChange shaAllWrong)

/-- 'gemellaw02.ShaConstants': WHATEVER THE INPUT: true; the input reads as it did. -/
def shaConstantsSpec : ChangeSpec := { name := "shaConstants", fn := fun _ => fun
  | [d] => { results := [.lit (.bool true)], args := [d] }
  | _ => none }
def shaConstantsRow : OpenClaim := { program := "ytgijfohgffhllaa", sum := "2e6b3e9aa811f48e2e87276982503fa6d3add6352104f0f42a9a18eb63ebf9f5", func := "gemel/gemellaw02.ShaConstants", spec := "shaConstants", inPlace := ["math/bits.Add64"], unfollowed := true, recurses := true, apart := false }
def ShaConstantsSaid : Prop := shaConstantsRow.holds Try.pinned (OpenSpec.ofChange shaConstantsSpec)

/-- ITS FALSE NEIGHBOUR: 'it returns false'. Refute it at one input. -/
def shaConstantsWrong : ChangeSpec := { name := "shaConstants", fn := fun _ => fun
  | [d] => { results := [.lit (.bool false)], args := [d] }
  | _ => none }
def ShaConstantsWrongFalsely : Prop := shaConstantsRow.holds Try.pinned (OpenSpec.ofChange shaConstantsWrong)

/-- 'gemellaw02.ShaSums': WHATEVER THE INPUT: true; the input reads as it did. -/
def shaSumsSpec : ChangeSpec := { name := "shaSums", fn := fun _ => fun
  | [d] => { results := [.lit (.bool true)], args := [d] }
  | _ => none }
def shaSumsRow : OpenClaim := { program := "ytgijfohgffhllaa", sum := "2e6b3e9aa811f48e2e87276982503fa6d3add6352104f0f42a9a18eb63ebf9f5", func := "gemel/gemellaw02.ShaSums", spec := "shaSums", inPlace := ["math/bits.Add64"], unfollowed := true, recurses := true, apart := false }
def ShaSumsSaid : Prop := shaSumsRow.holds Try.pinned (OpenSpec.ofChange shaSumsSpec)

/-- ITS FALSE NEIGHBOUR: 'it returns false'. Refute it at one input. -/
def shaSumsWrong : ChangeSpec := { name := "shaSums", fn := fun _ => fun
  | [d] => { results := [.lit (.bool false)], args := [d] }
  | _ => none }
def ShaSumsWrongFalsely : Prop := shaSumsRow.holds Try.pinned (OpenSpec.ofChange shaSumsWrong)

/-- 'gemellaw02.ShaMeans': WHATEVER THE INPUT: true; the input reads as it did. -/
def shaMeansSpec : ChangeSpec := { name := "shaMeans", fn := fun _ => fun
  | [d1, d2, d3] => { results := [.lit (.bool true)], args := [d1, d2, d3] }
  | _ => none }
def shaMeansRow : OpenClaim := { program := "ytgijfohgffhllaa", sum := "2e6b3e9aa811f48e2e87276982503fa6d3add6352104f0f42a9a18eb63ebf9f5", func := "gemel/gemellaw02.ShaMeans", spec := "shaMeans", inPlace := ["math/bits.Add64"], unfollowed := true, recurses := true, apart := false }
def ShaMeansSaid : Prop := shaMeansRow.holds Try.pinned (OpenSpec.ofChange shaMeansSpec)

/-- ITS FALSE NEIGHBOUR: 'it returns false'. Refute it at one input. -/
def shaMeansWrong : ChangeSpec := { name := "shaMeans", fn := fun _ => fun
  | [d1, d2, d3] => { results := [.lit (.bool false)], args := [d1, d2, d3] }
  | _ => none }
def ShaMeansWrongFalsely : Prop := shaMeansRow.holds Try.pinned (OpenSpec.ofChange shaMeansWrong)

/- THE SECOND FORM. 'bulk': how many values and letters a reading holds, each counted each time it is reached (what is shared counts as often as it is met; a slice's spare places count too). A statement '..UptoSaid' is the law's where the arguments, and the package variables that the reading takes, are together of bulk at most 1048576: NARROWER than '..Said'. Prove '..Said' where nothing that the law and all that it calls make is longer than what came in: it says more and counts as full. Else prove '..UptoSaid'. A law counts once. -/
mutual
def uptoBulk {H : Type} : DataW H → Nat
  | .lit (.string bytes) => bytes.length + 1
  | .lit _ => 1
  | .nil => 1
  | .ptr d => uptoBulk d + 1
  | .slice elems spare => uptoBulkAll elems + uptoBulkAll spare + 1
  | .agg parts => uptoBulkAll parts + 1
  | .iface _ d => uptoBulk d + 1
  | .map entries => uptoBulkEntries entries + 1
  | .held _ => 1
def uptoBulkAll {H : Type} : List (DataW H) → Nat
  | [] => 0
  | d :: r => uptoBulk d + uptoBulkAll r
def uptoBulkEntries {H : Type} : List (Lit × DataW H) → Nat
  | [] => 0
  | x :: r => uptoBulkEntry x + uptoBulkEntries r
def uptoBulkEntry {H : Type} : Lit × DataW H → Nat
  | (.string bytes, d) => bytes.length + uptoBulk d + 1
  | (_, d) => uptoBulk d + 1
 end
def uptoSmall : (H : Type) → List (DataW H) → Bool := fun _ ds => decide (uptoBulkAll ds ≤ 1048576)
def OpenSpec.upto (s : _root_.Go.ChangeSpec) : _root_.Go.OpenSpec := { _root_.Go.OpenSpec.ofChange s with cond := some uptoSmall }

/-- 'gemellaw02.ShaAll', WHERE WHAT IT READS IS OF BULK AT MOST 1048576: true; the input reads as it did. -/
def shaAllUptoRow : OpenClaim := { program := "ytgijfohgffhllaa", sum := "2e6b3e9aa811f48e2e87276982503fa6d3add6352104f0f42a9a18eb63ebf9f5", func := "gemel/gemellaw02.ShaAll", spec := "shaAll", inPlace := ["math/bits.Add64"], unfollowed := true, recurses := true, apart := false, narrowed := true }
def ShaAllUptoSaid : Prop := shaAllUptoRow.holds Try.pinned (OpenSpec.upto shaAllSpec)

/-- 'gemellaw02.ShaConstants', WHERE WHAT IT READS IS OF BULK AT MOST 1048576: true; the input reads as it did. -/
def shaConstantsUptoRow : OpenClaim := { program := "ytgijfohgffhllaa", sum := "2e6b3e9aa811f48e2e87276982503fa6d3add6352104f0f42a9a18eb63ebf9f5", func := "gemel/gemellaw02.ShaConstants", spec := "shaConstants", inPlace := ["math/bits.Add64"], unfollowed := true, recurses := true, apart := false, narrowed := true }
def ShaConstantsUptoSaid : Prop := shaConstantsUptoRow.holds Try.pinned (OpenSpec.upto shaConstantsSpec)

/-- 'gemellaw02.ShaSums', WHERE WHAT IT READS IS OF BULK AT MOST 1048576: true; the input reads as it did. -/
def shaSumsUptoRow : OpenClaim := { program := "ytgijfohgffhllaa", sum := "2e6b3e9aa811f48e2e87276982503fa6d3add6352104f0f42a9a18eb63ebf9f5", func := "gemel/gemellaw02.ShaSums", spec := "shaSums", inPlace := ["math/bits.Add64"], unfollowed := true, recurses := true, apart := false, narrowed := true }
def ShaSumsUptoSaid : Prop := shaSumsUptoRow.holds Try.pinned (OpenSpec.upto shaSumsSpec)

/-- 'gemellaw02.ShaMeans', WHERE WHAT IT READS IS OF BULK AT MOST 1048576: true; the input reads as it did. -/
def shaMeansUptoRow : OpenClaim := { program := "ytgijfohgffhllaa", sum := "2e6b3e9aa811f48e2e87276982503fa6d3add6352104f0f42a9a18eb63ebf9f5", func := "gemel/gemellaw02.ShaMeans", spec := "shaMeans", inPlace := ["math/bits.Add64"], unfollowed := true, recurses := true, apart := false, narrowed := true }
def ShaMeansUptoSaid : Prop := shaMeansUptoRow.holds Try.pinned (OpenSpec.upto shaMeansSpec)

end Rows
end Go.Proofs.Ytgijfohgffhllaa
