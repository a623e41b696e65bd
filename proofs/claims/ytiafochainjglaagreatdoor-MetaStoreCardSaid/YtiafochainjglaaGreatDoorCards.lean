/-
  DERIVED. GIVEN WITH THE SEED: THE CARDS: each row of YtiafochainjglaaGreatDoorRows.lean that lists a variable, with what it lists TIED to the program's text (the seventh form; the later family's looks); each row that meets fmt, with fmt's text TOLD by the authors' own Lean function (tested against real Go, not proved from fmt's source: count such statements apart). THE CARD IS WHAT COUNTS. Prove the row's statement (the work); the ties are given (YtiafochainjglaaGreatDoorTie.lean); close each card by the builder's one call (the guide's Derived/Test/ToyasCard.lean, 'card_holds'). Laid BY PROGRAM, IN A SANDBOX (cutbox-door.mjs). By AI agents, Wed Nov 11 2026. No macro, syntax, notation, axiom, sorry.
-/
import Derived.Test.YtiafochainjglaaGreatDoorRows
import GoSem.ClaimSeven
namespace Go.Proofs.YtiafochainjglaaGreatDoor
namespace Rows

/-- THE TIED CARD OF 'gemellaw29.MetaReads'. -/
def metaReadsCard : Claim7 := { stood := { row := metaReadsRow, standIns := [], harness := (true, "5cb5d186f9a595697ffe3857efde8c74350049c5a8ee1f3809f9d2b7d4aab2c2"), looks := true }, kinds := [], alts := [], laidByText := true, laidKinds := [.data, .data, .data, .data, .sentinel, .sentinel, .data, .pinned], laidTests := true, laidLooks := .later }
def MetaReadsCardSaid : Prop := Claim7.holds Tryz.pinned (.plain (OpenSpec.ofChange metaReadsSpec)) metaReadsCard

/-- THE TIED CARD OF 'gemellaw29.MetaNil'. -/
def metaNilCard : Claim7 := { stood := { row := metaNilRow, standIns := [], harness := (true, "5cb5d186f9a595697ffe3857efde8c74350049c5a8ee1f3809f9d2b7d4aab2c2"), looks := true }, kinds := [], alts := [], laidByText := true, laidKinds := [.data, .data, .data, .data, .sentinel, .sentinel, .data, .pinned], laidTests := true, laidLooks := .later }
def MetaNilCardSaid : Prop := Claim7.holds Tryz.pinned (.plain (OpenSpec.ofChange metaNilSpec)) metaNilCard

/-- THE TIED CARD OF 'gemellaw29.MetaTakes'. -/
def metaTakesCard : Claim7 := { stood := { row := metaTakesRow, standIns := [], harness := (true, "5cb5d186f9a595697ffe3857efde8c74350049c5a8ee1f3809f9d2b7d4aab2c2"), looks := true }, kinds := [], alts := [], laidByText := true, laidKinds := [.data, .data, .data, .data], laidTests := true, laidLooks := .later }
def MetaTakesCardSaid : Prop := Claim7.holds Tryz.pinned (.plain (OpenSpec.ofChange metaTakesSpec)) metaTakesCard

/-- THE TIED CARD OF 'gemellaw29.MetaAttached'. -/
def metaAttachedCard : Claim7 := { stood := { row := metaAttachedRow, standIns := [], harness := (true, "5cb5d186f9a595697ffe3857efde8c74350049c5a8ee1f3809f9d2b7d4aab2c2"), looks := true }, kinds := [], alts := [], laidByText := true, laidKinds := [.data, .data, .data, .data], laidTests := true, laidLooks := .later }
def MetaAttachedCardSaid : Prop := Claim7.holds Tryz.pinned (.plain (OpenSpec.ofChange metaAttachedSpec)) metaAttachedCard

/-- THE TIED CARD OF 'gemellaw29.MetaStore'. -/
def metaStoreCard : Claim7 := { stood := { row := metaStoreRow, standIns := [], harness := (true, "5cb5d186f9a595697ffe3857efde8c74350049c5a8ee1f3809f9d2b7d4aab2c2"), looks := true }, kinds := [], alts := [], laidByText := true, laidKinds := [.data, .data, .data, .data], laidTests := true, laidLooks := .later }
def MetaStoreCardSaid : Prop := Claim7.holds Tryz.pinned (.plain (OpenSpec.ofChange metaStoreSpec)) metaStoreCard

/-- THE TIED CARD OF 'gemellaw29.MetaPuts'. -/
def metaPutsCard : Claim7 := { stood := { row := metaPutsRow, standIns := [], harness := (true, "5cb5d186f9a595697ffe3857efde8c74350049c5a8ee1f3809f9d2b7d4aab2c2"), looks := true }, kinds := [], alts := [], laidByText := true, laidKinds := [.data, .data, .data, .data], laidTests := true, laidLooks := .later }
def MetaPutsCardSaid : Prop := Claim7.holds Tryz.pinned (.plain (OpenSpec.ofChange metaPutsSpec)) metaPutsCard

/-- THE SECOND FORM's CARD OF 'gemellaw29.MetaReads'. -/
def metaReadsUptoCard : Claim7 := { stood := { row := metaReadsUptoRow, standIns := [], harness := (true, "5cb5d186f9a595697ffe3857efde8c74350049c5a8ee1f3809f9d2b7d4aab2c2"), looks := true }, kinds := [], alts := [], laidByText := true, laidKinds := [.data, .data, .data, .data, .sentinel, .sentinel, .data, .pinned], laidTests := true, laidLooks := .later }
def MetaReadsUptoCardSaid : Prop := Claim7.holds Tryz.pinned (.plain (OpenSpec.upto metaReadsSpec)) metaReadsUptoCard

/-- THE SECOND FORM's CARD OF 'gemellaw29.MetaNil'. -/
def metaNilUptoCard : Claim7 := { stood := { row := metaNilUptoRow, standIns := [], harness := (true, "5cb5d186f9a595697ffe3857efde8c74350049c5a8ee1f3809f9d2b7d4aab2c2"), looks := true }, kinds := [], alts := [], laidByText := true, laidKinds := [.data, .data, .data, .data, .sentinel, .sentinel, .data, .pinned], laidTests := true, laidLooks := .later }
def MetaNilUptoCardSaid : Prop := Claim7.holds Tryz.pinned (.plain (OpenSpec.upto metaNilSpec)) metaNilUptoCard

/-- THE SECOND FORM's CARD OF 'gemellaw29.MetaTakes'. -/
def metaTakesUptoCard : Claim7 := { stood := { row := metaTakesUptoRow, standIns := [], harness := (true, "5cb5d186f9a595697ffe3857efde8c74350049c5a8ee1f3809f9d2b7d4aab2c2"), looks := true }, kinds := [], alts := [], laidByText := true, laidKinds := [.data, .data, .data, .data], laidTests := true, laidLooks := .later }
def MetaTakesUptoCardSaid : Prop := Claim7.holds Tryz.pinned (.plain (OpenSpec.upto metaTakesSpec)) metaTakesUptoCard

/-- THE SECOND FORM's CARD OF 'gemellaw29.MetaAttached'. -/
def metaAttachedUptoCard : Claim7 := { stood := { row := metaAttachedUptoRow, standIns := [], harness := (true, "5cb5d186f9a595697ffe3857efde8c74350049c5a8ee1f3809f9d2b7d4aab2c2"), looks := true }, kinds := [], alts := [], laidByText := true, laidKinds := [.data, .data, .data, .data], laidTests := true, laidLooks := .later }
def MetaAttachedUptoCardSaid : Prop := Claim7.holds Tryz.pinned (.plain (OpenSpec.upto metaAttachedSpec)) metaAttachedUptoCard

/-- THE SECOND FORM's CARD OF 'gemellaw29.MetaStore'. -/
def metaStoreUptoCard : Claim7 := { stood := { row := metaStoreUptoRow, standIns := [], harness := (true, "5cb5d186f9a595697ffe3857efde8c74350049c5a8ee1f3809f9d2b7d4aab2c2"), looks := true }, kinds := [], alts := [], laidByText := true, laidKinds := [.data, .data, .data, .data], laidTests := true, laidLooks := .later }
def MetaStoreUptoCardSaid : Prop := Claim7.holds Tryz.pinned (.plain (OpenSpec.upto metaStoreSpec)) metaStoreUptoCard

/-- THE SECOND FORM's CARD OF 'gemellaw29.MetaPuts'. -/
def metaPutsUptoCard : Claim7 := { stood := { row := metaPutsUptoRow, standIns := [], harness := (true, "5cb5d186f9a595697ffe3857efde8c74350049c5a8ee1f3809f9d2b7d4aab2c2"), looks := true }, kinds := [], alts := [], laidByText := true, laidKinds := [.data, .data, .data, .data], laidTests := true, laidLooks := .later }
def MetaPutsUptoCardSaid : Prop := Claim7.holds Tryz.pinned (.plain (OpenSpec.upto metaPutsSpec)) metaPutsUptoCard
end Rows
end Go.Proofs.YtiafochainjglaaGreatDoor
