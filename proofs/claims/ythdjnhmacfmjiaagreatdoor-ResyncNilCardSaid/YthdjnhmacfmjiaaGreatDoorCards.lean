/-
  DERIVED. GIVEN WITH THE SEED: THE CARDS: each row of YthdjnhmacfmjiaaGreatDoorRows.lean that lists a variable, with what it lists TIED to the program's text (the seventh form; the later family's looks); each row that meets fmt, with fmt's text TOLD by the authors' own Lean function (tested against real Go, not proved from fmt's source: count such statements apart). THE CARD IS WHAT COUNTS. Prove the row's statement (the work); the ties are given (YthdjnhmacfmjiaaGreatDoorTie.lean); close each card by the builder's one call (the guide's Derived/Test/ToyasCard.lean, 'card_holds'). Laid BY PROGRAM, IN A SANDBOX (cutbox-door.mjs). By AI agents, Wed Nov 11 2026. No macro, syntax, notation, axiom, sorry.
-/
import Derived.Test.YthdjnhmacfmjiaaGreatDoorRows
import GoSem.ClaimSeven
namespace Go.Proofs.YthdjnhmacfmjiaaGreatDoor
namespace Rows

/-- THE TIED CARD OF 'gemellaw28.VerifyNil'. -/
def verifyNilCard : Claim7 := { stood := { row := verifyNilRow, standIns := [], harness := (true, "f4aa76c60b8ecbb6d5afd2067278af2c7495113774b81d29b1389b96a4c74365"), looks := false }, kinds := [], alts := [], laidByText := true, laidKinds := [.data], laidTests := true, laidLooks := .later }
def VerifyNilCardSaid : Prop := Claim7.holds Tryz.pinned (.plain (OpenSpec.ofChange verifyNilSpec)) verifyNilCard

/-- THE TIED CARD OF 'gemellaw19.ResyncAnswers'. -/
def resyncAnswersCard : Claim7 := { stood := { row := resyncAnswersRow, standIns := [], harness := (true, "f4aa76c60b8ecbb6d5afd2067278af2c7495113774b81d29b1389b96a4c74365"), looks := false }, kinds := [], alts := [], laidByText := true, laidKinds := [.data], laidTests := true, laidLooks := .later }
def ResyncAnswersCardSaid : Prop := Claim7.holds Tryz.pinned (.plain (OpenSpec.ofChange resyncAnswersSpec)) resyncAnswersCard

/-- THE TIED CARD OF 'gemellaw19.ResyncNil'. -/
def resyncNilCard : Claim7 := { stood := { row := resyncNilRow, standIns := [], harness := (true, "f4aa76c60b8ecbb6d5afd2067278af2c7495113774b81d29b1389b96a4c74365"), looks := false }, kinds := [], alts := [], laidByText := true, laidKinds := [.data], laidTests := true, laidLooks := .later }
def ResyncNilCardSaid : Prop := Claim7.holds Tryz.pinned (.plain (OpenSpec.ofChange resyncNilSpec)) resyncNilCard

/-- THE SECOND FORM's CARD OF 'gemellaw28.VerifyNil'. -/
def verifyNilUptoCard : Claim7 := { stood := { row := verifyNilUptoRow, standIns := [], harness := (true, "f4aa76c60b8ecbb6d5afd2067278af2c7495113774b81d29b1389b96a4c74365"), looks := false }, kinds := [], alts := [], laidByText := true, laidKinds := [.data], laidTests := true, laidLooks := .later }
def VerifyNilUptoCardSaid : Prop := Claim7.holds Tryz.pinned (.plain (OpenSpec.upto verifyNilSpec)) verifyNilUptoCard

/-- THE SECOND FORM's CARD OF 'gemellaw19.ResyncAnswers'. -/
def resyncAnswersUptoCard : Claim7 := { stood := { row := resyncAnswersUptoRow, standIns := [], harness := (true, "f4aa76c60b8ecbb6d5afd2067278af2c7495113774b81d29b1389b96a4c74365"), looks := false }, kinds := [], alts := [], laidByText := true, laidKinds := [.data], laidTests := true, laidLooks := .later }
def ResyncAnswersUptoCardSaid : Prop := Claim7.holds Tryz.pinned (.plain (OpenSpec.upto resyncAnswersSpec)) resyncAnswersUptoCard

/-- THE SECOND FORM's CARD OF 'gemellaw19.ResyncNil'. -/
def resyncNilUptoCard : Claim7 := { stood := { row := resyncNilUptoRow, standIns := [], harness := (true, "f4aa76c60b8ecbb6d5afd2067278af2c7495113774b81d29b1389b96a4c74365"), looks := false }, kinds := [], alts := [], laidByText := true, laidKinds := [.data], laidTests := true, laidLooks := .later }
def ResyncNilUptoCardSaid : Prop := Claim7.holds Tryz.pinned (.plain (OpenSpec.upto resyncNilSpec)) resyncNilUptoCard
end Rows
end Go.Proofs.YthdjnhmacfmjiaaGreatDoor
