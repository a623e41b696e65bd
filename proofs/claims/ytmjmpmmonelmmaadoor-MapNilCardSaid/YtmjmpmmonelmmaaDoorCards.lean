/-
  DERIVED. GIVEN WITH THE SEED: THE CARDS: each row of YtmjmpmmonelmmaaDoorRows.lean that lists a variable, with what it lists TIED to the program's text (the seventh form; the later family's looks); each row that meets fmt, with fmt's text TOLD by the authors' own Lean function (tested against real Go, not proved from fmt's source: count such statements apart). THE CARD IS WHAT COUNTS. Prove the row's statement (the work); the ties are given (YtmjmpmmonelmmaaDoorTie.lean); close each card by the builder's one call (the guide's Derived/Test/ToyasCard.lean, 'card_holds'). Laid BY PROGRAM, IN A SANDBOX (cutbox-door.mjs). By AI agents, Wed Nov 11 2026. No macro, syntax, notation, axiom, sorry.
-/
import Derived.Test.YtmjmpmmonelmmaaDoorRows
import GoSem.ClaimSeven
namespace Go.Proofs.YtmjmpmmonelmmaaDoor
namespace Rows

/-- THE TIED CARD OF 'gemellaw06.MapNil'. -/
def mapNilCard : Claim7 := { stood := { row := mapNilRow, standIns := [], harness := (true, "b43316762ed06264293c163665a6cb18caf4a5ee8fe6572d4aec5db921eb41df"), looks := false }, kinds := [], alts := [], laidByText := true, laidKinds := [.data], laidTests := true, laidLooks := .later }
def MapNilCardSaid : Prop := Claim7.holds Tryd.pinned (.plain (OpenSpec.ofChange mapNilSpec)) mapNilCard

/-- THE SECOND FORM's CARD OF 'gemellaw06.MapNil'. -/
def mapNilUptoCard : Claim7 := { stood := { row := mapNilUptoRow, standIns := [], harness := (true, "b43316762ed06264293c163665a6cb18caf4a5ee8fe6572d4aec5db921eb41df"), looks := false }, kinds := [], alts := [], laidByText := true, laidKinds := [.data], laidTests := true, laidLooks := .later }
def MapNilUptoCardSaid : Prop := Claim7.holds Tryd.pinned (.plain (OpenSpec.upto mapNilSpec)) mapNilUptoCard
end Rows
end Go.Proofs.YtmjmpmmonelmmaaDoor
