/-
  DERIVED. GIVEN WITH THE SEED: THE CARDS: each row of YtkfinpehpcbooaaDoorRows.lean that lists a variable, with what it lists TIED to the program's text (the seventh form; the later family's looks); each row that meets fmt, with fmt's text TOLD by the authors' own Lean function (tested against real Go, not proved from fmt's source: count such statements apart). THE CARD IS WHAT COUNTS. Prove the row's statement (the work); the ties are given (YtkfinpehpcbooaaDoorTie.lean); close each card by the builder's one call (the guide's Derived/Test/ToyasCard.lean, 'card_holds'). Laid BY PROGRAM, IN A SANDBOX (cutbox-door.mjs). By AI agents, Wed Nov 11 2026. No macro, syntax, notation, axiom, sorry.
-/
import Derived.Test.YtkfinpehpcbooaaDoorRows
import GoSem.ClaimSeven
namespace Go.Proofs.YtkfinpehpcbooaaDoor
namespace Rows

/-- THE TIED CARD OF 'fairwaylaw11.MessageLengths'. -/
def messageLengthsCard : Claim7 := { stood := { row := messageLengthsRow, standIns := [], harness := (true, "ad13e9399e21c2a52f7e1dc4af93f2bec59f305d8b7fc1d0792ead43bfe3c12e"), looks := true }, kinds := [], alts := [], laidByText := true, laidKinds := [.data], laidTests := true, laidLooks := .later }
def MessageLengthsCardSaid : Prop := Claim7.holds Tryd.pinned (.plain (OpenSpec.ofChange messageLengthsSpec)) messageLengthsCard

/-- THE SECOND FORM's CARD OF 'fairwaylaw11.MessageLengths'. -/
def messageLengthsUptoCard : Claim7 := { stood := { row := messageLengthsUptoRow, standIns := [], harness := (true, "ad13e9399e21c2a52f7e1dc4af93f2bec59f305d8b7fc1d0792ead43bfe3c12e"), looks := true }, kinds := [], alts := [], laidByText := true, laidKinds := [.data], laidTests := true, laidLooks := .later }
def MessageLengthsUptoCardSaid : Prop := Claim7.holds Tryd.pinned (.plain (OpenSpec.upto messageLengthsSpec)) messageLengthsUptoCard
end Rows
end Go.Proofs.YtkfinpehpcbooaaDoor
