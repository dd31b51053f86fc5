/-
  DERIVED. GIVEN WITH THE SEED: THE CARDS: each row of YtaijldpbpimdlaaGreatDoorRows.lean that lists a variable, with what it lists TIED to the program's text (the seventh form; the later family's looks); each row that meets fmt, with fmt's text TOLD by the authors' own Lean function (tested against real Go, not proved from fmt's source: count such statements apart). THE CARD IS WHAT COUNTS. Prove the row's statement (the work); the ties are given (YtaijldpbpimdlaaGreatDoorTie.lean); close each card by the builder's one call (the guide's Derived/Test/ToyasCard.lean, 'card_holds'). Laid BY PROGRAM, IN A SANDBOX (cutbox-door.mjs). By AI agents, Wed Nov 11 2026. No macro, syntax, notation, axiom, sorry.
-/
import Derived.Test.YtaijldpbpimdlaaGreatDoorRows
import GoSem.ClaimSeven
namespace Go.Proofs.YtaijldpbpimdlaaGreatDoor
namespace Rows

/-- THE TIED CARD OF 'fairwaylaw12.FramePieces'. -/
def framePiecesCard : Claim7 := { stood := { row := framePiecesRow, standIns := [], harness := (true, "ae6bfa48ff874209fb91ee4d6b8200c209cef8b63efeab03834c9486fb22d5ca"), looks := false }, kinds := [], alts := [], laidByText := true, laidKinds := [.data], laidTests := true, laidLooks := .later }
def FramePiecesCardSaid : Prop := Claim7.holds Tryz.pinned (.plain (OpenSpec.ofChange framePiecesSpec)) framePiecesCard

/-- THE TIED CARD OF 'fairwaylaw22.ViewPieces'. -/
def viewPiecesCard : Claim7 := { stood := { row := viewPiecesRow, standIns := [], harness := (true, "ae6bfa48ff874209fb91ee4d6b8200c209cef8b63efeab03834c9486fb22d5ca"), looks := false }, kinds := [], alts := [], laidByText := true, laidKinds := [.data], laidTests := true, laidLooks := .later }
def ViewPiecesCardSaid : Prop := Claim7.holds Tryz.pinned (.plain (OpenSpec.ofChange viewPiecesSpec)) viewPiecesCard

/-- THE SECOND FORM's CARD OF 'fairwaylaw12.FramePieces'. -/
def framePiecesUptoCard : Claim7 := { stood := { row := framePiecesUptoRow, standIns := [], harness := (true, "ae6bfa48ff874209fb91ee4d6b8200c209cef8b63efeab03834c9486fb22d5ca"), looks := false }, kinds := [], alts := [], laidByText := true, laidKinds := [.data], laidTests := true, laidLooks := .later }
def FramePiecesUptoCardSaid : Prop := Claim7.holds Tryz.pinned (.plain (OpenSpec.upto framePiecesSpec)) framePiecesUptoCard

/-- THE SECOND FORM's CARD OF 'fairwaylaw22.ViewPieces'. -/
def viewPiecesUptoCard : Claim7 := { stood := { row := viewPiecesUptoRow, standIns := [], harness := (true, "ae6bfa48ff874209fb91ee4d6b8200c209cef8b63efeab03834c9486fb22d5ca"), looks := false }, kinds := [], alts := [], laidByText := true, laidKinds := [.data], laidTests := true, laidLooks := .later }
def ViewPiecesUptoCardSaid : Prop := Claim7.holds Tryz.pinned (.plain (OpenSpec.upto viewPiecesSpec)) viewPiecesUptoCard
end Rows
end Go.Proofs.YtaijldpbpimdlaaGreatDoor
