/-
  DERIVED. GIVEN WITH THE SEED: THE CARDS: each row of YtcbddghmpneloaaGreatDoorRows.lean that lists a variable, with what it lists TIED to the program's text (the seventh form; the later family's looks); each row that meets fmt, with fmt's text TOLD by the authors' own Lean function (tested against real Go, not proved from fmt's source: count such statements apart). THE CARD IS WHAT COUNTS. Prove the row's statement (the work); the ties are given (YtcbddghmpneloaaGreatDoorTie.lean); close each card by the builder's one call (the guide's Derived/Test/ToyasCard.lean, 'card_holds'). Laid BY PROGRAM, IN A SANDBOX (cutbox-door.mjs). By AI agents, Wed Nov 11 2026. No macro, syntax, notation, axiom, sorry.
-/
import Derived.Test.YtcbddghmpneloaaGreatDoorRows
import GoSem.ClaimSeven
namespace Go.Proofs.YtcbddghmpneloaaGreatDoor
namespace Rows

/-- THE TIED CARD OF 'fairwaylaw21.SpeakerNone'. -/
def speakerNoneCard : Claim7 := { stood := { row := speakerNoneRow, standIns := [], harness := (true, "8672750a833b6022c51d165147d79faf7d39284e1d28c8ad0807aa6afc234eb1"), looks := true }, kinds := [], alts := [], laidByText := true, laidKinds := [.data], laidTests := true, laidLooks := .later }
def SpeakerNoneCardSaid : Prop := Claim7.holds Tryz.pinned (.plain (OpenSpec.ofChange speakerNoneSpec)) speakerNoneCard

/-- THE SECOND FORM's CARD OF 'fairwaylaw21.SpeakerNone'. -/
def speakerNoneUptoCard : Claim7 := { stood := { row := speakerNoneUptoRow, standIns := [], harness := (true, "8672750a833b6022c51d165147d79faf7d39284e1d28c8ad0807aa6afc234eb1"), looks := true }, kinds := [], alts := [], laidByText := true, laidKinds := [.data], laidTests := true, laidLooks := .later }
def SpeakerNoneUptoCardSaid : Prop := Claim7.holds Tryz.pinned (.plain (OpenSpec.upto speakerNoneSpec)) speakerNoneUptoCard
end Rows
end Go.Proofs.YtcbddghmpneloaaGreatDoor
