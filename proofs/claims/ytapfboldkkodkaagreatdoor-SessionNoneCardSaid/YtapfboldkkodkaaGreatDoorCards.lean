/-
  DERIVED. GIVEN WITH THE SEED: THE CARDS: each row of YtapfboldkkodkaaGreatDoorRows.lean that lists a variable, with what it lists TIED to the program's text (the seventh form; the later family's looks); each row that meets fmt, with fmt's text TOLD by the authors' own Lean function (tested against real Go, not proved from fmt's source: count such statements apart). THE CARD IS WHAT COUNTS. Prove the row's statement (the work); the ties are given (YtapfboldkkodkaaGreatDoorTie.lean); close each card by the builder's one call (the guide's Derived/Test/ToyasCard.lean, 'card_holds'). Laid BY PROGRAM, IN A SANDBOX (cutbox-door.mjs). By AI agents, Wed Nov 11 2026. No macro, syntax, notation, axiom, sorry.
-/
import Derived.Test.YtapfboldkkodkaaGreatDoorRows
import GoSem.ClaimSeven
namespace Go.Proofs.YtapfboldkkodkaaGreatDoor
namespace Rows

/-- THE TIED CARD OF 'fairwaylaw12.FrameNone'. -/
def frameNoneCard : Claim7 := { stood := { row := frameNoneRow, standIns := [], harness := (true, "aca1d0363697cf8216f6a869a266a7ca73e1c075b5d723dfc2a2cc6029bc7c54"), looks := true }, kinds := [], alts := [], laidByText := true, laidKinds := [.data], laidTests := true, laidLooks := .later }
def FrameNoneCardSaid : Prop := Claim7.holds Tryz.pinned (.plain (OpenSpec.ofChange frameNoneSpec)) frameNoneCard

/-- THE TIED CARD OF 'fairwaylaw22.ViewNone'. -/
def viewNoneCard : Claim7 := { stood := { row := viewNoneRow, standIns := [], harness := (true, "aca1d0363697cf8216f6a869a266a7ca73e1c075b5d723dfc2a2cc6029bc7c54"), looks := true }, kinds := [], alts := [], laidByText := true, laidKinds := [.data], laidTests := true, laidLooks := .later }
def ViewNoneCardSaid : Prop := Claim7.holds Tryz.pinned (.plain (OpenSpec.ofChange viewNoneSpec)) viewNoneCard

/-- THE TIED CARD OF 'fairwaylaw30.BalanceNone'. -/
def balanceNoneCard : Claim7 := { stood := { row := balanceNoneRow, standIns := [], harness := (true, "aca1d0363697cf8216f6a869a266a7ca73e1c075b5d723dfc2a2cc6029bc7c54"), looks := true }, kinds := [], alts := [], laidByText := true, laidKinds := [.data, .data, .data], laidTests := true, laidLooks := .later }
def BalanceNoneCardSaid : Prop := Claim7.holds Tryz.pinned (.plain (OpenSpec.ofChange balanceNoneSpec)) balanceNoneCard

/-- THE TIED CARD OF 'fairwaylaw16.SessionNone'. -/
def sessionNoneCard : Claim7 := { stood := { row := sessionNoneRow, standIns := [], harness := (true, "aca1d0363697cf8216f6a869a266a7ca73e1c075b5d723dfc2a2cc6029bc7c54"), looks := true }, kinds := [], alts := [], laidByText := true, laidKinds := [.data], laidTests := true, laidLooks := .later }
def SessionNoneCardSaid : Prop := Claim7.holds Tryz.pinned (.plain (OpenSpec.ofChange sessionNoneSpec)) sessionNoneCard

/-- THE SECOND FORM's CARD OF 'fairwaylaw12.FrameNone'. -/
def frameNoneUptoCard : Claim7 := { stood := { row := frameNoneUptoRow, standIns := [], harness := (true, "aca1d0363697cf8216f6a869a266a7ca73e1c075b5d723dfc2a2cc6029bc7c54"), looks := true }, kinds := [], alts := [], laidByText := true, laidKinds := [.data], laidTests := true, laidLooks := .later }
def FrameNoneUptoCardSaid : Prop := Claim7.holds Tryz.pinned (.plain (OpenSpec.upto frameNoneSpec)) frameNoneUptoCard

/-- THE SECOND FORM's CARD OF 'fairwaylaw22.ViewNone'. -/
def viewNoneUptoCard : Claim7 := { stood := { row := viewNoneUptoRow, standIns := [], harness := (true, "aca1d0363697cf8216f6a869a266a7ca73e1c075b5d723dfc2a2cc6029bc7c54"), looks := true }, kinds := [], alts := [], laidByText := true, laidKinds := [.data], laidTests := true, laidLooks := .later }
def ViewNoneUptoCardSaid : Prop := Claim7.holds Tryz.pinned (.plain (OpenSpec.upto viewNoneSpec)) viewNoneUptoCard

/-- THE SECOND FORM's CARD OF 'fairwaylaw30.BalanceNone'. -/
def balanceNoneUptoCard : Claim7 := { stood := { row := balanceNoneUptoRow, standIns := [], harness := (true, "aca1d0363697cf8216f6a869a266a7ca73e1c075b5d723dfc2a2cc6029bc7c54"), looks := true }, kinds := [], alts := [], laidByText := true, laidKinds := [.data, .data, .data], laidTests := true, laidLooks := .later }
def BalanceNoneUptoCardSaid : Prop := Claim7.holds Tryz.pinned (.plain (OpenSpec.upto balanceNoneSpec)) balanceNoneUptoCard

/-- THE SECOND FORM's CARD OF 'fairwaylaw16.SessionNone'. -/
def sessionNoneUptoCard : Claim7 := { stood := { row := sessionNoneUptoRow, standIns := [], harness := (true, "aca1d0363697cf8216f6a869a266a7ca73e1c075b5d723dfc2a2cc6029bc7c54"), looks := true }, kinds := [], alts := [], laidByText := true, laidKinds := [.data], laidTests := true, laidLooks := .later }
def SessionNoneUptoCardSaid : Prop := Claim7.holds Tryz.pinned (.plain (OpenSpec.upto sessionNoneSpec)) sessionNoneUptoCard
end Rows
end Go.Proofs.YtapfboldkkodkaaGreatDoor
