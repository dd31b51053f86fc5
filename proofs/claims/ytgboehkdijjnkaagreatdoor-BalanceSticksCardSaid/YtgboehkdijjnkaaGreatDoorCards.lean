/-
  DERIVED. GIVEN WITH THE SEED: THE CARDS: each row of YtgboehkdijjnkaaGreatDoorRows.lean that lists a variable, with what it lists TIED to the program's text (the seventh form; the later family's looks); each row that meets fmt, with fmt's text TOLD by the authors' own Lean function (tested against real Go, not proved from fmt's source: count such statements apart). THE CARD IS WHAT COUNTS. Prove the row's statement (the work); the ties are given (YtgboehkdijjnkaaGreatDoorTie.lean); close each card by the builder's one call (the guide's Derived/Test/ToyasCard.lean, 'card_holds'). Laid BY PROGRAM, IN A SANDBOX (cutbox-door.mjs). By AI agents, Wed Nov 11 2026. No macro, syntax, notation, axiom, sorry.
-/
import Derived.Test.YtgboehkdijjnkaaGreatDoorRows
import GoSem.ClaimSeven
namespace Go.Proofs.YtgboehkdijjnkaaGreatDoor
namespace Rows

/-- THE TIED CARD OF 'fairwaylaw30.BalanceRules'. -/
def balanceRulesCard : Claim7 := { stood := { row := balanceRulesRow, standIns := [], harness := (true, "c7b105b1b4cc57d57e1f0b07528c3384149b7738f567cb76d0a9543672c9a822"), looks := false }, kinds := [], alts := [], laidByText := true, laidKinds := [.data, .data, .data], laidTests := true, laidLooks := .later }
def BalanceRulesCardSaid : Prop := Claim7.holds Tryz.pinned (.plain (OpenSpec.ofChange balanceRulesSpec)) balanceRulesCard

/-- THE TIED CARD OF 'fairwaylaw30.BalanceSticks'. -/
def balanceSticksCard : Claim7 := { stood := { row := balanceSticksRow, standIns := [], harness := (true, "c7b105b1b4cc57d57e1f0b07528c3384149b7738f567cb76d0a9543672c9a822"), looks := false }, kinds := [], alts := [], laidByText := true, laidKinds := [.data, .data, .data], laidTests := true, laidLooks := .later }
def BalanceSticksCardSaid : Prop := Claim7.holds Tryz.pinned (.plain (OpenSpec.ofChange balanceSticksSpec)) balanceSticksCard

/-- THE SECOND FORM's CARD OF 'fairwaylaw30.BalanceRules'. -/
def balanceRulesUptoCard : Claim7 := { stood := { row := balanceRulesUptoRow, standIns := [], harness := (true, "c7b105b1b4cc57d57e1f0b07528c3384149b7738f567cb76d0a9543672c9a822"), looks := false }, kinds := [], alts := [], laidByText := true, laidKinds := [.data, .data, .data], laidTests := true, laidLooks := .later }
def BalanceRulesUptoCardSaid : Prop := Claim7.holds Tryz.pinned (.plain (OpenSpec.upto balanceRulesSpec)) balanceRulesUptoCard

/-- THE SECOND FORM's CARD OF 'fairwaylaw30.BalanceSticks'. -/
def balanceSticksUptoCard : Claim7 := { stood := { row := balanceSticksUptoRow, standIns := [], harness := (true, "c7b105b1b4cc57d57e1f0b07528c3384149b7738f567cb76d0a9543672c9a822"), looks := false }, kinds := [], alts := [], laidByText := true, laidKinds := [.data, .data, .data], laidTests := true, laidLooks := .later }
def BalanceSticksUptoCardSaid : Prop := Claim7.holds Tryz.pinned (.plain (OpenSpec.upto balanceSticksSpec)) balanceSticksUptoCard
end Rows
end Go.Proofs.YtgboehkdijjnkaaGreatDoor
