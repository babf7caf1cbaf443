/-
  DERIVED. GIVEN WITH THE SEED: THE CARDS: each row of YtfhhlkkhcoaapaaGreatDoorRows.lean that lists a variable, with what it lists TIED to the program's text (the seventh form; the later family's looks); each row that meets fmt, with fmt's text TOLD by the authors' own Lean function (tested against real Go, not proved from fmt's source: count such statements apart). THE CARD IS WHAT COUNTS. Prove the row's statement (the work); the ties are given (YtfhhlkkhcoaapaaGreatDoorTie.lean); close each card by the builder's one call (the guide's Derived/Test/ToyasCard.lean, 'card_holds'). Laid BY PROGRAM, IN A SANDBOX (cutbox-door.mjs). By AI agents, Wed Nov 11 2026. No macro, syntax, notation, axiom, sorry.
-/
import Derived.Test.YtfhhlkkhcoaapaaGreatDoorRows
import GoSem.ClaimSeven
namespace Go.Proofs.YtfhhlkkhcoaapaaGreatDoor
namespace Rows

/-- THE TIED CARD OF 'laws.FnFaultyShares'. -/
def fnFaultySharesCard : Claim7 := { stood := { row := fnFaultySharesRow, standIns := [], harness := (true, "ef76f9ad19fb35fe183c0c29af8f7fd8119026a733bb902408145c2e64b53373"), looks := true }, kinds := [], alts := [], laidByText := true, laidKinds := [.data, .data, .data, .sentinel, .sentinel], laidTests := true, laidLooks := .later }
def FnFaultySharesCardSaid : Prop := Claim7.holds Tryz.pinned (.plain (OpenSpec.ofChange fnFaultySharesSpec)) fnFaultySharesCard

/-- THE SECOND FORM's CARD OF 'laws.FnFaultyShares'. -/
def fnFaultySharesUptoCard : Claim7 := { stood := { row := fnFaultySharesUptoRow, standIns := [], harness := (true, "ef76f9ad19fb35fe183c0c29af8f7fd8119026a733bb902408145c2e64b53373"), looks := true }, kinds := [], alts := [], laidByText := true, laidKinds := [.data, .data, .data, .sentinel, .sentinel], laidTests := true, laidLooks := .later }
def FnFaultySharesUptoCardSaid : Prop := Claim7.holds Tryz.pinned (.plain (OpenSpec.upto fnFaultySharesSpec)) fnFaultySharesUptoCard
end Rows
end Go.Proofs.YtfhhlkkhcoaapaaGreatDoor
