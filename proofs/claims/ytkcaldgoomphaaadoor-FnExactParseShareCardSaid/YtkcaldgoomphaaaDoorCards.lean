/-
  DERIVED. GIVEN WITH THE SEED: THE CARDS: each row of YtkcaldgoomphaaaDoorRows.lean that lists a variable, with what it lists TIED to the program's text (the seventh form; the later family's looks); each row that meets fmt, with fmt's text TOLD by the authors' own Lean function (tested against real Go, not proved from fmt's source: count such statements apart). THE CARD IS WHAT COUNTS. Prove the row's statement (the work); the ties are given (YtkcaldgoomphaaaDoorTie.lean); close each card by the builder's one call (the guide's Derived/Test/ToyasCard.lean, 'card_holds'). Laid BY PROGRAM, IN A SANDBOX (cutbox-door.mjs). By AI agents, Wed Nov 11 2026. No macro, syntax, notation, axiom, sorry.
-/
import Derived.Test.YtkcaldgoomphaaaDoorRows
import GoSem.ClaimSeven
namespace Go.Proofs.YtkcaldgoomphaaaDoor
namespace Rows

/-- THE TIED CARD OF 'laws.FnExactShareText'. -/
def fnExactShareTextCard : Claim7 := { stood := { row := fnExactShareTextRow, standIns := [], harness := (true, "3ed57b80f08dce0c3949ec9565ae9479c60d51209feb0b9c34597211f2c6af42"), looks := true }, kinds := [], alts := [], laidByText := true, laidKinds := [.data, .data, .data], laidTests := true, laidLooks := .later }
def FnExactShareTextCardSaid : Prop := Claim7.holds Tryd.pinned (.plain (OpenSpec.ofChange fnExactShareTextSpec)) fnExactShareTextCard

/-- THE TIED CARD OF 'laws.FnExactParseShare'. -/
def fnExactParseShareCard : Claim7 := { stood := { row := fnExactParseShareRow, standIns := [], harness := (true, "3ed57b80f08dce0c3949ec9565ae9479c60d51209feb0b9c34597211f2c6af42"), looks := true }, kinds := [], alts := [], laidByText := true, laidKinds := [.data, .data, .data, .sentinel, .sentinel], laidTests := true, laidLooks := .later }
def FnExactParseShareCardSaid : Prop := Claim7.holds Tryd.pinned (.plain (OpenSpec.ofChange fnExactParseShareSpec)) fnExactParseShareCard

/-- THE SECOND FORM's CARD OF 'laws.FnExactShareText'. -/
def fnExactShareTextUptoCard : Claim7 := { stood := { row := fnExactShareTextUptoRow, standIns := [], harness := (true, "3ed57b80f08dce0c3949ec9565ae9479c60d51209feb0b9c34597211f2c6af42"), looks := true }, kinds := [], alts := [], laidByText := true, laidKinds := [.data, .data, .data], laidTests := true, laidLooks := .later }
def FnExactShareTextUptoCardSaid : Prop := Claim7.holds Tryd.pinned (.plain (OpenSpec.upto fnExactShareTextSpec)) fnExactShareTextUptoCard

/-- THE SECOND FORM's CARD OF 'laws.FnExactParseShare'. -/
def fnExactParseShareUptoCard : Claim7 := { stood := { row := fnExactParseShareUptoRow, standIns := [], harness := (true, "3ed57b80f08dce0c3949ec9565ae9479c60d51209feb0b9c34597211f2c6af42"), looks := true }, kinds := [], alts := [], laidByText := true, laidKinds := [.data, .data, .data, .sentinel, .sentinel], laidTests := true, laidLooks := .later }
def FnExactParseShareUptoCardSaid : Prop := Claim7.holds Tryd.pinned (.plain (OpenSpec.upto fnExactParseShareSpec)) fnExactParseShareUptoCard
end Rows
end Go.Proofs.YtkcaldgoomphaaaDoor
