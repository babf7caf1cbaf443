/-
  No cell of these rows narrows 'for every input' (looked for: loops, veiled, ifaces, maps, wideKeys, modest, calm, conditions, laid).
  DERIVED. THE GIVEN ROWS OF THIS SEAT. 5 by the template 'for every input the law returns true; each argument reads behind the call as it read before'; 0 by the template 'total and deterministic' (their statements: YtpjogonponkbmaaTotals.lean).
  GIVEN WITH THE SEED: the statements are not yours to turn. If you find one false, say at which input.
  Laid BY PROGRAM, IN A SANDBOX (cutbox-rows.mjs): the forced cells as the released guide's own fill.sh prints them over the translation e20d149f235bac71… (all of the seat's roots in one cut). By AI agents, Wed Nov 11 2026. No macro, syntax, notation, axiom, sorry.
-/
import Derived.Test.YtpjogonponkbmaaChecked
import GoSem.Claim
import GoSem.ClaimJoined
import GoSem.ClaimMapViews
import Derived.JoinedTies
import Derived.KernelRfl
namespace Go.Proofs.Ytpjogonponkbmaa
/- THE CELL 'sum', in the pinned program and in every row, IS THE sha256 OF THE DUMP (.gsa) THAT YtpjogonponkbmaaProg.lean LOADS. Nothing in Lean hashes anything: it is a label: what it is worth is what the hold of that sum in a sandbox is worth. -/
noncomputable def Try.pinned : Pinned := { name := "ytpjogonponkbmaa", sum := "e20d149f235bac7147b1a4d4b4f1151d019e45fdddbc41f651fabc5bb8fd9899", checked := Try.checked }
namespace Rows
def none {H : Type} : Left H := { results := [], args := [] }

/-- 'laws.FnExactSharesOf': WHATEVER THE INPUT: true; the input reads as it did. -/
def fnExactSharesOfSpec : ChangeSpec := { name := "fnExactSharesOf", fn := fun _ => fun
  | [d1, d2, d3, d4] => { results := [.lit (.bool true)], args := [d1, d2, d3, d4] }
  | _ => none }
def fnExactSharesOfRow : OpenClaim := { program := "ytpjogonponkbmaa", sum := "e20d149f235bac7147b1a4d4b4f1151d019e45fdddbc41f651fabc5bb8fd9899", func := "loop.example/g01182/laws.FnExactSharesOf", spec := "fnExactSharesOf", inPlace := ["internal/bytealg.IndexByte"], unfollowed := true, recurses := true, plainKeys := false, apart := false }
def FnExactSharesOfSaid : Prop := fnExactSharesOfRow.holds Try.pinned (OpenSpec.ofChange fnExactSharesOfSpec)

/-- ITS FALSE NEIGHBOUR: 'it returns false'. Refute it at one input. -/
def fnExactSharesOfWrong : ChangeSpec := { name := "fnExactSharesOf", fn := fun _ => fun
  | [d1, d2, d3, d4] => { results := [.lit (.bool false)], args := [d1, d2, d3, d4] }
  | _ => none }
def FnExactSharesOfWrongFalsely : Prop := fnExactSharesOfRow.holds Try.pinned (OpenSpec.ofChange fnExactSharesOfWrong)

/-- 'laws.FnExactRefreshShares': WHATEVER THE INPUT: true; the input reads as it did. -/
def fnExactRefreshSharesSpec : ChangeSpec := { name := "fnExactRefreshShares", fn := fun _ => fun
  | [d1, d2, d3] => { results := [.lit (.bool true)], args := [d1, d2, d3] }
  | _ => none }
def fnExactRefreshSharesRow : OpenClaim := { program := "ytpjogonponkbmaa", sum := "e20d149f235bac7147b1a4d4b4f1151d019e45fdddbc41f651fabc5bb8fd9899", func := "loop.example/g01182/laws.FnExactRefreshShares", spec := "fnExactRefreshShares", inPlace := ["internal/bytealg.IndexByte"], unfollowed := true, recurses := true, plainKeys := false, apart := false }
def FnExactRefreshSharesSaid : Prop := fnExactRefreshSharesRow.holds Try.pinned (OpenSpec.ofChange fnExactRefreshSharesSpec)

/-- ITS FALSE NEIGHBOUR: 'it returns false'. Refute it at one input. -/
def fnExactRefreshSharesWrong : ChangeSpec := { name := "fnExactRefreshShares", fn := fun _ => fun
  | [d1, d2, d3] => { results := [.lit (.bool false)], args := [d1, d2, d3] }
  | _ => none }
def FnExactRefreshSharesWrongFalsely : Prop := fnExactRefreshSharesRow.holds Try.pinned (OpenSpec.ofChange fnExactRefreshSharesWrong)

/-- 'laws.FnExactWalkOf': WHATEVER THE INPUT: true; the input reads as it did. -/
def fnExactWalkOfSpec : ChangeSpec := { name := "fnExactWalkOf", fn := fun _ => fun
  | [d1, d2, d3] => { results := [.lit (.bool true)], args := [d1, d2, d3] }
  | _ => none }
def fnExactWalkOfRow : OpenClaim := { program := "ytpjogonponkbmaa", sum := "e20d149f235bac7147b1a4d4b4f1151d019e45fdddbc41f651fabc5bb8fd9899", func := "loop.example/g01182/laws.FnExactWalkOf", spec := "fnExactWalkOf", inPlace := ["internal/bytealg.IndexByte"], plainKeys := false, apart := false }
def FnExactWalkOfSaid : Prop := fnExactWalkOfRow.holds Try.pinned (OpenSpec.ofChange fnExactWalkOfSpec)

/-- ITS FALSE NEIGHBOUR: 'it returns false'. Refute it at one input. -/
def fnExactWalkOfWrong : ChangeSpec := { name := "fnExactWalkOf", fn := fun _ => fun
  | [d1, d2, d3] => { results := [.lit (.bool false)], args := [d1, d2, d3] }
  | _ => none }
def FnExactWalkOfWrongFalsely : Prop := fnExactWalkOfRow.holds Try.pinned (OpenSpec.ofChange fnExactWalkOfWrong)

/-- 'laws.FnExactMeetingsOf': WHATEVER THE INPUT: true; the input reads as it did. -/
def fnExactMeetingsOfSpec : ChangeSpec := { name := "fnExactMeetingsOf", fn := fun _ => fun
  | [d1, d2, d3] => { results := [.lit (.bool true)], args := [d1, d2, d3] }
  | _ => none }
def fnExactMeetingsOfRow : OpenClaim := { program := "ytpjogonponkbmaa", sum := "e20d149f235bac7147b1a4d4b4f1151d019e45fdddbc41f651fabc5bb8fd9899", func := "loop.example/g01182/laws.FnExactMeetingsOf", spec := "fnExactMeetingsOf", inPlace := ["internal/bytealg.IndexByte"], plainKeys := false, apart := false }
def FnExactMeetingsOfSaid : Prop := fnExactMeetingsOfRow.holds Try.pinned (OpenSpec.ofChange fnExactMeetingsOfSpec)

/-- ITS FALSE NEIGHBOUR: 'it returns false'. Refute it at one input. -/
def fnExactMeetingsOfWrong : ChangeSpec := { name := "fnExactMeetingsOf", fn := fun _ => fun
  | [d1, d2, d3] => { results := [.lit (.bool false)], args := [d1, d2, d3] }
  | _ => none }
def FnExactMeetingsOfWrongFalsely : Prop := fnExactMeetingsOfRow.holds Try.pinned (OpenSpec.ofChange fnExactMeetingsOfWrong)

/-- 'laws.FnExactRemainingOfSets': WHATEVER THE INPUT: true; the input reads as it did. -/
def fnExactRemainingOfSetsSpec : ChangeSpec := { name := "fnExactRemainingOfSets", fn := fun _ => fun
  | [d1, d2, d3, d4, d5, d6] => { results := [.lit (.bool true)], args := [d1, d2, d3, d4, d5, d6] }
  | _ => none }
def fnExactRemainingOfSetsRow : OpenClaim := { program := "ytpjogonponkbmaa", sum := "e20d149f235bac7147b1a4d4b4f1151d019e45fdddbc41f651fabc5bb8fd9899", func := "loop.example/g01182/laws.FnExactRemainingOfSets", spec := "fnExactRemainingOfSets", inPlace := ["internal/bytealg.IndexByte"], unfollowed := true, recurses := true, plainKeys := false, apart := false }
def FnExactRemainingOfSetsSaid : Prop := fnExactRemainingOfSetsRow.holds Try.pinned (OpenSpec.ofChange fnExactRemainingOfSetsSpec)

/-- ITS FALSE NEIGHBOUR: 'it returns false'. Refute it at one input. -/
def fnExactRemainingOfSetsWrong : ChangeSpec := { name := "fnExactRemainingOfSets", fn := fun _ => fun
  | [d1, d2, d3, d4, d5, d6] => { results := [.lit (.bool false)], args := [d1, d2, d3, d4, d5, d6] }
  | _ => none }
def FnExactRemainingOfSetsWrongFalsely : Prop := fnExactRemainingOfSetsRow.holds Try.pinned (OpenSpec.ofChange fnExactRemainingOfSetsWrong)

/- THE SECOND FORM. 'bulk': how many values and letters a reading holds, each counted each time it is reached (what is shared counts as often as it is met; a slice's spare places count too). A statement '..UptoSaid' is the law's where the arguments, and the package variables that the reading takes, are together of bulk at most 1048576: NARROWER than '..Said'. Prove '..Said' where nothing that the law and all that it calls make is longer than what came in: it says more and counts as full. Else prove '..UptoSaid'. A law counts once. -/
mutual
def uptoBulk {H : Type} : DataW H → Nat
  | .lit (.string bytes) => bytes.length + 1
  | .lit _ => 1
  | .nil => 1
  | .ptr d => uptoBulk d + 1
  | .slice elems spare => uptoBulkAll elems + uptoBulkAll spare + 1
  | .agg parts => uptoBulkAll parts + 1
  | .iface _ d => uptoBulk d + 1
  | .map entries => uptoBulkEntries entries + 1
  | .held _ => 1
def uptoBulkAll {H : Type} : List (DataW H) → Nat
  | [] => 0
  | d :: r => uptoBulk d + uptoBulkAll r
def uptoBulkEntries {H : Type} : List (Lit × DataW H) → Nat
  | [] => 0
  | x :: r => uptoBulkEntry x + uptoBulkEntries r
def uptoBulkEntry {H : Type} : Lit × DataW H → Nat
  | (.string bytes, d) => bytes.length + uptoBulk d + 1
  | (_, d) => uptoBulk d + 1
 end
def uptoSmall : (H : Type) → List (DataW H) → Bool := fun _ ds => decide (uptoBulkAll ds ≤ 1048576)
def OpenSpec.upto (s : _root_.Go.ChangeSpec) : _root_.Go.OpenSpec := { _root_.Go.OpenSpec.ofChange s with cond := some uptoSmall }

/-- 'laws.FnExactSharesOf', WHERE WHAT IT READS IS OF BULK AT MOST 1048576: true; the input reads as it did. -/
def fnExactSharesOfUptoRow : OpenClaim := { program := "ytpjogonponkbmaa", sum := "e20d149f235bac7147b1a4d4b4f1151d019e45fdddbc41f651fabc5bb8fd9899", func := "loop.example/g01182/laws.FnExactSharesOf", spec := "fnExactSharesOf", inPlace := ["internal/bytealg.IndexByte"], unfollowed := true, recurses := true, plainKeys := false, apart := false, narrowed := true }
def FnExactSharesOfUptoSaid : Prop := fnExactSharesOfUptoRow.holds Try.pinned (OpenSpec.upto fnExactSharesOfSpec)

/-- 'laws.FnExactRefreshShares', WHERE WHAT IT READS IS OF BULK AT MOST 1048576: true; the input reads as it did. -/
def fnExactRefreshSharesUptoRow : OpenClaim := { program := "ytpjogonponkbmaa", sum := "e20d149f235bac7147b1a4d4b4f1151d019e45fdddbc41f651fabc5bb8fd9899", func := "loop.example/g01182/laws.FnExactRefreshShares", spec := "fnExactRefreshShares", inPlace := ["internal/bytealg.IndexByte"], unfollowed := true, recurses := true, plainKeys := false, apart := false, narrowed := true }
def FnExactRefreshSharesUptoSaid : Prop := fnExactRefreshSharesUptoRow.holds Try.pinned (OpenSpec.upto fnExactRefreshSharesSpec)

/-- 'laws.FnExactWalkOf', WHERE WHAT IT READS IS OF BULK AT MOST 1048576: true; the input reads as it did. -/
def fnExactWalkOfUptoRow : OpenClaim := { program := "ytpjogonponkbmaa", sum := "e20d149f235bac7147b1a4d4b4f1151d019e45fdddbc41f651fabc5bb8fd9899", func := "loop.example/g01182/laws.FnExactWalkOf", spec := "fnExactWalkOf", inPlace := ["internal/bytealg.IndexByte"], plainKeys := false, apart := false, narrowed := true }
def FnExactWalkOfUptoSaid : Prop := fnExactWalkOfUptoRow.holds Try.pinned (OpenSpec.upto fnExactWalkOfSpec)

/-- 'laws.FnExactMeetingsOf', WHERE WHAT IT READS IS OF BULK AT MOST 1048576: true; the input reads as it did. -/
def fnExactMeetingsOfUptoRow : OpenClaim := { program := "ytpjogonponkbmaa", sum := "e20d149f235bac7147b1a4d4b4f1151d019e45fdddbc41f651fabc5bb8fd9899", func := "loop.example/g01182/laws.FnExactMeetingsOf", spec := "fnExactMeetingsOf", inPlace := ["internal/bytealg.IndexByte"], plainKeys := false, apart := false, narrowed := true }
def FnExactMeetingsOfUptoSaid : Prop := fnExactMeetingsOfUptoRow.holds Try.pinned (OpenSpec.upto fnExactMeetingsOfSpec)

/-- 'laws.FnExactRemainingOfSets', WHERE WHAT IT READS IS OF BULK AT MOST 1048576: true; the input reads as it did. -/
def fnExactRemainingOfSetsUptoRow : OpenClaim := { program := "ytpjogonponkbmaa", sum := "e20d149f235bac7147b1a4d4b4f1151d019e45fdddbc41f651fabc5bb8fd9899", func := "loop.example/g01182/laws.FnExactRemainingOfSets", spec := "fnExactRemainingOfSets", inPlace := ["internal/bytealg.IndexByte"], unfollowed := true, recurses := true, plainKeys := false, apart := false, narrowed := true }
def FnExactRemainingOfSetsUptoSaid : Prop := fnExactRemainingOfSetsUptoRow.holds Try.pinned (OpenSpec.upto fnExactRemainingOfSetsSpec)

end Rows
end Go.Proofs.Ytpjogonponkbmaa
