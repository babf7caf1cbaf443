/-
  No cell of these rows narrows 'for every input' (looked for: loops, veiled, ifaces, maps, wideKeys, modest, calm, conditions, laid).
  DERIVED. THE GIVEN ROWS OF THIS SEAT. 12 by the template 'for every input the law returns true; each argument reads behind the call as it read before'; 0 by the template 'total and deterministic' (their statements: YthlmkdjednppkaaTotals.lean).
  GIVEN WITH THE SEED: the statements are not yours to turn. If you find one false, say at which input.
  Laid BY PROGRAM, IN A SANDBOX (cutbox-rows.mjs): the forced cells as the released guide's own fill.sh prints them over the translation 4e2dc6821a8c2afa… (all of the seat's roots in one cut). By AI agents, Wed Nov 11 2026. No macro, syntax, notation, axiom, sorry.
-/
import Derived.Test.YthlmkdjednppkaaChecked
import GoSem.Claim
import GoSem.ClaimJoined
import GoSem.ClaimMapViews
import Derived.JoinedTies
import Derived.KernelRfl
namespace Go.Proofs.Ythlmkdjednppkaa
/- THE CELL 'sum', in the pinned program and in every row, IS THE sha256 OF THE DUMP (.gsa) THAT YthlmkdjednppkaaProg.lean LOADS. Nothing in Lean hashes anything: it is a label: what it is worth is what the hold of that sum in a sandbox is worth. -/
noncomputable def Try.pinned : Pinned := { name := "ythlmkdjednppkaa", sum := "4e2dc6821a8c2afaa341edf0f7f5337b0b06e56bf48ccbdc49f4c63e586036fb", checked := Try.checked }
namespace Rows
def none {H : Type} : Left H := { results := [], args := [] }

/-- 'laws.FnExactShareAt': WHATEVER THE INPUT: true; the input reads as it did. -/
def fnExactShareAtSpec : ChangeSpec := { name := "fnExactShareAt", fn := fun _ => fun
  | [d1, d2, d3, d4] => { results := [.lit (.bool true)], args := [d1, d2, d3, d4] }
  | _ => none }
def fnExactShareAtRow : OpenClaim := { program := "ythlmkdjednppkaa", sum := "4e2dc6821a8c2afaa341edf0f7f5337b0b06e56bf48ccbdc49f4c63e586036fb", func := "loop.example/g01182/laws.FnExactShareAt", spec := "fnExactShareAt", inPlace := ["internal/bytealg.IndexByte"], unfollowed := true, recurses := true, plainKeys := false, apart := false }
def FnExactShareAtSaid : Prop := fnExactShareAtRow.holds Try.pinned (OpenSpec.ofChange fnExactShareAtSpec)

/-- ITS FALSE NEIGHBOUR: 'it returns false'. Refute it at one input. -/
def fnExactShareAtWrong : ChangeSpec := { name := "fnExactShareAt", fn := fun _ => fun
  | [d1, d2, d3, d4] => { results := [.lit (.bool false)], args := [d1, d2, d3, d4] }
  | _ => none }
def FnExactShareAtWrongFalsely : Prop := fnExactShareAtRow.holds Try.pinned (OpenSpec.ofChange fnExactShareAtWrong)

/-- 'laws.FnExactRefreshShares': WHATEVER THE INPUT: true; the input reads as it did. -/
def fnExactRefreshSharesSpec : ChangeSpec := { name := "fnExactRefreshShares", fn := fun _ => fun
  | [d1, d2, d3] => { results := [.lit (.bool true)], args := [d1, d2, d3] }
  | _ => none }
def fnExactRefreshSharesRow : OpenClaim := { program := "ythlmkdjednppkaa", sum := "4e2dc6821a8c2afaa341edf0f7f5337b0b06e56bf48ccbdc49f4c63e586036fb", func := "loop.example/g01182/laws.FnExactRefreshShares", spec := "fnExactRefreshShares", inPlace := ["internal/bytealg.IndexByte"], unfollowed := true, recurses := true, plainKeys := false, apart := false }
def FnExactRefreshSharesSaid : Prop := fnExactRefreshSharesRow.holds Try.pinned (OpenSpec.ofChange fnExactRefreshSharesSpec)

/-- ITS FALSE NEIGHBOUR: 'it returns false'. Refute it at one input. -/
def fnExactRefreshSharesWrong : ChangeSpec := { name := "fnExactRefreshShares", fn := fun _ => fun
  | [d1, d2, d3] => { results := [.lit (.bool false)], args := [d1, d2, d3] }
  | _ => none }
def FnExactRefreshSharesWrongFalsely : Prop := fnExactRefreshSharesRow.holds Try.pinned (OpenSpec.ofChange fnExactRefreshSharesWrong)

/-- 'laws.FnExactRemainingBytes': WHATEVER THE INPUT: true; the input reads as it did. -/
def fnExactRemainingBytesSpec : ChangeSpec := { name := "fnExactRemainingBytes", fn := fun _ => fun
  | [d1, d2, d3] => { results := [.lit (.bool true)], args := [d1, d2, d3] }
  | _ => none }
def fnExactRemainingBytesRow : OpenClaim := { program := "ythlmkdjednppkaa", sum := "4e2dc6821a8c2afaa341edf0f7f5337b0b06e56bf48ccbdc49f4c63e586036fb", func := "loop.example/g01182/laws.FnExactRemainingBytes", spec := "fnExactRemainingBytes", inPlace := ["internal/bytealg.IndexByte"], plainKeys := false, apart := false }
def FnExactRemainingBytesSaid : Prop := fnExactRemainingBytesRow.holds Try.pinned (OpenSpec.ofChange fnExactRemainingBytesSpec)

/-- ITS FALSE NEIGHBOUR: 'it returns false'. Refute it at one input. -/
def fnExactRemainingBytesWrong : ChangeSpec := { name := "fnExactRemainingBytes", fn := fun _ => fun
  | [d1, d2, d3] => { results := [.lit (.bool false)], args := [d1, d2, d3] }
  | _ => none }
def FnExactRemainingBytesWrongFalsely : Prop := fnExactRemainingBytesRow.holds Try.pinned (OpenSpec.ofChange fnExactRemainingBytesWrong)

/-- 'laws.FnExactEncipherTwice': WHATEVER THE INPUT: true; the input reads as it did. -/
def fnExactEncipherTwiceSpec : ChangeSpec := { name := "fnExactEncipherTwice", fn := fun _ => fun
  | [d1, d2, d3, d4] => { results := [.lit (.bool true)], args := [d1, d2, d3, d4] }
  | _ => none }
def fnExactEncipherTwiceRow : OpenClaim := { program := "ythlmkdjednppkaa", sum := "4e2dc6821a8c2afaa341edf0f7f5337b0b06e56bf48ccbdc49f4c63e586036fb", func := "loop.example/g01182/laws.FnExactEncipherTwice", spec := "fnExactEncipherTwice", inPlace := ["internal/bytealg.IndexByte"], plainKeys := false, apart := false }
def FnExactEncipherTwiceSaid : Prop := fnExactEncipherTwiceRow.holds Try.pinned (OpenSpec.ofChange fnExactEncipherTwiceSpec)

/-- ITS FALSE NEIGHBOUR: 'it returns false'. Refute it at one input. -/
def fnExactEncipherTwiceWrong : ChangeSpec := { name := "fnExactEncipherTwice", fn := fun _ => fun
  | [d1, d2, d3, d4] => { results := [.lit (.bool false)], args := [d1, d2, d3, d4] }
  | _ => none }
def FnExactEncipherTwiceWrongFalsely : Prop := fnExactEncipherTwiceRow.holds Try.pinned (OpenSpec.ofChange fnExactEncipherTwiceWrong)

/-- 'laws.FnExactShortMap': WHATEVER THE INPUT: true; the input reads as it did. -/
def fnExactShortMapSpec : ChangeSpec := { name := "fnExactShortMap", fn := fun _ => fun
  | [d1, d2, d3] => { results := [.lit (.bool true)], args := [d1, d2, d3] }
  | _ => none }
def fnExactShortMapRow : OpenClaim := { program := "ythlmkdjednppkaa", sum := "4e2dc6821a8c2afaa341edf0f7f5337b0b06e56bf48ccbdc49f4c63e586036fb", func := "loop.example/g01182/laws.FnExactShortMap", spec := "fnExactShortMap", inPlace := ["internal/bytealg.IndexByte"], plainKeys := false, apart := false }
def FnExactShortMapSaid : Prop := fnExactShortMapRow.holds Try.pinned (OpenSpec.ofChange fnExactShortMapSpec)

/-- ITS FALSE NEIGHBOUR: 'it returns false'. Refute it at one input. -/
def fnExactShortMapWrong : ChangeSpec := { name := "fnExactShortMap", fn := fun _ => fun
  | [d1, d2, d3] => { results := [.lit (.bool false)], args := [d1, d2, d3] }
  | _ => none }
def FnExactShortMapWrongFalsely : Prop := fnExactShortMapRow.holds Try.pinned (OpenSpec.ofChange fnExactShortMapWrong)

/-- 'laws.FnExactWalkOf': WHATEVER THE INPUT: true; the input reads as it did. -/
def fnExactWalkOfSpec : ChangeSpec := { name := "fnExactWalkOf", fn := fun _ => fun
  | [d1, d2, d3] => { results := [.lit (.bool true)], args := [d1, d2, d3] }
  | _ => none }
def fnExactWalkOfRow : OpenClaim := { program := "ythlmkdjednppkaa", sum := "4e2dc6821a8c2afaa341edf0f7f5337b0b06e56bf48ccbdc49f4c63e586036fb", func := "loop.example/g01182/laws.FnExactWalkOf", spec := "fnExactWalkOf", inPlace := ["internal/bytealg.IndexByte"], plainKeys := false, apart := false }
def FnExactWalkOfSaid : Prop := fnExactWalkOfRow.holds Try.pinned (OpenSpec.ofChange fnExactWalkOfSpec)

/-- ITS FALSE NEIGHBOUR: 'it returns false'. Refute it at one input. -/
def fnExactWalkOfWrong : ChangeSpec := { name := "fnExactWalkOf", fn := fun _ => fun
  | [d1, d2, d3] => { results := [.lit (.bool false)], args := [d1, d2, d3] }
  | _ => none }
def FnExactWalkOfWrongFalsely : Prop := fnExactWalkOfRow.holds Try.pinned (OpenSpec.ofChange fnExactWalkOfWrong)

/-- 'laws.FnExactSumOfSet': WHATEVER THE INPUT: true; the input reads as it did. -/
def fnExactSumOfSetSpec : ChangeSpec := { name := "fnExactSumOfSet", fn := fun _ => fun
  | [d1, d2, d3, d4, d5] => { results := [.lit (.bool true)], args := [d1, d2, d3, d4, d5] }
  | _ => none }
def fnExactSumOfSetRow : OpenClaim := { program := "ythlmkdjednppkaa", sum := "4e2dc6821a8c2afaa341edf0f7f5337b0b06e56bf48ccbdc49f4c63e586036fb", func := "loop.example/g01182/laws.FnExactSumOfSet", spec := "fnExactSumOfSet", inPlace := ["internal/bytealg.IndexByte"], plainKeys := false, apart := false }
def FnExactSumOfSetSaid : Prop := fnExactSumOfSetRow.holds Try.pinned (OpenSpec.ofChange fnExactSumOfSetSpec)

/-- ITS FALSE NEIGHBOUR: 'it returns false'. Refute it at one input. -/
def fnExactSumOfSetWrong : ChangeSpec := { name := "fnExactSumOfSet", fn := fun _ => fun
  | [d1, d2, d3, d4, d5] => { results := [.lit (.bool false)], args := [d1, d2, d3, d4, d5] }
  | _ => none }
def FnExactSumOfSetWrongFalsely : Prop := fnExactSumOfSetRow.holds Try.pinned (OpenSpec.ofChange fnExactSumOfSetWrong)

/-- 'laws.FnExactSetOf': WHATEVER THE INPUT: true; the input reads as it did. -/
def fnExactSetOfSpec : ChangeSpec := { name := "fnExactSetOf", fn := fun _ => fun
  | [d1, d2, d3, d4, d5] => { results := [.lit (.bool true)], args := [d1, d2, d3, d4, d5] }
  | _ => none }
def fnExactSetOfRow : OpenClaim := { program := "ythlmkdjednppkaa", sum := "4e2dc6821a8c2afaa341edf0f7f5337b0b06e56bf48ccbdc49f4c63e586036fb", func := "loop.example/g01182/laws.FnExactSetOf", spec := "fnExactSetOf", inPlace := ["internal/bytealg.IndexByte"], plainKeys := false, apart := false }
def FnExactSetOfSaid : Prop := fnExactSetOfRow.holds Try.pinned (OpenSpec.ofChange fnExactSetOfSpec)

/-- ITS FALSE NEIGHBOUR: 'it returns false'. Refute it at one input. -/
def fnExactSetOfWrong : ChangeSpec := { name := "fnExactSetOf", fn := fun _ => fun
  | [d1, d2, d3, d4, d5] => { results := [.lit (.bool false)], args := [d1, d2, d3, d4, d5] }
  | _ => none }
def FnExactSetOfWrongFalsely : Prop := fnExactSetOfRow.holds Try.pinned (OpenSpec.ofChange fnExactSetOfWrong)

/-- 'laws.FnExactDistinguishedBytes': WHATEVER THE INPUT: true; the input reads as it did. -/
def fnExactDistinguishedBytesSpec : ChangeSpec := { name := "fnExactDistinguishedBytes", fn := fun _ => fun
  | [d1, d2, d3, d4, d5] => { results := [.lit (.bool true)], args := [d1, d2, d3, d4, d5] }
  | _ => none }
def fnExactDistinguishedBytesRow : OpenClaim := { program := "ythlmkdjednppkaa", sum := "4e2dc6821a8c2afaa341edf0f7f5337b0b06e56bf48ccbdc49f4c63e586036fb", func := "loop.example/g01182/laws.FnExactDistinguishedBytes", spec := "fnExactDistinguishedBytes", inPlace := ["internal/bytealg.IndexByte"], plainKeys := false, apart := false }
def FnExactDistinguishedBytesSaid : Prop := fnExactDistinguishedBytesRow.holds Try.pinned (OpenSpec.ofChange fnExactDistinguishedBytesSpec)

/-- ITS FALSE NEIGHBOUR: 'it returns false'. Refute it at one input. -/
def fnExactDistinguishedBytesWrong : ChangeSpec := { name := "fnExactDistinguishedBytes", fn := fun _ => fun
  | [d1, d2, d3, d4, d5] => { results := [.lit (.bool false)], args := [d1, d2, d3, d4, d5] }
  | _ => none }
def FnExactDistinguishedBytesWrongFalsely : Prop := fnExactDistinguishedBytesRow.holds Try.pinned (OpenSpec.ofChange fnExactDistinguishedBytesWrong)

/-- 'laws.FnExactMeetingsOf': WHATEVER THE INPUT: true; the input reads as it did. -/
def fnExactMeetingsOfSpec : ChangeSpec := { name := "fnExactMeetingsOf", fn := fun _ => fun
  | [d1, d2, d3] => { results := [.lit (.bool true)], args := [d1, d2, d3] }
  | _ => none }
def fnExactMeetingsOfRow : OpenClaim := { program := "ythlmkdjednppkaa", sum := "4e2dc6821a8c2afaa341edf0f7f5337b0b06e56bf48ccbdc49f4c63e586036fb", func := "loop.example/g01182/laws.FnExactMeetingsOf", spec := "fnExactMeetingsOf", inPlace := ["internal/bytealg.IndexByte"], plainKeys := false, apart := false }
def FnExactMeetingsOfSaid : Prop := fnExactMeetingsOfRow.holds Try.pinned (OpenSpec.ofChange fnExactMeetingsOfSpec)

/-- ITS FALSE NEIGHBOUR: 'it returns false'. Refute it at one input. -/
def fnExactMeetingsOfWrong : ChangeSpec := { name := "fnExactMeetingsOf", fn := fun _ => fun
  | [d1, d2, d3] => { results := [.lit (.bool false)], args := [d1, d2, d3] }
  | _ => none }
def FnExactMeetingsOfWrongFalsely : Prop := fnExactMeetingsOfRow.holds Try.pinned (OpenSpec.ofChange fnExactMeetingsOfWrong)

/-- 'laws.FnExactFaultyShares': WHATEVER THE INPUT: true; the input reads as it did. -/
def fnExactFaultySharesSpec : ChangeSpec := { name := "fnExactFaultyShares", fn := fun _ => fun
  | [d1, d2, d3] => { results := [.lit (.bool true)], args := [d1, d2, d3] }
  | _ => none }
def fnExactFaultySharesRow : OpenClaim := { program := "ythlmkdjednppkaa", sum := "4e2dc6821a8c2afaa341edf0f7f5337b0b06e56bf48ccbdc49f4c63e586036fb", func := "loop.example/g01182/laws.FnExactFaultyShares", spec := "fnExactFaultyShares", inPlace := ["internal/bytealg.IndexByte"], unfollowed := true, recurses := true, plainKeys := false, apart := false }
def FnExactFaultySharesSaid : Prop := fnExactFaultySharesRow.holds Try.pinned (OpenSpec.ofChange fnExactFaultySharesSpec)

/-- ITS FALSE NEIGHBOUR: 'it returns false'. Refute it at one input. -/
def fnExactFaultySharesWrong : ChangeSpec := { name := "fnExactFaultyShares", fn := fun _ => fun
  | [d1, d2, d3] => { results := [.lit (.bool false)], args := [d1, d2, d3] }
  | _ => none }
def FnExactFaultySharesWrongFalsely : Prop := fnExactFaultySharesRow.holds Try.pinned (OpenSpec.ofChange fnExactFaultySharesWrong)

/-- 'laws.FnExactRemainingOfSets': WHATEVER THE INPUT: true; the input reads as it did. -/
def fnExactRemainingOfSetsSpec : ChangeSpec := { name := "fnExactRemainingOfSets", fn := fun _ => fun
  | [d1, d2, d3, d4, d5, d6] => { results := [.lit (.bool true)], args := [d1, d2, d3, d4, d5, d6] }
  | _ => none }
def fnExactRemainingOfSetsRow : OpenClaim := { program := "ythlmkdjednppkaa", sum := "4e2dc6821a8c2afaa341edf0f7f5337b0b06e56bf48ccbdc49f4c63e586036fb", func := "loop.example/g01182/laws.FnExactRemainingOfSets", spec := "fnExactRemainingOfSets", inPlace := ["internal/bytealg.IndexByte"], unfollowed := true, recurses := true, plainKeys := false, apart := false }
def FnExactRemainingOfSetsSaid : Prop := fnExactRemainingOfSetsRow.holds Try.pinned (OpenSpec.ofChange fnExactRemainingOfSetsSpec)

/-- ITS FALSE NEIGHBOUR: 'it returns false'. Refute it at one input. -/
def fnExactRemainingOfSetsWrong : ChangeSpec := { name := "fnExactRemainingOfSets", fn := fun _ => fun
  | [d1, d2, d3, d4, d5, d6] => { results := [.lit (.bool false)], args := [d1, d2, d3, d4, d5, d6] }
  | _ => none }
def FnExactRemainingOfSetsWrongFalsely : Prop := fnExactRemainingOfSetsRow.holds Try.pinned (OpenSpec.ofChange fnExactRemainingOfSetsWrong)

/- THE SECOND FORM. 'bulk': how many values and letters a reading holds, each counted each time it is reached (what is shared counts as often as it is met; a slice's spare places count too). A statement '..UptoSaid' is the law's where the arguments, and the package variables that the reading takes, are together of bulk at most 1048576: NARROWER than '..Said'. Prove '..Said' where nothing that the law and all that it calls make is longer than what came in: it says more and counts as full. Else prove '..UptoSaid'. A law counts once. -/
mutual
def uptoBulk {H : Type} : DataW H → Nat
  | .lit (.string bytes) => bytes.length + 1
  | .lit _ => 1
  | .nil => 1
  | .ptr d => uptoBulk d + 1
  | .slice elems spare => uptoBulkAll elems + uptoBulkAll spare + 1
  | .agg parts => uptoBulkAll parts + 1
  | .iface _ d => uptoBulk d + 1
  | .map entries => uptoBulkEntries entries + 1
  | .held _ => 1
def uptoBulkAll {H : Type} : List (DataW H) → Nat
  | [] => 0
  | d :: r => uptoBulk d + uptoBulkAll r
def uptoBulkEntries {H : Type} : List (Lit × DataW H) → Nat
  | [] => 0
  | x :: r => uptoBulkEntry x + uptoBulkEntries r
def uptoBulkEntry {H : Type} : Lit × DataW H → Nat
  | (.string bytes, d) => bytes.length + uptoBulk d + 1
  | (_, d) => uptoBulk d + 1
 end
def uptoSmall : (H : Type) → List (DataW H) → Bool := fun _ ds => decide (uptoBulkAll ds ≤ 1048576)
def OpenSpec.upto (s : _root_.Go.ChangeSpec) : _root_.Go.OpenSpec := { _root_.Go.OpenSpec.ofChange s with cond := some uptoSmall }

/-- 'laws.FnExactShareAt', WHERE WHAT IT READS IS OF BULK AT MOST 1048576: true; the input reads as it did. -/
def fnExactShareAtUptoRow : OpenClaim := { program := "ythlmkdjednppkaa", sum := "4e2dc6821a8c2afaa341edf0f7f5337b0b06e56bf48ccbdc49f4c63e586036fb", func := "loop.example/g01182/laws.FnExactShareAt", spec := "fnExactShareAt", inPlace := ["internal/bytealg.IndexByte"], unfollowed := true, recurses := true, plainKeys := false, apart := false, narrowed := true }
def FnExactShareAtUptoSaid : Prop := fnExactShareAtUptoRow.holds Try.pinned (OpenSpec.upto fnExactShareAtSpec)

/-- 'laws.FnExactRefreshShares', WHERE WHAT IT READS IS OF BULK AT MOST 1048576: true; the input reads as it did. -/
def fnExactRefreshSharesUptoRow : OpenClaim := { program := "ythlmkdjednppkaa", sum := "4e2dc6821a8c2afaa341edf0f7f5337b0b06e56bf48ccbdc49f4c63e586036fb", func := "loop.example/g01182/laws.FnExactRefreshShares", spec := "fnExactRefreshShares", inPlace := ["internal/bytealg.IndexByte"], unfollowed := true, recurses := true, plainKeys := false, apart := false, narrowed := true }
def FnExactRefreshSharesUptoSaid : Prop := fnExactRefreshSharesUptoRow.holds Try.pinned (OpenSpec.upto fnExactRefreshSharesSpec)

/-- 'laws.FnExactRemainingBytes', WHERE WHAT IT READS IS OF BULK AT MOST 1048576: true; the input reads as it did. -/
def fnExactRemainingBytesUptoRow : OpenClaim := { program := "ythlmkdjednppkaa", sum := "4e2dc6821a8c2afaa341edf0f7f5337b0b06e56bf48ccbdc49f4c63e586036fb", func := "loop.example/g01182/laws.FnExactRemainingBytes", spec := "fnExactRemainingBytes", inPlace := ["internal/bytealg.IndexByte"], plainKeys := false, apart := false, narrowed := true }
def FnExactRemainingBytesUptoSaid : Prop := fnExactRemainingBytesUptoRow.holds Try.pinned (OpenSpec.upto fnExactRemainingBytesSpec)

/-- 'laws.FnExactEncipherTwice', WHERE WHAT IT READS IS OF BULK AT MOST 1048576: true; the input reads as it did. -/
def fnExactEncipherTwiceUptoRow : OpenClaim := { program := "ythlmkdjednppkaa", sum := "4e2dc6821a8c2afaa341edf0f7f5337b0b06e56bf48ccbdc49f4c63e586036fb", func := "loop.example/g01182/laws.FnExactEncipherTwice", spec := "fnExactEncipherTwice", inPlace := ["internal/bytealg.IndexByte"], plainKeys := false, apart := false, narrowed := true }
def FnExactEncipherTwiceUptoSaid : Prop := fnExactEncipherTwiceUptoRow.holds Try.pinned (OpenSpec.upto fnExactEncipherTwiceSpec)

/-- 'laws.FnExactShortMap', WHERE WHAT IT READS IS OF BULK AT MOST 1048576: true; the input reads as it did. -/
def fnExactShortMapUptoRow : OpenClaim := { program := "ythlmkdjednppkaa", sum := "4e2dc6821a8c2afaa341edf0f7f5337b0b06e56bf48ccbdc49f4c63e586036fb", func := "loop.example/g01182/laws.FnExactShortMap", spec := "fnExactShortMap", inPlace := ["internal/bytealg.IndexByte"], plainKeys := false, apart := false, narrowed := true }
def FnExactShortMapUptoSaid : Prop := fnExactShortMapUptoRow.holds Try.pinned (OpenSpec.upto fnExactShortMapSpec)

/-- 'laws.FnExactWalkOf', WHERE WHAT IT READS IS OF BULK AT MOST 1048576: true; the input reads as it did. -/
def fnExactWalkOfUptoRow : OpenClaim := { program := "ythlmkdjednppkaa", sum := "4e2dc6821a8c2afaa341edf0f7f5337b0b06e56bf48ccbdc49f4c63e586036fb", func := "loop.example/g01182/laws.FnExactWalkOf", spec := "fnExactWalkOf", inPlace := ["internal/bytealg.IndexByte"], plainKeys := false, apart := false, narrowed := true }
def FnExactWalkOfUptoSaid : Prop := fnExactWalkOfUptoRow.holds Try.pinned (OpenSpec.upto fnExactWalkOfSpec)

/-- 'laws.FnExactSumOfSet', WHERE WHAT IT READS IS OF BULK AT MOST 1048576: true; the input reads as it did. -/
def fnExactSumOfSetUptoRow : OpenClaim := { program := "ythlmkdjednppkaa", sum := "4e2dc6821a8c2afaa341edf0f7f5337b0b06e56bf48ccbdc49f4c63e586036fb", func := "loop.example/g01182/laws.FnExactSumOfSet", spec := "fnExactSumOfSet", inPlace := ["internal/bytealg.IndexByte"], plainKeys := false, apart := false, narrowed := true }
def FnExactSumOfSetUptoSaid : Prop := fnExactSumOfSetUptoRow.holds Try.pinned (OpenSpec.upto fnExactSumOfSetSpec)

/-- 'laws.FnExactSetOf', WHERE WHAT IT READS IS OF BULK AT MOST 1048576: true; the input reads as it did. -/
def fnExactSetOfUptoRow : OpenClaim := { program := "ythlmkdjednppkaa", sum := "4e2dc6821a8c2afaa341edf0f7f5337b0b06e56bf48ccbdc49f4c63e586036fb", func := "loop.example/g01182/laws.FnExactSetOf", spec := "fnExactSetOf", inPlace := ["internal/bytealg.IndexByte"], plainKeys := false, apart := false, narrowed := true }
def FnExactSetOfUptoSaid : Prop := fnExactSetOfUptoRow.holds Try.pinned (OpenSpec.upto fnExactSetOfSpec)

/-- 'laws.FnExactDistinguishedBytes', WHERE WHAT IT READS IS OF BULK AT MOST 1048576: true; the input reads as it did. -/
def fnExactDistinguishedBytesUptoRow : OpenClaim := { program := "ythlmkdjednppkaa", sum := "4e2dc6821a8c2afaa341edf0f7f5337b0b06e56bf48ccbdc49f4c63e586036fb", func := "loop.example/g01182/laws.FnExactDistinguishedBytes", spec := "fnExactDistinguishedBytes", inPlace := ["internal/bytealg.IndexByte"], plainKeys := false, apart := false, narrowed := true }
def FnExactDistinguishedBytesUptoSaid : Prop := fnExactDistinguishedBytesUptoRow.holds Try.pinned (OpenSpec.upto fnExactDistinguishedBytesSpec)

/-- 'laws.FnExactMeetingsOf', WHERE WHAT IT READS IS OF BULK AT MOST 1048576: true; the input reads as it did. -/
def fnExactMeetingsOfUptoRow : OpenClaim := { program := "ythlmkdjednppkaa", sum := "4e2dc6821a8c2afaa341edf0f7f5337b0b06e56bf48ccbdc49f4c63e586036fb", func := "loop.example/g01182/laws.FnExactMeetingsOf", spec := "fnExactMeetingsOf", inPlace := ["internal/bytealg.IndexByte"], plainKeys := false, apart := false, narrowed := true }
def FnExactMeetingsOfUptoSaid : Prop := fnExactMeetingsOfUptoRow.holds Try.pinned (OpenSpec.upto fnExactMeetingsOfSpec)

/-- 'laws.FnExactFaultyShares', WHERE WHAT IT READS IS OF BULK AT MOST 1048576: true; the input reads as it did. -/
def fnExactFaultySharesUptoRow : OpenClaim := { program := "ythlmkdjednppkaa", sum := "4e2dc6821a8c2afaa341edf0f7f5337b0b06e56bf48ccbdc49f4c63e586036fb", func := "loop.example/g01182/laws.FnExactFaultyShares", spec := "fnExactFaultyShares", inPlace := ["internal/bytealg.IndexByte"], unfollowed := true, recurses := true, plainKeys := false, apart := false, narrowed := true }
def FnExactFaultySharesUptoSaid : Prop := fnExactFaultySharesUptoRow.holds Try.pinned (OpenSpec.upto fnExactFaultySharesSpec)

/-- 'laws.FnExactRemainingOfSets', WHERE WHAT IT READS IS OF BULK AT MOST 1048576: true; the input reads as it did. -/
def fnExactRemainingOfSetsUptoRow : OpenClaim := { program := "ythlmkdjednppkaa", sum := "4e2dc6821a8c2afaa341edf0f7f5337b0b06e56bf48ccbdc49f4c63e586036fb", func := "loop.example/g01182/laws.FnExactRemainingOfSets", spec := "fnExactRemainingOfSets", inPlace := ["internal/bytealg.IndexByte"], unfollowed := true, recurses := true, plainKeys := false, apart := false, narrowed := true }
def FnExactRemainingOfSetsUptoSaid : Prop := fnExactRemainingOfSetsUptoRow.holds Try.pinned (OpenSpec.upto fnExactRemainingOfSetsSpec)

end Rows
end Go.Proofs.Ythlmkdjednppkaa
