/-
  No cell of these rows narrows 'for every input' (looked for: loops, veiled, ifaces, maps, wideKeys, modest, calm, conditions, laid).
  DERIVED. THE GIVEN ROWS OF THIS SEAT. 10 by the template 'for every input the law returns true; each argument reads behind the call as it read before'; 0 by the template 'total and deterministic' (their statements: YtbonmndobipbnaaTotals.lean).
  GIVEN WITH THE SEED: the statements are not yours to turn. If you find one false, say at which input.
  Laid BY PROGRAM, IN A SANDBOX (cutbox-rows.mjs): the forced cells as the released guide's own fill.sh prints them over the translation 4c3651efa72a1502… (all of the seat's roots in one cut). By AI agents, Wed Nov 11 2026. No macro, syntax, notation, axiom, sorry.
-/
import Derived.Test.YtbonmndobipbnaaChecked
import GoSem.Claim
import GoSem.ClaimJoined
import GoSem.ClaimMapViews
import Derived.JoinedTies
import Derived.KernelRfl
namespace Go.Proofs.Ytbonmndobipbnaa
/- THE CELL 'sum', in the pinned program and in every row, IS THE sha256 OF THE DUMP (.gsa) THAT YtbonmndobipbnaaProg.lean LOADS. Nothing in Lean hashes anything: it is a label: what it is worth is what the hold of that sum in a sandbox is worth. -/
noncomputable def Try.pinned : Pinned := { name := "ytbonmndobipbnaa", sum := "4c3651efa72a150287e67794276e2122b81e16a97e295591560e79d10584fdcf", checked := Try.checked }
namespace Rows
def none {H : Type} : Left H := { results := [], args := [] }

/-- 'laws.FnExactAreShares': WHATEVER THE INPUT: true; the input reads as it did. -/
def fnExactAreSharesSpec : ChangeSpec := { name := "fnExactAreShares", fn := fun _ => fun
  | [d] => { results := [.lit (.bool true)], args := [d] }
  | _ => none }
def fnExactAreSharesRow : OpenClaim := { program := "ytbonmndobipbnaa", sum := "4c3651efa72a150287e67794276e2122b81e16a97e295591560e79d10584fdcf", func := "loop.example/g01182/laws.FnExactAreShares", spec := "fnExactAreShares", inPlace := ["internal/bytealg.IndexByte"], unfollowed := true, recurses := true, apart := false }
def FnExactAreSharesSaid : Prop := fnExactAreSharesRow.holds Try.pinned (OpenSpec.ofChange fnExactAreSharesSpec)

/-- ITS FALSE NEIGHBOUR: 'it returns false'. Refute it at one input. -/
def fnExactAreSharesWrong : ChangeSpec := { name := "fnExactAreShares", fn := fun _ => fun
  | [d] => { results := [.lit (.bool false)], args := [d] }
  | _ => none }
def FnExactAreSharesWrongFalsely : Prop := fnExactAreSharesRow.holds Try.pinned (OpenSpec.ofChange fnExactAreSharesWrong)

/-- 'laws.FnExactWeightsOf': WHATEVER THE INPUT: true; the input reads as it did. -/
def fnExactWeightsOfSpec : ChangeSpec := { name := "fnExactWeightsOf", fn := fun _ => fun
  | [d1, d2] => { results := [.lit (.bool true)], args := [d1, d2] }
  | _ => none }
def fnExactWeightsOfRow : OpenClaim := { program := "ytbonmndobipbnaa", sum := "4c3651efa72a150287e67794276e2122b81e16a97e295591560e79d10584fdcf", func := "loop.example/g01182/laws.FnExactWeightsOf", spec := "fnExactWeightsOf", inPlace := ["internal/bytealg.IndexByte"], apart := false }
def FnExactWeightsOfSaid : Prop := fnExactWeightsOfRow.holds Try.pinned (OpenSpec.ofChange fnExactWeightsOfSpec)

/-- ITS FALSE NEIGHBOUR: 'it returns false'. Refute it at one input. -/
def fnExactWeightsOfWrong : ChangeSpec := { name := "fnExactWeightsOf", fn := fun _ => fun
  | [d1, d2] => { results := [.lit (.bool false)], args := [d1, d2] }
  | _ => none }
def FnExactWeightsOfWrongFalsely : Prop := fnExactWeightsOfRow.holds Try.pinned (OpenSpec.ofChange fnExactWeightsOfWrong)

/-- 'laws.FnExactIsVault': WHATEVER THE INPUT: true; the input reads as it did. -/
def fnExactIsVaultSpec : ChangeSpec := { name := "fnExactIsVault", fn := fun _ => fun
  | [d] => { results := [.lit (.bool true)], args := [d] }
  | _ => none }
def fnExactIsVaultRow : OpenClaim := { program := "ytbonmndobipbnaa", sum := "4c3651efa72a150287e67794276e2122b81e16a97e295591560e79d10584fdcf", func := "loop.example/g01182/laws.FnExactIsVault", spec := "fnExactIsVault", unfollowed := true, recurses := true, apart := false }
def FnExactIsVaultSaid : Prop := fnExactIsVaultRow.holds Try.pinned (OpenSpec.ofChange fnExactIsVaultSpec)

/-- ITS FALSE NEIGHBOUR: 'it returns false'. Refute it at one input. -/
def fnExactIsVaultWrong : ChangeSpec := { name := "fnExactIsVault", fn := fun _ => fun
  | [d] => { results := [.lit (.bool false)], args := [d] }
  | _ => none }
def FnExactIsVaultWrongFalsely : Prop := fnExactIsVaultRow.holds Try.pinned (OpenSpec.ofChange fnExactIsVaultWrong)

/-- 'laws.FnExactSharesOf': WHATEVER THE INPUT: true; the input reads as it did. -/
def fnExactSharesOfSpec : ChangeSpec := { name := "fnExactSharesOf", fn := fun _ => fun
  | [d1, d2, d3, d4] => { results := [.lit (.bool true)], args := [d1, d2, d3, d4] }
  | _ => none }
def fnExactSharesOfRow : OpenClaim := { program := "ytbonmndobipbnaa", sum := "4c3651efa72a150287e67794276e2122b81e16a97e295591560e79d10584fdcf", func := "loop.example/g01182/laws.FnExactSharesOf", spec := "fnExactSharesOf", inPlace := ["internal/bytealg.IndexByte"], unfollowed := true, recurses := true, apart := false }
def FnExactSharesOfSaid : Prop := fnExactSharesOfRow.holds Try.pinned (OpenSpec.ofChange fnExactSharesOfSpec)

/-- ITS FALSE NEIGHBOUR: 'it returns false'. Refute it at one input. -/
def fnExactSharesOfWrong : ChangeSpec := { name := "fnExactSharesOf", fn := fun _ => fun
  | [d1, d2, d3, d4] => { results := [.lit (.bool false)], args := [d1, d2, d3, d4] }
  | _ => none }
def FnExactSharesOfWrongFalsely : Prop := fnExactSharesOfRow.holds Try.pinned (OpenSpec.ofChange fnExactSharesOfWrong)

/-- 'laws.FnExactAddShares': WHATEVER THE INPUT: true; the input reads as it did. -/
def fnExactAddSharesSpec : ChangeSpec := { name := "fnExactAddShares", fn := fun _ => fun
  | [d1, d2, d3] => { results := [.lit (.bool true)], args := [d1, d2, d3] }
  | _ => none }
def fnExactAddSharesRow : OpenClaim := { program := "ytbonmndobipbnaa", sum := "4c3651efa72a150287e67794276e2122b81e16a97e295591560e79d10584fdcf", func := "loop.example/g01182/laws.FnExactAddShares", spec := "fnExactAddShares", inPlace := ["internal/bytealg.IndexByte"], unfollowed := true, recurses := true, apart := false }
def FnExactAddSharesSaid : Prop := fnExactAddSharesRow.holds Try.pinned (OpenSpec.ofChange fnExactAddSharesSpec)

/-- ITS FALSE NEIGHBOUR: 'it returns false'. Refute it at one input. -/
def fnExactAddSharesWrong : ChangeSpec := { name := "fnExactAddShares", fn := fun _ => fun
  | [d1, d2, d3] => { results := [.lit (.bool false)], args := [d1, d2, d3] }
  | _ => none }
def FnExactAddSharesWrongFalsely : Prop := fnExactAddSharesRow.holds Try.pinned (OpenSpec.ofChange fnExactAddSharesWrong)

/-- 'laws.FnExactFitShares': WHATEVER THE INPUT: true; the input reads as it did. -/
def fnExactFitSharesSpec : ChangeSpec := { name := "fnExactFitShares", fn := fun _ => fun
  | [d1, d2, d3] => { results := [.lit (.bool true)], args := [d1, d2, d3] }
  | _ => none }
def fnExactFitSharesRow : OpenClaim := { program := "ytbonmndobipbnaa", sum := "4c3651efa72a150287e67794276e2122b81e16a97e295591560e79d10584fdcf", func := "loop.example/g01182/laws.FnExactFitShares", spec := "fnExactFitShares", inPlace := ["internal/bytealg.IndexByte"], unfollowed := true, recurses := true, apart := false }
def FnExactFitSharesSaid : Prop := fnExactFitSharesRow.holds Try.pinned (OpenSpec.ofChange fnExactFitSharesSpec)

/-- ITS FALSE NEIGHBOUR: 'it returns false'. Refute it at one input. -/
def fnExactFitSharesWrong : ChangeSpec := { name := "fnExactFitShares", fn := fun _ => fun
  | [d1, d2, d3] => { results := [.lit (.bool false)], args := [d1, d2, d3] }
  | _ => none }
def FnExactFitSharesWrongFalsely : Prop := fnExactFitSharesRow.holds Try.pinned (OpenSpec.ofChange fnExactFitSharesWrong)

/-- 'laws.FnExactOldRecords': WHATEVER THE INPUT: true; the input reads as it did. -/
def fnExactOldRecordsSpec : ChangeSpec := { name := "fnExactOldRecords", fn := fun _ => fun
  | [d] => { results := [.lit (.bool true)], args := [d] }
  | _ => none }
def fnExactOldRecordsRow : OpenClaim := { program := "ytbonmndobipbnaa", sum := "4c3651efa72a150287e67794276e2122b81e16a97e295591560e79d10584fdcf", func := "loop.example/g01182/laws.FnExactOldRecords", spec := "fnExactOldRecords", unfollowed := true, recurses := true, apart := false }
def FnExactOldRecordsSaid : Prop := fnExactOldRecordsRow.holds Try.pinned (OpenSpec.ofChange fnExactOldRecordsSpec)

/-- ITS FALSE NEIGHBOUR: 'it returns false'. Refute it at one input. -/
def fnExactOldRecordsWrong : ChangeSpec := { name := "fnExactOldRecords", fn := fun _ => fun
  | [d] => { results := [.lit (.bool false)], args := [d] }
  | _ => none }
def FnExactOldRecordsWrongFalsely : Prop := fnExactOldRecordsRow.holds Try.pinned (OpenSpec.ofChange fnExactOldRecordsWrong)

/-- 'laws.FnExactIsHidden': WHATEVER THE INPUT: true; the input reads as it did. -/
def fnExactIsHiddenSpec : ChangeSpec := { name := "fnExactIsHidden", fn := fun _ => fun
  | [d1, d2, d3, d4, d5] => { results := [.lit (.bool true)], args := [d1, d2, d3, d4, d5] }
  | _ => none }
def fnExactIsHiddenRow : OpenClaim := { program := "ytbonmndobipbnaa", sum := "4c3651efa72a150287e67794276e2122b81e16a97e295591560e79d10584fdcf", func := "loop.example/g01182/laws.FnExactIsHidden", spec := "fnExactIsHidden", inPlace := ["internal/bytealg.IndexByte"], unfollowed := true, recurses := true, apart := false }
def FnExactIsHiddenSaid : Prop := fnExactIsHiddenRow.holds Try.pinned (OpenSpec.ofChange fnExactIsHiddenSpec)

/-- ITS FALSE NEIGHBOUR: 'it returns false'. Refute it at one input. -/
def fnExactIsHiddenWrong : ChangeSpec := { name := "fnExactIsHidden", fn := fun _ => fun
  | [d1, d2, d3, d4, d5] => { results := [.lit (.bool false)], args := [d1, d2, d3, d4, d5] }
  | _ => none }
def FnExactIsHiddenWrongFalsely : Prop := fnExactIsHiddenRow.holds Try.pinned (OpenSpec.ofChange fnExactIsHiddenWrong)

/-- 'laws.FnExactRecoverData': WHATEVER THE INPUT: true; the input reads as it did. -/
def fnExactRecoverDataSpec : ChangeSpec := { name := "fnExactRecoverData", fn := fun _ => fun
  | [d1, d2, d3] => { results := [.lit (.bool true)], args := [d1, d2, d3] }
  | _ => none }
def fnExactRecoverDataRow : OpenClaim := { program := "ytbonmndobipbnaa", sum := "4c3651efa72a150287e67794276e2122b81e16a97e295591560e79d10584fdcf", func := "loop.example/g01182/laws.FnExactRecoverData", spec := "fnExactRecoverData", inPlace := ["internal/bytealg.IndexByte"], unfollowed := true, recurses := true, apart := false }
def FnExactRecoverDataSaid : Prop := fnExactRecoverDataRow.holds Try.pinned (OpenSpec.ofChange fnExactRecoverDataSpec)

/-- ITS FALSE NEIGHBOUR: 'it returns false'. Refute it at one input. -/
def fnExactRecoverDataWrong : ChangeSpec := { name := "fnExactRecoverData", fn := fun _ => fun
  | [d1, d2, d3] => { results := [.lit (.bool false)], args := [d1, d2, d3] }
  | _ => none }
def FnExactRecoverDataWrongFalsely : Prop := fnExactRecoverDataRow.holds Try.pinned (OpenSpec.ofChange fnExactRecoverDataWrong)

/-- 'laws.FnExactNumbersOfLabel': WHATEVER THE INPUT: true; the input reads as it did. -/
def fnExactNumbersOfLabelSpec : ChangeSpec := { name := "fnExactNumbersOfLabel", fn := fun _ => fun
  | [d1, d2] => { results := [.lit (.bool true)], args := [d1, d2] }
  | _ => none }
def fnExactNumbersOfLabelRow : OpenClaim := { program := "ytbonmndobipbnaa", sum := "4c3651efa72a150287e67794276e2122b81e16a97e295591560e79d10584fdcf", func := "loop.example/g01182/laws.FnExactNumbersOfLabel", spec := "fnExactNumbersOfLabel", unfollowed := true, recurses := true, apart := false }
def FnExactNumbersOfLabelSaid : Prop := fnExactNumbersOfLabelRow.holds Try.pinned (OpenSpec.ofChange fnExactNumbersOfLabelSpec)

/-- ITS FALSE NEIGHBOUR: 'it returns false'. Refute it at one input. -/
def fnExactNumbersOfLabelWrong : ChangeSpec := { name := "fnExactNumbersOfLabel", fn := fun _ => fun
  | [d1, d2] => { results := [.lit (.bool false)], args := [d1, d2] }
  | _ => none }
def FnExactNumbersOfLabelWrongFalsely : Prop := fnExactNumbersOfLabelRow.holds Try.pinned (OpenSpec.ofChange fnExactNumbersOfLabelWrong)

/- THE SECOND FORM. 'bulk': how many values and letters a reading holds, each counted each time it is reached (what is shared counts as often as it is met; a slice's spare places count too). A statement '..UptoSaid' is the law's where the arguments, and the package variables that the reading takes, are together of bulk at most 1048576: NARROWER than '..Said'. Prove '..Said' where nothing that the law and all that it calls make is longer than what came in: it says more and counts as full. Else prove '..UptoSaid'. A law counts once. -/
mutual
def uptoBulk {H : Type} : DataW H → Nat
  | .lit (.string bytes) => bytes.length + 1
  | .lit _ => 1
  | .nil => 1
  | .ptr d => uptoBulk d + 1
  | .slice elems spare => uptoBulkAll elems + uptoBulkAll spare + 1
  | .agg parts => uptoBulkAll parts + 1
  | .iface _ d => uptoBulk d + 1
  | .map entries => uptoBulkEntries entries + 1
  | .held _ => 1
def uptoBulkAll {H : Type} : List (DataW H) → Nat
  | [] => 0
  | d :: r => uptoBulk d + uptoBulkAll r
def uptoBulkEntries {H : Type} : List (Lit × DataW H) → Nat
  | [] => 0
  | x :: r => uptoBulkEntry x + uptoBulkEntries r
def uptoBulkEntry {H : Type} : Lit × DataW H → Nat
  | (.string bytes, d) => bytes.length + uptoBulk d + 1
  | (_, d) => uptoBulk d + 1
 end
def uptoSmall : (H : Type) → List (DataW H) → Bool := fun _ ds => decide (uptoBulkAll ds ≤ 1048576)
def OpenSpec.upto (s : _root_.Go.ChangeSpec) : _root_.Go.OpenSpec := { _root_.Go.OpenSpec.ofChange s with cond := some uptoSmall }

/-- 'laws.FnExactAreShares', WHERE WHAT IT READS IS OF BULK AT MOST 1048576: true; the input reads as it did. -/
def fnExactAreSharesUptoRow : OpenClaim := { program := "ytbonmndobipbnaa", sum := "4c3651efa72a150287e67794276e2122b81e16a97e295591560e79d10584fdcf", func := "loop.example/g01182/laws.FnExactAreShares", spec := "fnExactAreShares", inPlace := ["internal/bytealg.IndexByte"], unfollowed := true, recurses := true, apart := false, narrowed := true }
def FnExactAreSharesUptoSaid : Prop := fnExactAreSharesUptoRow.holds Try.pinned (OpenSpec.upto fnExactAreSharesSpec)

/-- 'laws.FnExactWeightsOf', WHERE WHAT IT READS IS OF BULK AT MOST 1048576: true; the input reads as it did. -/
def fnExactWeightsOfUptoRow : OpenClaim := { program := "ytbonmndobipbnaa", sum := "4c3651efa72a150287e67794276e2122b81e16a97e295591560e79d10584fdcf", func := "loop.example/g01182/laws.FnExactWeightsOf", spec := "fnExactWeightsOf", inPlace := ["internal/bytealg.IndexByte"], apart := false, narrowed := true }
def FnExactWeightsOfUptoSaid : Prop := fnExactWeightsOfUptoRow.holds Try.pinned (OpenSpec.upto fnExactWeightsOfSpec)

/-- 'laws.FnExactIsVault', WHERE WHAT IT READS IS OF BULK AT MOST 1048576: true; the input reads as it did. -/
def fnExactIsVaultUptoRow : OpenClaim := { program := "ytbonmndobipbnaa", sum := "4c3651efa72a150287e67794276e2122b81e16a97e295591560e79d10584fdcf", func := "loop.example/g01182/laws.FnExactIsVault", spec := "fnExactIsVault", unfollowed := true, recurses := true, apart := false, narrowed := true }
def FnExactIsVaultUptoSaid : Prop := fnExactIsVaultUptoRow.holds Try.pinned (OpenSpec.upto fnExactIsVaultSpec)

/-- 'laws.FnExactSharesOf', WHERE WHAT IT READS IS OF BULK AT MOST 1048576: true; the input reads as it did. -/
def fnExactSharesOfUptoRow : OpenClaim := { program := "ytbonmndobipbnaa", sum := "4c3651efa72a150287e67794276e2122b81e16a97e295591560e79d10584fdcf", func := "loop.example/g01182/laws.FnExactSharesOf", spec := "fnExactSharesOf", inPlace := ["internal/bytealg.IndexByte"], unfollowed := true, recurses := true, apart := false, narrowed := true }
def FnExactSharesOfUptoSaid : Prop := fnExactSharesOfUptoRow.holds Try.pinned (OpenSpec.upto fnExactSharesOfSpec)

/-- 'laws.FnExactAddShares', WHERE WHAT IT READS IS OF BULK AT MOST 1048576: true; the input reads as it did. -/
def fnExactAddSharesUptoRow : OpenClaim := { program := "ytbonmndobipbnaa", sum := "4c3651efa72a150287e67794276e2122b81e16a97e295591560e79d10584fdcf", func := "loop.example/g01182/laws.FnExactAddShares", spec := "fnExactAddShares", inPlace := ["internal/bytealg.IndexByte"], unfollowed := true, recurses := true, apart := false, narrowed := true }
def FnExactAddSharesUptoSaid : Prop := fnExactAddSharesUptoRow.holds Try.pinned (OpenSpec.upto fnExactAddSharesSpec)

/-- 'laws.FnExactFitShares', WHERE WHAT IT READS IS OF BULK AT MOST 1048576: true; the input reads as it did. -/
def fnExactFitSharesUptoRow : OpenClaim := { program := "ytbonmndobipbnaa", sum := "4c3651efa72a150287e67794276e2122b81e16a97e295591560e79d10584fdcf", func := "loop.example/g01182/laws.FnExactFitShares", spec := "fnExactFitShares", inPlace := ["internal/bytealg.IndexByte"], unfollowed := true, recurses := true, apart := false, narrowed := true }
def FnExactFitSharesUptoSaid : Prop := fnExactFitSharesUptoRow.holds Try.pinned (OpenSpec.upto fnExactFitSharesSpec)

/-- 'laws.FnExactOldRecords', WHERE WHAT IT READS IS OF BULK AT MOST 1048576: true; the input reads as it did. -/
def fnExactOldRecordsUptoRow : OpenClaim := { program := "ytbonmndobipbnaa", sum := "4c3651efa72a150287e67794276e2122b81e16a97e295591560e79d10584fdcf", func := "loop.example/g01182/laws.FnExactOldRecords", spec := "fnExactOldRecords", unfollowed := true, recurses := true, apart := false, narrowed := true }
def FnExactOldRecordsUptoSaid : Prop := fnExactOldRecordsUptoRow.holds Try.pinned (OpenSpec.upto fnExactOldRecordsSpec)

/-- 'laws.FnExactIsHidden', WHERE WHAT IT READS IS OF BULK AT MOST 1048576: true; the input reads as it did. -/
def fnExactIsHiddenUptoRow : OpenClaim := { program := "ytbonmndobipbnaa", sum := "4c3651efa72a150287e67794276e2122b81e16a97e295591560e79d10584fdcf", func := "loop.example/g01182/laws.FnExactIsHidden", spec := "fnExactIsHidden", inPlace := ["internal/bytealg.IndexByte"], unfollowed := true, recurses := true, apart := false, narrowed := true }
def FnExactIsHiddenUptoSaid : Prop := fnExactIsHiddenUptoRow.holds Try.pinned (OpenSpec.upto fnExactIsHiddenSpec)

/-- 'laws.FnExactRecoverData', WHERE WHAT IT READS IS OF BULK AT MOST 1048576: true; the input reads as it did. -/
def fnExactRecoverDataUptoRow : OpenClaim := { program := "ytbonmndobipbnaa", sum := "4c3651efa72a150287e67794276e2122b81e16a97e295591560e79d10584fdcf", func := "loop.example/g01182/laws.FnExactRecoverData", spec := "fnExactRecoverData", inPlace := ["internal/bytealg.IndexByte"], unfollowed := true, recurses := true, apart := false, narrowed := true }
def FnExactRecoverDataUptoSaid : Prop := fnExactRecoverDataUptoRow.holds Try.pinned (OpenSpec.upto fnExactRecoverDataSpec)

/-- 'laws.FnExactNumbersOfLabel', WHERE WHAT IT READS IS OF BULK AT MOST 1048576: true; the input reads as it did. -/
def fnExactNumbersOfLabelUptoRow : OpenClaim := { program := "ytbonmndobipbnaa", sum := "4c3651efa72a150287e67794276e2122b81e16a97e295591560e79d10584fdcf", func := "loop.example/g01182/laws.FnExactNumbersOfLabel", spec := "fnExactNumbersOfLabel", unfollowed := true, recurses := true, apart := false, narrowed := true }
def FnExactNumbersOfLabelUptoSaid : Prop := fnExactNumbersOfLabelUptoRow.holds Try.pinned (OpenSpec.upto fnExactNumbersOfLabelSpec)

end Rows
end Go.Proofs.Ytbonmndobipbnaa
