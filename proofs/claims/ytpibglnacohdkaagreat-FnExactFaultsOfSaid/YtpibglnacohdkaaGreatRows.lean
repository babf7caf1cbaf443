/-
  No cell of these rows narrows 'for every input' (looked for: loops, veiled, ifaces, maps, wideKeys, modest, calm, conditions, laid).
  DERIVED. THE GIVEN ROWS OF THIS SEAT. 6 by the template 'for every input the law returns true; each argument reads behind the call as it read before'; 0 by the template 'total and deterministic' (their statements: YtpibglnacohdkaaGreatTotals.lean).
  GIVEN WITH THE SEED: the statements are not yours to turn. If you find one false, say at which input.
  Laid BY PROGRAM, IN A SANDBOX (cutbox-rows.mjs): the forced cells as the released guide's own fill.sh prints them over the translation cc8ba004711900c5… (all of the seat's roots in one cut). By AI agents, Wed Nov 11 2026. No macro, syntax, notation, axiom, sorry.
-/
import Derived.Test.YtpibglnacohdkaaGreatChecked
import GoSem.Claim
import GoSem.ClaimJoined
import GoSem.ClaimMapViews
import Derived.JoinedTies
import Derived.KernelRfl
namespace Go.Proofs.YtpibglnacohdkaaGreat
/- THE CELL 'sum', in the pinned program and in every row, IS THE sha256 OF THE DUMP (.gsa) THAT YtpibglnacohdkaaGreatProg.lean LOADS. Nothing in Lean hashes anything: it is a label: what it is worth is what the hold of that sum in a sandbox is worth. -/
noncomputable def Tryz.pinned : Pinned := { name := "ytpibglnacohdkaagreat", sum := "cc8ba004711900c594a8d69d77d8c30ede17d5bbeb2ccd8a5336572c69e98b3e", checked := Tryz.checked }
namespace Rows
def none {H : Type} : Left H := { results := [], args := [] }

/-- 'laws.FnExactDropBlob': WHATEVER THE INPUT: true; the input reads as it did. -/
def fnExactDropBlobSpec : ChangeSpec := { name := "fnExactDropBlob", fn := fun _ => fun
  | [d1, d2] => { results := [.lit (.bool true)], args := [d1, d2] }
  | _ => none }
def fnExactDropBlobRow : OpenClaim := { program := "ytpibglnacohdkaagreat", sum := "cc8ba004711900c594a8d69d77d8c30ede17d5bbeb2ccd8a5336572c69e98b3e", func := "loop.example/g01182/laws.FnExactDropBlob", spec := "fnExactDropBlob", inPlace := ["internal/bytealg.Compare"], unfollowed := true, recurses := true, apart := false }
def FnExactDropBlobSaid : Prop := fnExactDropBlobRow.holds Tryz.pinned (OpenSpec.ofChange fnExactDropBlobSpec)

/-- ITS FALSE NEIGHBOUR: 'it returns false'. Refute it at one input. -/
def fnExactDropBlobWrong : ChangeSpec := { name := "fnExactDropBlob", fn := fun _ => fun
  | [d1, d2] => { results := [.lit (.bool false)], args := [d1, d2] }
  | _ => none }
def FnExactDropBlobWrongFalsely : Prop := fnExactDropBlobRow.holds Tryz.pinned (OpenSpec.ofChange fnExactDropBlobWrong)

/-- 'laws.FnExactPutBlob': WHATEVER THE INPUT: true; the input reads as it did. -/
def fnExactPutBlobSpec : ChangeSpec := { name := "fnExactPutBlob", fn := fun _ => fun
  | [d1, d2] => { results := [.lit (.bool true)], args := [d1, d2] }
  | _ => none }
def fnExactPutBlobRow : OpenClaim := { program := "ytpibglnacohdkaagreat", sum := "cc8ba004711900c594a8d69d77d8c30ede17d5bbeb2ccd8a5336572c69e98b3e", func := "loop.example/g01182/laws.FnExactPutBlob", spec := "fnExactPutBlob", inPlace := ["internal/bytealg.Compare", "slices.overlaps[loop.example/g01182/impl.Digest]", "slices.overlaps[int64]", "slices.overlaps[[]byte]"], unfollowed := true, recurses := true, apart := false }
def FnExactPutBlobSaid : Prop := fnExactPutBlobRow.holds Tryz.pinned (OpenSpec.ofChange fnExactPutBlobSpec)

/-- ITS FALSE NEIGHBOUR: 'it returns false'. Refute it at one input. -/
def fnExactPutBlobWrong : ChangeSpec := { name := "fnExactPutBlob", fn := fun _ => fun
  | [d1, d2] => { results := [.lit (.bool false)], args := [d1, d2] }
  | _ => none }
def FnExactPutBlobWrongFalsely : Prop := fnExactPutBlobRow.holds Tryz.pinned (OpenSpec.ofChange fnExactPutBlobWrong)

/-- 'laws.FnExactDropRecord': WHATEVER THE INPUT: true; the input reads as it did. -/
def fnExactDropRecordSpec : ChangeSpec := { name := "fnExactDropRecord", fn := fun _ => fun
  | [d1, d2] => { results := [.lit (.bool true)], args := [d1, d2] }
  | _ => none }
def fnExactDropRecordRow : OpenClaim := { program := "ytpibglnacohdkaagreat", sum := "cc8ba004711900c594a8d69d77d8c30ede17d5bbeb2ccd8a5336572c69e98b3e", func := "loop.example/g01182/laws.FnExactDropRecord", spec := "fnExactDropRecord", unfollowed := true, recurses := true, apart := false }
def FnExactDropRecordSaid : Prop := fnExactDropRecordRow.holds Tryz.pinned (OpenSpec.ofChange fnExactDropRecordSpec)

/-- ITS FALSE NEIGHBOUR: 'it returns false'. Refute it at one input. -/
def fnExactDropRecordWrong : ChangeSpec := { name := "fnExactDropRecord", fn := fun _ => fun
  | [d1, d2] => { results := [.lit (.bool false)], args := [d1, d2] }
  | _ => none }
def FnExactDropRecordWrongFalsely : Prop := fnExactDropRecordRow.holds Tryz.pinned (OpenSpec.ofChange fnExactDropRecordWrong)

/-- 'laws.FnExactSealData': WHATEVER THE INPUT: true; the input reads as it did. -/
def fnExactSealDataSpec : ChangeSpec := { name := "fnExactSealData", fn := fun _ => fun
  | [d1, d2, d3, d4] => { results := [.lit (.bool true)], args := [d1, d2, d3, d4] }
  | _ => none }
def fnExactSealDataRow : OpenClaim := { program := "ytpibglnacohdkaagreat", sum := "cc8ba004711900c594a8d69d77d8c30ede17d5bbeb2ccd8a5336572c69e98b3e", func := "loop.example/g01182/laws.FnExactSealData", spec := "fnExactSealData", unfollowed := true, recurses := true, apart := false }
def FnExactSealDataSaid : Prop := fnExactSealDataRow.holds Tryz.pinned (OpenSpec.ofChange fnExactSealDataSpec)

/-- ITS FALSE NEIGHBOUR: 'it returns false'. Refute it at one input. -/
def fnExactSealDataWrong : ChangeSpec := { name := "fnExactSealData", fn := fun _ => fun
  | [d1, d2, d3, d4] => { results := [.lit (.bool false)], args := [d1, d2, d3, d4] }
  | _ => none }
def FnExactSealDataWrongFalsely : Prop := fnExactSealDataRow.holds Tryz.pinned (OpenSpec.ofChange fnExactSealDataWrong)

/-- 'laws.FnExactSealAnew': WHATEVER THE INPUT: true; the input reads as it did. -/
def fnExactSealAnewSpec : ChangeSpec := { name := "fnExactSealAnew", fn := fun _ => fun
  | [d1, d2, d3] => { results := [.lit (.bool true)], args := [d1, d2, d3] }
  | _ => none }
def fnExactSealAnewRow : OpenClaim := { program := "ytpibglnacohdkaagreat", sum := "cc8ba004711900c594a8d69d77d8c30ede17d5bbeb2ccd8a5336572c69e98b3e", func := "loop.example/g01182/laws.FnExactSealAnew", spec := "fnExactSealAnew", unfollowed := true, recurses := true, apart := false }
def FnExactSealAnewSaid : Prop := fnExactSealAnewRow.holds Tryz.pinned (OpenSpec.ofChange fnExactSealAnewSpec)

/-- ITS FALSE NEIGHBOUR: 'it returns false'. Refute it at one input. -/
def fnExactSealAnewWrong : ChangeSpec := { name := "fnExactSealAnew", fn := fun _ => fun
  | [d1, d2, d3] => { results := [.lit (.bool false)], args := [d1, d2, d3] }
  | _ => none }
def FnExactSealAnewWrongFalsely : Prop := fnExactSealAnewRow.holds Tryz.pinned (OpenSpec.ofChange fnExactSealAnewWrong)

/-- 'laws.FnExactFaultsOf': WHATEVER THE INPUT: true; the input reads as it did. -/
def fnExactFaultsOfSpec : ChangeSpec := { name := "fnExactFaultsOf", fn := fun _ => fun
  | [d] => { results := [.lit (.bool true)], args := [d] }
  | _ => none }
def fnExactFaultsOfRow : OpenClaim := { program := "ytpibglnacohdkaagreat", sum := "cc8ba004711900c594a8d69d77d8c30ede17d5bbeb2ccd8a5336572c69e98b3e", func := "loop.example/g01182/laws.FnExactFaultsOf", spec := "fnExactFaultsOf", unfollowed := true, recurses := true, apart := false }
def FnExactFaultsOfSaid : Prop := fnExactFaultsOfRow.holds Tryz.pinned (OpenSpec.ofChange fnExactFaultsOfSpec)

/-- ITS FALSE NEIGHBOUR: 'it returns false'. Refute it at one input. -/
def fnExactFaultsOfWrong : ChangeSpec := { name := "fnExactFaultsOf", fn := fun _ => fun
  | [d] => { results := [.lit (.bool false)], args := [d] }
  | _ => none }
def FnExactFaultsOfWrongFalsely : Prop := fnExactFaultsOfRow.holds Tryz.pinned (OpenSpec.ofChange fnExactFaultsOfWrong)

/- THE SECOND FORM. 'bulk': how many values and letters a reading holds, each counted each time it is reached (what is shared counts as often as it is met; a slice's spare places count too). A statement '..UptoSaid' is the law's where the arguments, and the package variables that the reading takes, are together of bulk at most 1048576: NARROWER than '..Said'. Prove '..Said' where nothing that the law and all that it calls make is longer than what came in: it says more and counts as full. Else prove '..UptoSaid'. A law counts once. -/
mutual
def uptoBulk {H : Type} : DataW H → Nat
  | .lit (.string bytes) => bytes.length + 1
  | .lit _ => 1
  | .nil => 1
  | .ptr d => uptoBulk d + 1
  | .slice elems spare => uptoBulkAll elems + uptoBulkAll spare + 1
  | .agg parts => uptoBulkAll parts + 1
  | .iface _ d => uptoBulk d + 1
  | .map entries => uptoBulkEntries entries + 1
  | .held _ => 1
def uptoBulkAll {H : Type} : List (DataW H) → Nat
  | [] => 0
  | d :: r => uptoBulk d + uptoBulkAll r
def uptoBulkEntries {H : Type} : List (Lit × DataW H) → Nat
  | [] => 0
  | x :: r => uptoBulkEntry x + uptoBulkEntries r
def uptoBulkEntry {H : Type} : Lit × DataW H → Nat
  | (.string bytes, d) => bytes.length + uptoBulk d + 1
  | (_, d) => uptoBulk d + 1
 end
def uptoSmall : (H : Type) → List (DataW H) → Bool := fun _ ds => decide (uptoBulkAll ds ≤ 1048576)
def OpenSpec.upto (s : _root_.Go.ChangeSpec) : _root_.Go.OpenSpec := { _root_.Go.OpenSpec.ofChange s with cond := some uptoSmall }

/-- 'laws.FnExactDropBlob', WHERE WHAT IT READS IS OF BULK AT MOST 1048576: true; the input reads as it did. -/
def fnExactDropBlobUptoRow : OpenClaim := { program := "ytpibglnacohdkaagreat", sum := "cc8ba004711900c594a8d69d77d8c30ede17d5bbeb2ccd8a5336572c69e98b3e", func := "loop.example/g01182/laws.FnExactDropBlob", spec := "fnExactDropBlob", inPlace := ["internal/bytealg.Compare"], unfollowed := true, recurses := true, apart := false, narrowed := true }
def FnExactDropBlobUptoSaid : Prop := fnExactDropBlobUptoRow.holds Tryz.pinned (OpenSpec.upto fnExactDropBlobSpec)

/-- 'laws.FnExactPutBlob', WHERE WHAT IT READS IS OF BULK AT MOST 1048576: true; the input reads as it did. -/
def fnExactPutBlobUptoRow : OpenClaim := { program := "ytpibglnacohdkaagreat", sum := "cc8ba004711900c594a8d69d77d8c30ede17d5bbeb2ccd8a5336572c69e98b3e", func := "loop.example/g01182/laws.FnExactPutBlob", spec := "fnExactPutBlob", inPlace := ["internal/bytealg.Compare", "slices.overlaps[loop.example/g01182/impl.Digest]", "slices.overlaps[int64]", "slices.overlaps[[]byte]"], unfollowed := true, recurses := true, apart := false, narrowed := true }
def FnExactPutBlobUptoSaid : Prop := fnExactPutBlobUptoRow.holds Tryz.pinned (OpenSpec.upto fnExactPutBlobSpec)

/-- 'laws.FnExactDropRecord', WHERE WHAT IT READS IS OF BULK AT MOST 1048576: true; the input reads as it did. -/
def fnExactDropRecordUptoRow : OpenClaim := { program := "ytpibglnacohdkaagreat", sum := "cc8ba004711900c594a8d69d77d8c30ede17d5bbeb2ccd8a5336572c69e98b3e", func := "loop.example/g01182/laws.FnExactDropRecord", spec := "fnExactDropRecord", unfollowed := true, recurses := true, apart := false, narrowed := true }
def FnExactDropRecordUptoSaid : Prop := fnExactDropRecordUptoRow.holds Tryz.pinned (OpenSpec.upto fnExactDropRecordSpec)

/-- 'laws.FnExactSealData', WHERE WHAT IT READS IS OF BULK AT MOST 1048576: true; the input reads as it did. -/
def fnExactSealDataUptoRow : OpenClaim := { program := "ytpibglnacohdkaagreat", sum := "cc8ba004711900c594a8d69d77d8c30ede17d5bbeb2ccd8a5336572c69e98b3e", func := "loop.example/g01182/laws.FnExactSealData", spec := "fnExactSealData", unfollowed := true, recurses := true, apart := false, narrowed := true }
def FnExactSealDataUptoSaid : Prop := fnExactSealDataUptoRow.holds Tryz.pinned (OpenSpec.upto fnExactSealDataSpec)

/-- 'laws.FnExactSealAnew', WHERE WHAT IT READS IS OF BULK AT MOST 1048576: true; the input reads as it did. -/
def fnExactSealAnewUptoRow : OpenClaim := { program := "ytpibglnacohdkaagreat", sum := "cc8ba004711900c594a8d69d77d8c30ede17d5bbeb2ccd8a5336572c69e98b3e", func := "loop.example/g01182/laws.FnExactSealAnew", spec := "fnExactSealAnew", unfollowed := true, recurses := true, apart := false, narrowed := true }
def FnExactSealAnewUptoSaid : Prop := fnExactSealAnewUptoRow.holds Tryz.pinned (OpenSpec.upto fnExactSealAnewSpec)

/-- 'laws.FnExactFaultsOf', WHERE WHAT IT READS IS OF BULK AT MOST 1048576: true; the input reads as it did. -/
def fnExactFaultsOfUptoRow : OpenClaim := { program := "ytpibglnacohdkaagreat", sum := "cc8ba004711900c594a8d69d77d8c30ede17d5bbeb2ccd8a5336572c69e98b3e", func := "loop.example/g01182/laws.FnExactFaultsOf", spec := "fnExactFaultsOf", unfollowed := true, recurses := true, apart := false, narrowed := true }
def FnExactFaultsOfUptoSaid : Prop := fnExactFaultsOfUptoRow.holds Tryz.pinned (OpenSpec.upto fnExactFaultsOfSpec)

end Rows
end Go.Proofs.YtpibglnacohdkaaGreat
