/- The law FnExactRemainingOfSets holds: the call returns true for every input, and leaves its arguments alone. -/
import Derived.Test.YtpjogonponkbmaaC4
import Derived.Test.YtpjogonponkbmaaRows
import Derived.Test.YtpjogonponkbmaaChecked
set_option linter.unusedVariables false
set_option linter.unusedSimpArgs false
set_option maxRecDepth 20000
set_option maxHeartbeats 400000
namespace Go.Proofs.Ytpjogonponkbmaa
open Go Go.ChangeShapes Go.WideShapes Go.ChangeAt Go.RowKit
open Flat (enc)
theorem Try.own : ownKnob Try.prog.godebug = none := by kernel_rfl
theorem Try.laidOut : laidOutB Try.prog = true := by kernel_rfl
theorem op2 : VM Try.prog 2 Int := BM Try.underlying2
theorem op5 : VM Try.prog 5 UInt8 := Bc Try.underlying5
theorem op41 : VM Try.prog 41 (Vector UInt8 256) := UK Try.underlying41 op5 (by kernel_rfl) (by kernel_rfl)
theorem op42 : VM Try.prog 42 (Vector UInt8 4) := UK Try.underlying42 op5 (by kernel_rfl) (by kernel_rfl)
theorem op43 : VM Try.prog 43 (Vector (Vector UInt8 4) 4) := UK Try.underlying43 op42 (by kernel_rfl) (by kernel_rfl)
theorem op44 : VM Try.prog 44 (Vector UInt8 16) := UK Try.underlying44 op5 (by kernel_rfl) (by kernel_rfl)
theorem op46 : VM Try.prog 46 GCipher := by
  intro H en w base held fuel cs x h
  obtain ⟨y, h1, h2, h3⟩ := J5 (α := Int × (Vector UInt8 256) × (Vector (Vector UInt8 4) 4) × (Vector UInt8 16) × Int) Try.underlying46 (by kernel_rfl) (UL rfl (by kernel_rfl) op2 (UL rfl (by kernel_rfl) op41 (UL rfl (by kernel_rfl) op43 (UL rfl (by kernel_rfl) op44 (Bk rfl (by kernel_rfl) op2))))) h
  obtain ⟨c0, d0, f0, g0, rfl, _, ⟨rfl, _⟩, k0⟩ := h1
  obtain ⟨c1, d1, f1, g1, rfl, _, ⟨rfl, _⟩, k1⟩ := k0
  obtain ⟨c2, d2, f2, g2, rfl, _, ⟨rfl, _⟩, k2⟩ := k1
  obtain ⟨c3, d3, f3, g3, rfl, _, ⟨rfl, _⟩, k3⟩ := k2
  obtain ⟨rfl, _⟩ := k3
  exact ⟨⟨y.1, y.2.1, y.2.2.1, y.2.2.2.1, y.2.2.2.2⟩, ⟨rfl, rfl⟩, h2, h3⟩
theorem op64 : VM Try.prog 64 (List (Vector UInt8 16)) := Hi Try.underlying64 op44 (by kernel_rfl) (by decide)
set_option maxRecDepth 100000 in
theorem Ug (os : Os) (started : os.Started) (H : Type) (enc : TypeId × Value → H) :
    ReturnsInHanded {} Try.checked os 7 .any (Rows.fnExactRemainingOfSetsSpec.pre6 enc Try.prog Try.f7 Rows.fnExactRemainingOfSetsRow.domain false) (Rows.fnExactRemainingOfSetsSpec.post enc Try.prog Try.f7 false true false false) := by
  refine returnsInHanded_of_change (C := Try.checked) Try.own started (by kernel_rfl) Try.func7
    (ChangeSpec.witness6 (enc := enc) (C := Try.checked) false ⟨#[], #[.agg (Flat.enc (⟨(0 : Int), (Vector.replicate 256 (0 : UInt8)), (Vector.replicate 4 (Vector.replicate 4 (0 : UInt8))), (Vector.replicate 16 (0 : UInt8)), (0 : Int)⟩ : GCipher)).toArray, .agg (Flat.enc (Vector.replicate 16 (0 : UInt8))).toArray, .slice none 0 0, .int .i64 0, .int .i64 0, .int .i64 0], []⟩ 8 (by kernel_rfl) (by kernel_rfl) (by kernel_rfl) (by kernel_rfl)) ?_
  intro W base args ds gs before hval0 hW _ _
  have hval : ∀ (j : Nat) t v, Try.f7.params[j]? = some t → args[j]? = some v → Value.okWide Try.prog W .any base t v := hval0
  have hW' := hW
  obtain ⟨p, q, hA0, hV, hbef, hfz, hnd⟩ := hW
  have hA : DataW.TrodAll enc Try.prog W 0 (fun _ => true) true Try.f7.params.toList args.toList ds p := hA0
  rw [Try.params7] at hA hval
  obtain ⟨v0, v1, v2, v3, v4, v5, d0, d1, d2, d3, d4, d5, p0, p1, p2, p3, p4, p5, rfl, rfl, rfl, h0, h1, h2, h3, h4, h5⟩ := Hm hA
  obtain ⟨rfl, _⟩ := trodVars_none hV
  obtain ⟨c0, rfl, _⟩ := okWide_struct Try.underlying46 (hval 0 46 v0 rfl rfl)
  obtain ⟨x0, r0, b0, z0⟩ := BD op46 h0
  obtain rfl : c0 = (Flat.enc x0).toArray := by rw [← r0.1]
  obtain ⟨c1, rfl, _⟩ := JK Try.underlying44 (hval 1 44 v1 rfl rfl)
  obtain ⟨x1, r1, b1, z1⟩ := BD op44 h1
  obtain rfl : c1 = (Flat.enc x1).toArray := by rw [← r1.1]
  have e2 : v2.cells.toList = [v2] := by obtain ⟨_, _, _, rfl⟩ := okWide_slice Try.underlying64 (hval 2 64 v2 rfl rfl); rfl
  obtain ⟨x2, r2, b2, z2⟩ := Kt op64 e2 h2
  have e3 : v3.cells.toList = [v3] := by obtain ⟨_, rfl⟩ := okWide_int Try.underlying2 (hval 3 2 v3 rfl rfl); rfl
  obtain ⟨x3, r3, b3, z3⟩ := Kt op2 e3 h3
  obtain rfl : v3 = vI x3 := (List.cons.inj r3.1).1
  have e4 : v4.cells.toList = [v4] := by obtain ⟨_, rfl⟩ := okWide_int Try.underlying2 (hval 4 2 v4 rfl rfl); rfl
  obtain ⟨x4, r4, b4, z4⟩ := Kt op2 e4 h4
  obtain rfl : v4 = vI x4 := (List.cons.inj r4.1).1
  have e5 : v5.cells.toList = [v5] := by obtain ⟨_, rfl⟩ := okWide_int Try.underlying2 (hval 5 2 v5 rfl rfl); rfl
  obtain ⟨x5, r5, b5, z5⟩ := Kt op2 e5 h5
  obtain rfl : v5 = vI x5 := (List.cons.inj r5.1).1
  refine (Ui W x0 x1 x2 v2 r2 x3 x4 x5 true (UD x0 x1 x2 x3 x4 x5 b0 b1 b2 b3 b4 b5)).mono fun e W' h => ?_
  obtain ⟨v, rfl, rfl, hK⟩ := h
  exact ⟨_, rfl, Ad rfl hW' rfl Try.underlying4 rfl Try.laidOut (by rw [Try.params7]; intro t ht; simp only [List.mem_cons, List.not_mem_nil, or_false] at ht; rcases ht with rfl | rfl | rfl | rfl | rfl | rfl <;> exact ⟨by kernel_rfl, of_decide_eq_true (by kernel_rfl)⟩) hK⟩
theorem q1 : Program.inPlace Try.pinned.checked.prog 7 = Rows.fnExactRemainingOfSetsRow.inPlace := by kernel_rfl
theorem q2 : Program.unfollowed Try.pinned.checked.prog 7 = Rows.fnExactRemainingOfSetsRow.unfollowed := by kernel_rfl
theorem q3 : Program.recurses Try.pinned.checked.prog 7 = Rows.fnExactRemainingOfSetsRow.recurses := by kernel_rfl
theorem q4 : Program.varsNamed Try.pinned.checked.prog 7 = Rows.fnExactRemainingOfSetsRow.named := by kernel_rfl
theorem q5 : laidOutB Try.pinned.checked.prog = true := by kernel_rfl
theorem q6 : mapsRowed Try.pinned.checked.prog = true := by kernel_rfl
theorem q7 : Program.stops Try.pinned.checked.prog = [] := by kernel_rfl
theorem q8 : Program.stopKnobs Try.pinned.checked.prog = [] := by kernel_rfl
theorem q9 : joinedFacts Try.pinned.checked.prog 7 Try.f7 Rows.fnExactRemainingOfSetsSpec Rows.fnExactRemainingOfSetsRow = true := by
  unfold joinedFacts
  rw [q1, q2, q3, q4, q5, q6, q7, q8]
  kernel_rfl
theorem q10 : Try.pinned.checked.prog.funcNamed Rows.fnExactRemainingOfSetsRow.func = some 7 := by kernel_rfl
theorem FnExactRemainingOfSets_holds : Rows.FnExactRemainingOfSetsSaid :=
  OpenClaim.holds_of_wide 7 Try.f7 rfl rfl rfl rfl rfl rfl rfl ⟨rfl, rfl, rfl, rfl, rfl⟩ rfl rfl rfl rfl rfl q10 Try.func7 q9
    (of_decide_eq_true (by kernel_rfl)) (by unfold Func.isWrapper; rw [if_neg (by decide +kernel)]; exact ⟨rfl, rfl⟩)
    (fun os started H enc _ => Ug os started H enc)
end Go.Proofs.Ytpjogonponkbmaa
