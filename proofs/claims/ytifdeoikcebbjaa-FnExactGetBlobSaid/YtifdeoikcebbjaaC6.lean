/- The law FnExactGetBlob holds: the call returns true for every input, and leaves its arguments alone. -/
import Derived.Test.YtifdeoikcebbjaaC5
import Derived.Test.YtifdeoikcebbjaaRows
import Derived.Test.YtifdeoikcebbjaaChecked
set_option linter.unusedVariables false
set_option linter.unusedSimpArgs false
set_option maxRecDepth 20000
set_option maxHeartbeats 400000
namespace Go.Proofs.Ytifdeoikcebbjaa
open Go Go.ChangeShapes Go.WideShapes Go.ChangeAt Go.RowKit
theorem Try.own : ownKnob Try.prog.godebug = none := by kernel_rfl
theorem Try.laidOut : laidOutB Try.prog = true := by kernel_rfl
theorem op5 : Opens Try.prog 5 UInt8 := opens_byte Try.underlying5
theorem op24 : Opens Try.prog 24 (Vector UInt8 32) := opens_array Try.underlying24 op5 (by kernel_rfl) (by kernel_rfl)
theorem op44 : Opens Try.prog 44 (List (Vector UInt8 32)) := opens_slice Try.underlying44 op24 (by kernel_rfl) (by decide)
theorem op50 : Opens Try.prog 50 (List UInt8) := opens_slice Try.underlying50 op5 (by kernel_rfl) (by decide)
theorem op45 : Opens Try.prog 45 (List (List UInt8)) := opens_slice Try.underlying45 op50 (by kernel_rfl) (by decide)
theorem op2 : Opens Try.prog 2 Int := opens_int Try.underlying2
theorem op46 : Opens Try.prog 46 (List Int) := opens_slice Try.underlying46 op2 (by kernel_rfl) (by decide)
theorem op48 : Opens Try.prog 48 GBlobs := by
  intro H en w base held fuel cs x h
  obtain ⟨y, h1, h2, h3⟩ := opens_struct (α := (List (Vector UInt8 32)) × (List (List UInt8)) × (List Int)) Try.underlying48 (by kernel_rfl) (opensF_cons rfl (by kernel_rfl) op44 (opensF_cons rfl (by kernel_rfl) op45 (opensF_one rfl (by kernel_rfl) op46))) h
  exact ⟨⟨y.1, y.2.1, y.2.2⟩, h1, h2, h3⟩
set_option maxRecDepth 100000 in
theorem FnExactGetBlob_lifted (os : Os) (started : os.Started) (H : Type) (enc : TypeId × Value → H) :
    ReturnsInHanded {} Try.checked os 5 .any (Rows.fnExactGetBlobSpec.pre6 enc Try.prog Try.f5 Rows.fnExactGetBlobRow.domain false) (Rows.fnExactGetBlobSpec.post enc Try.prog Try.f5 false true false false) := by
  refine returnsInHanded_of_change (C := Try.checked) Try.own started (by kernel_rfl) Try.func5
    (ChangeSpec.witness6 (enc := enc) (C := Try.checked) false ⟨#[], #[.agg (cat [[.slice none 0 0], [.slice none 0 0], [.slice none 0 0]]).toArray, .agg (Flat.enc (Vector.replicate 32 (0 : UInt8))).toArray], []⟩ 8 (by kernel_rfl) (by kernel_rfl) (by kernel_rfl) (by kernel_rfl)) ?_
  intro W base args ds gs before hval0 hW _ _
  have hval : ∀ (j : Nat) t v, Try.f5.params[j]? = some t → args[j]? = some v → Value.okWide Try.prog W .any base t v := hval0
  have hW' := hW
  obtain ⟨p, q, hA0, hV, hbef, hfz, hnd⟩ := hW
  have hA : DataW.TrodAll enc Try.prog W 0 (fun _ => true) true Try.f5.params.toList args.toList ds p := hA0
  rw [Try.params5] at hA hval
  obtain ⟨v0, v1, d0, d1, p0, p1, rfl, rfl, rfl, h0, h1⟩ := trodAll_two hA
  obtain ⟨rfl, _⟩ := trodVars_none hV
  obtain ⟨c0, rfl, _⟩ := okWide_struct Try.underlying48 (hval 0 48 v0 rfl rfl)
  obtain ⟨x0, r0, b0, z0⟩ := arg_agg op48 h0
  obtain ⟨u0_0, u0_1, u0_2, q0, s0_0, s0_1, s0_2⟩ := un_GBlobs r0
  obtain rfl := toList_eq q0
  obtain ⟨c1, rfl, _⟩ := okWide_array Try.underlying24 (hval 1 24 v1 rfl rfl)
  obtain ⟨x1, r1, b1, z1⟩ := arg_agg op24 h1
  obtain rfl : c1 = (Flat.enc x1).toArray := by rw [← r1.1]
  refine (c_laws_FnExactGetBlob W x0 u0_0 s0_0 u0_1 s0_1 u0_2 s0_2 x1 true (law_FnExactGetBlob x0 x1 b0 b1)).mono fun e W' h => ?_
  obtain ⟨v, rfl, rfl, hK⟩ := h
  exact ⟨_, rfl, law_post rfl hW' rfl Try.underlying4 rfl Try.laidOut (by rw [Try.params5]; intro t ht; simp only [List.mem_cons, List.not_mem_nil, or_false] at ht; rcases ht with rfl | rfl <;> exact ⟨by kernel_rfl, of_decide_eq_true (by kernel_rfl)⟩) hK⟩
theorem q1 : Program.inPlace Try.pinned.checked.prog 5 = Rows.fnExactGetBlobRow.inPlace := by kernel_rfl
theorem q2 : Program.unfollowed Try.pinned.checked.prog 5 = Rows.fnExactGetBlobRow.unfollowed := by kernel_rfl
theorem q3 : Program.recurses Try.pinned.checked.prog 5 = Rows.fnExactGetBlobRow.recurses := by kernel_rfl
theorem q4 : Program.varsNamed Try.pinned.checked.prog 5 = Rows.fnExactGetBlobRow.named := by kernel_rfl
theorem q5 : laidOutB Try.pinned.checked.prog = true := by kernel_rfl
theorem q6 : mapsRowed Try.pinned.checked.prog = true := by kernel_rfl
theorem q7 : Program.stops Try.pinned.checked.prog = [] := by kernel_rfl
theorem q8 : Program.stopKnobs Try.pinned.checked.prog = [] := by kernel_rfl
theorem q9 : joinedFacts Try.pinned.checked.prog 5 Try.f5 Rows.fnExactGetBlobSpec Rows.fnExactGetBlobRow = true := by
  unfold joinedFacts
  rw [q1, q2, q3, q4, q5, q6, q7, q8]
  kernel_rfl
theorem q10 : Try.pinned.checked.prog.funcNamed Rows.fnExactGetBlobRow.func = some 5 := by kernel_rfl
theorem FnExactGetBlob_holds : Rows.FnExactGetBlobSaid :=
  OpenClaim.holds_of_wide 5 Try.f5 rfl rfl rfl rfl rfl rfl rfl ⟨rfl, rfl, rfl, rfl, rfl⟩ rfl rfl rfl rfl rfl q10 Try.func5 q9
    (of_decide_eq_true (by kernel_rfl)) (by unfold Func.isWrapper; rw [if_neg (by decide +kernel)]; exact ⟨rfl, rfl⟩)
    (fun os started H enc _ => FnExactGetBlob_lifted os started H enc)
end Go.Proofs.Ytifdeoikcebbjaa
