/- The law FnExactWeightsOf holds: the call returns true for every input, and leaves its arguments alone. -/
import Derived.Test.YtbonmndobipbnaaC2
import Derived.Test.YtbonmndobipbnaaRows
import Derived.Test.YtbonmndobipbnaaChecked
set_option linter.unusedVariables false
set_option linter.unusedSimpArgs false
namespace Go.Proofs.Ytbonmndobipbnaa
open Go Go.ChangeShapes Go.WideShapes Go.ChangeAt Go.RowKit
theorem Try.own : ownKnob Try.prog.godebug = none := by kernel_rfl
theorem Try.laidOut : laidOutB Try.prog = true := by kernel_rfl
theorem op2 : Opens Try.prog 2 Int := opens_int Try.underlying2
theorem op5 : Opens Try.prog 5 UInt8 := opens_byte Try.underlying5
theorem op29 : Opens Try.prog 29 (List UInt8) := opens_slice Try.underlying29 op5 (by kernel_rfl) (by decide)
set_option maxRecDepth 100000 in
theorem FnExactWeightsOf_lifted (os : Os) (started : os.Started) (H : Type) (enc : TypeId × Value → H) :
    ReturnsInHanded {} Try.checked os 4 .any (Rows.fnExactWeightsOfSpec.pre6 enc Try.prog Try.f4 Rows.fnExactWeightsOfRow.domain false) (Rows.fnExactWeightsOfSpec.post enc Try.prog Try.f4 false true false false) := by
  refine returnsInHanded_of_change (C := Try.checked) Try.own started (by kernel_rfl) Try.func4
    (ChangeSpec.witness6 (enc := enc) (C := Try.checked) false ⟨#[], #[.int .i64 0, .slice none 0 0], []⟩ 8 (by kernel_rfl) (by kernel_rfl) (by kernel_rfl) (by kernel_rfl)) ?_
  intro W base args ds gs before hval0 hW _ _
  have hval : ∀ (j : Nat) t v, Try.f4.params[j]? = some t → args[j]? = some v → Value.okWide Try.prog W .any base t v := hval0
  have hW' := hW
  obtain ⟨p, q, hA0, hV, hbef, hfz, hnd⟩ := hW
  have hA : DataW.TrodAll enc Try.prog W 0 (fun _ => true) true Try.f4.params.toList args.toList ds p := hA0
  rw [Try.params4] at hA hval
  obtain ⟨v0, v1, d0, d1, p0, p1, rfl, rfl, rfl, h0, h1⟩ := trodAll_two hA
  obtain ⟨rfl, _⟩ := trodVars_none hV
  have e0 : v0.cells.toList = [v0] := by obtain ⟨_, rfl⟩ := okWide_int Try.underlying2 (hval 0 2 v0 rfl rfl); rfl
  obtain ⟨x0, r0, b0, z0⟩ := arg_one op2 e0 h0
  obtain rfl : v0 = vI x0 := (List.cons.inj r0.1).1
  have e1 : v1.cells.toList = [v1] := by obtain ⟨_, _, _, rfl⟩ := okWide_slice Try.underlying29 (hval 1 29 v1 rfl rfl); rfl
  obtain ⟨x1, r1, b1, z1⟩ := arg_one op29 e1 h1
  refine (c_laws_FnExactWeightsOf W x0 x1 v1 r1 true (law_FnExactWeightsOf x0 x1 b0 b1)).mono fun e W' h => ?_
  obtain ⟨v, rfl, rfl, hK⟩ := h
  exact ⟨_, rfl, law_post rfl hW' rfl Try.underlying4 rfl Try.laidOut (by rw [Try.params4]; intro t ht; simp only [List.mem_cons, List.not_mem_nil, or_false] at ht; rcases ht with rfl | rfl <;> exact ⟨by kernel_rfl, of_decide_eq_true (by kernel_rfl)⟩) hK⟩
theorem FnExactWeightsOf_holds : Rows.FnExactWeightsOfSaid :=
  OpenClaim.holds_of_wide 4 Try.f4 rfl rfl rfl rfl rfl rfl rfl ⟨rfl, rfl, rfl, rfl, rfl⟩ rfl rfl rfl rfl rfl (by kernel_rfl) Try.func4 (by kernel_rfl)
    (of_decide_eq_true (by kernel_rfl)) (by unfold Func.isWrapper; rw [if_neg (by decide +kernel)]; exact ⟨rfl, rfl⟩)
    (fun os started H enc _ => FnExactWeightsOf_lifted os started H enc)
end Go.Proofs.Ytbonmndobipbnaa
