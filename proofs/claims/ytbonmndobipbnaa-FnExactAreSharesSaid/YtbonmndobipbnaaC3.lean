/- The law FnExactAreShares holds: the call returns true for every input, and leaves its arguments alone. -/
import Derived.Test.YtbonmndobipbnaaC2
import Derived.Test.YtbonmndobipbnaaRows
import Derived.Test.YtbonmndobipbnaaChecked
set_option linter.unusedVariables false
set_option linter.unusedSimpArgs false
namespace Go.Proofs.Ytbonmndobipbnaa
open Go Go.ChangeShapes Go.WideShapes Go.ChangeAt Go.RowKit
theorem Try.own : ownKnob Try.prog.godebug = none := by kernel_rfl
theorem Try.laidOut : laidOutB Try.prog = true := by kernel_rfl
theorem op5 : Opens Try.prog 5 UInt8 := opens_byte Try.underlying5
theorem op29 : Opens Try.prog 29 (List UInt8) := opens_slice Try.underlying29 op5 (by kernel_rfl) (by decide)
theorem op79 : Opens Try.prog 79 GShare := by
  intro H en w base held fuel cs x h
  obtain ⟨y, h1, h2, h3⟩ := opens_struct (α := UInt8 × (List UInt8)) Try.underlying79 (by kernel_rfl) (opensF_cons rfl (by kernel_rfl) op5 (opensF_one rfl (by kernel_rfl) op29)) h
  exact ⟨⟨y.1, y.2⟩, h1, h2, h3⟩
theorem op22 : Opens Try.prog 22 (List GShare) := opens_slice Try.underlying22 op79 (by kernel_rfl) (by decide)
set_option maxRecDepth 100000 in
theorem FnExactAreShares_lifted (os : Os) (started : os.Started) (H : Type) (enc : TypeId × Value → H) :
    ReturnsInHanded {} Try.checked os 3 .any (Rows.fnExactAreSharesSpec.pre6 enc Try.prog Try.f3 Rows.fnExactAreSharesRow.domain false) (Rows.fnExactAreSharesSpec.post enc Try.prog Try.f3 false true false false) := by
  refine returnsInHanded_of_change (C := Try.checked) Try.own started (by kernel_rfl) Try.func3
    (ChangeSpec.witness6 (enc := enc) (C := Try.checked) false ⟨#[], #[.slice none 0 0], []⟩ 8 (by kernel_rfl) (by kernel_rfl) (by kernel_rfl) (by kernel_rfl)) ?_
  intro W base args ds gs before hval0 hW _ _
  have hval : ∀ (j : Nat) t v, Try.f3.params[j]? = some t → args[j]? = some v → Value.okWide Try.prog W .any base t v := hval0
  have hW' := hW
  obtain ⟨p, q, hA0, hV, hbef, hfz, hnd⟩ := hW
  have hA : DataW.TrodAll enc Try.prog W 0 (fun _ => true) true Try.f3.params.toList args.toList ds p := hA0
  rw [Try.params3] at hA hval
  obtain ⟨v0, d0, rfl, rfl, h0⟩ := trodAll_one hA
  obtain ⟨rfl, _⟩ := trodVars_none hV
  have e0 : v0.cells.toList = [v0] := by obtain ⟨_, _, _, rfl⟩ := okWide_slice Try.underlying22 (hval 0 22 v0 rfl rfl); rfl
  obtain ⟨x0, r0, b0, z0⟩ := arg_one op22 e0 h0
  refine (c_laws_FnExactAreShares W x0 v0 r0 true (law_FnExactAreShares x0 b0)).mono fun e W' h => ?_
  obtain ⟨v, rfl, rfl, hK⟩ := h
  exact ⟨_, rfl, law_post rfl hW' rfl Try.underlying4 rfl Try.laidOut (by rw [Try.params3]; intro t ht; simp only [List.mem_cons, List.not_mem_nil, or_false] at ht; subst ht <;> exact ⟨by kernel_rfl, of_decide_eq_true (by kernel_rfl)⟩) hK⟩
theorem FnExactAreShares_holds : Rows.FnExactAreSharesSaid :=
  OpenClaim.holds_of_wide 3 Try.f3 rfl rfl rfl rfl rfl rfl rfl ⟨rfl, rfl, rfl, rfl, rfl⟩ rfl rfl rfl rfl rfl (by kernel_rfl) Try.func3 (by kernel_rfl)
    (of_decide_eq_true (by kernel_rfl)) (by unfold Func.isWrapper; rw [if_neg (by decide +kernel)]; exact ⟨rfl, rfl⟩)
    (fun os started H enc _ => FnExactAreShares_lifted os started H enc)
end Go.Proofs.Ytbonmndobipbnaa
