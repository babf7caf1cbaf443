/- The law FnExactShareAt holds: the call returns true for every input, and leaves its arguments alone. -/
import Derived.Test.YthlmkdjednppkaaC3
import Derived.Test.YthlmkdjednppkaaRows
import Derived.Test.YthlmkdjednppkaaChecked
set_option linter.unusedVariables false
set_option linter.unusedSimpArgs false
namespace Go.Proofs.Ythlmkdjednppkaa
open Go Go.ChangeShapes Go.WideShapes Go.ChangeAt Go.RowKit
theorem Try.own : ownKnob Try.prog.godebug = none := by kernel_rfl
theorem Try.laidOut : laidOutB Try.prog = true := by kernel_rfl
theorem op2 : Opens Try.prog 2 Int := opens_int Try.underlying2
theorem op5 : Opens Try.prog 5 UInt8 := opens_byte Try.underlying5
theorem op24 : Opens Try.prog 24 (List UInt8) := opens_slice Try.underlying24 op5 (by kernel_rfl) (by decide)
theorem op94 : Opens Try.prog 94 GShare := by
  intro H en w base held fuel cs x h
  obtain ⟨y, h1, h2, h3⟩ := opens_struct (α := UInt8 × (List UInt8)) Try.underlying94 (by kernel_rfl) (opensF_cons rfl (by kernel_rfl) op5 (opensF_one rfl (by kernel_rfl) op24)) h
  exact ⟨⟨y.1, y.2⟩, h1, h2, h3⟩
theorem op22 : Opens Try.prog 22 (List GShare) := opens_slice Try.underlying22 op94 (by kernel_rfl) (by decide)
set_option maxRecDepth 100000 in
theorem FnExactShareAt_lifted (os : Os) (started : os.Started) (H : Type) (enc : TypeId × Value → H) :
    ReturnsInHanded {} Try.checked os 3 .any (Rows.fnExactShareAtSpec.pre6 enc Try.prog Try.f3 Rows.fnExactShareAtRow.domain false) (Rows.fnExactShareAtSpec.post enc Try.prog Try.f3 false true false false) := by
  refine returnsInHanded_of_change (C := Try.checked) Try.own started (by kernel_rfl) Try.func3
    (ChangeSpec.witness6 (enc := enc) (C := Try.checked) false ⟨#[], #[.int .i64 0, .slice none 0 0, .int .i64 0, .int .u8 0], []⟩ 8 (by kernel_rfl) (by kernel_rfl) (by kernel_rfl) (by kernel_rfl)) ?_
  intro W base args ds gs before hval0 hW _ _
  have hval : ∀ (j : Nat) t v, Try.f3.params[j]? = some t → args[j]? = some v → Value.okWide Try.prog W .any base t v := hval0
  have hW' := hW
  obtain ⟨p, q, hA0, hV, hbef, hfz, hnd⟩ := hW
  have hA : DataW.TrodAll enc Try.prog W 0 (fun _ => true) true Try.f3.params.toList args.toList ds p := hA0
  rw [Try.params3] at hA hval
  obtain ⟨v0, v1, v2, v3, d0, d1, d2, d3, p0, p1, p2, p3, rfl, rfl, rfl, h0, h1, h2, h3⟩ := trodAll_four hA
  obtain ⟨rfl, _⟩ := trodVars_none hV
  have e0 : v0.cells.toList = [v0] := by obtain ⟨_, rfl⟩ := okWide_int Try.underlying2 (hval 0 2 v0 rfl rfl); rfl
  obtain ⟨x0, r0, b0, z0⟩ := arg_one op2 e0 h0
  obtain rfl : v0 = vI x0 := (List.cons.inj r0.1).1
  have e1 : v1.cells.toList = [v1] := by obtain ⟨_, _, _, rfl⟩ := okWide_slice Try.underlying22 (hval 1 22 v1 rfl rfl); rfl
  obtain ⟨x1, r1, b1, z1⟩ := arg_one op22 e1 h1
  have e2 : v2.cells.toList = [v2] := by obtain ⟨_, rfl⟩ := okWide_int Try.underlying2 (hval 2 2 v2 rfl rfl); rfl
  obtain ⟨x2, r2, b2, z2⟩ := arg_one op2 e2 h2
  obtain rfl : v2 = vI x2 := (List.cons.inj r2.1).1
  have e3 : v3.cells.toList = [v3] := by obtain ⟨_, rfl⟩ := okWide_int Try.underlying5 (hval 3 5 v3 rfl rfl); rfl
  obtain ⟨x3, r3, b3, z3⟩ := arg_one op5 e3 h3
  obtain rfl : v3 = vB x3 := (List.cons.inj r3.1).1
  refine (c_laws_FnExactShareAt W x0 x1 v1 r1 x2 x3 true (law_FnExactShareAt x0 x1 x2 x3 b0 b1 b2 b3)).mono fun e W' h => ?_
  obtain ⟨v, rfl, rfl, hK⟩ := h
  exact ⟨_, rfl, law_post rfl hW' rfl Try.underlying4 rfl Try.laidOut (by rw [Try.params3]; intro t ht; simp only [List.mem_cons, List.not_mem_nil, or_false] at ht; rcases ht with rfl | rfl | rfl | rfl <;> exact ⟨by kernel_rfl, of_decide_eq_true (by kernel_rfl)⟩) hK⟩
theorem FnExactShareAt_holds : Rows.FnExactShareAtSaid :=
  OpenClaim.holds_of_wide 3 Try.f3 rfl rfl rfl rfl rfl rfl rfl ⟨rfl, rfl, rfl, rfl, rfl⟩ rfl rfl rfl rfl rfl (by kernel_rfl) Try.func3 (by kernel_rfl)
    (of_decide_eq_true (by kernel_rfl)) (by unfold Func.isWrapper; rw [if_neg (by decide +kernel)]; exact ⟨rfl, rfl⟩)
    (fun os started H enc _ => FnExactShareAt_lifted os started H enc)
end Go.Proofs.Ythlmkdjednppkaa
