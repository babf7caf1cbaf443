/- The law FnExactIsHidden holds: the call returns true for every input, and leaves its arguments alone. -/
import Derived.Test.YtbonmndobipbnaaC3
import Derived.Test.YtbonmndobipbnaaRows
import Derived.Test.YtbonmndobipbnaaChecked
set_option linter.unusedVariables false
set_option linter.unusedSimpArgs false
namespace Go.Proofs.Ytbonmndobipbnaa
open Go Go.ChangeShapes Go.WideShapes Go.ChangeAt Go.RowKit
theorem Try.own : ownKnob Try.prog.godebug = none := by kernel_rfl
theorem Try.laidOut : laidOutB Try.prog = true := by kernel_rfl
theorem op2 : Opens Try.prog 2 Int := opens_int Try.underlying2
theorem op5 : Opens Try.prog 5 UInt8 := opens_byte Try.underlying5
theorem op29 : Opens Try.prog 29 (List UInt8) := opens_slice Try.underlying29 op5 (by kernel_rfl) (by decide)
theorem op79 : Opens Try.prog 79 GShare := by
  intro H en w base held fuel cs x h
  obtain ⟨y, h1, h2, h3⟩ := opens_struct (α := UInt8 × (List UInt8)) Try.underlying79 (by kernel_rfl) (opensF_cons rfl (by kernel_rfl) op5 (opensF_one rfl (by kernel_rfl) op29)) h
  exact ⟨⟨y.1, y.2⟩, h1, h2, h3⟩
theorem op22 : Opens Try.prog 22 (List GShare) := opens_slice Try.underlying22 op79 (by kernel_rfl) (by decide)
set_option maxRecDepth 100000 in
theorem FnExactIsHidden_lifted (os : Os) (started : os.Started) (H : Type) (enc : TypeId × Value → H) :
    ReturnsInHanded {} Try.checked os 10 .any (Rows.fnExactIsHiddenSpec.pre6 enc Try.prog Try.f10 Rows.fnExactIsHiddenRow.domain false) (Rows.fnExactIsHiddenSpec.post enc Try.prog Try.f10 false true false false) := by
  refine returnsInHanded_of_change (C := Try.checked) Try.own started (by kernel_rfl) Try.func10
    (ChangeSpec.witness6 (enc := enc) (C := Try.checked) false ⟨#[], #[.int .i64 0, .slice none 0 0, .slice none 0 0, .slice none 0 0, .int .i64 0], []⟩ 8 (by kernel_rfl) (by kernel_rfl) (by kernel_rfl) (by kernel_rfl)) ?_
  intro W base args ds gs before hval0 hW _ _
  have hval : ∀ (j : Nat) t v, Try.f10.params[j]? = some t → args[j]? = some v → Value.okWide Try.prog W .any base t v := hval0
  have hW' := hW
  obtain ⟨p, q, hA0, hV, hbef, hfz, hnd⟩ := hW
  have hA : DataW.TrodAll enc Try.prog W 0 (fun _ => true) true Try.f10.params.toList args.toList ds p := hA0
  rw [Try.params10] at hA hval
  obtain ⟨v0, v1, v2, v3, v4, d0, d1, d2, d3, d4, p0, p1, p2, p3, p4, rfl, rfl, rfl, h0, h1, h2, h3, h4⟩ := trodAll_five hA
  obtain ⟨rfl, _⟩ := trodVars_none hV
  have e0 : v0.cells.toList = [v0] := by obtain ⟨_, rfl⟩ := okWide_int Try.underlying2 (hval 0 2 v0 rfl rfl); rfl
  obtain ⟨x0, r0, b0, z0⟩ := arg_one op2 e0 h0
  obtain rfl : v0 = vI x0 := (List.cons.inj r0.1).1
  have e1 : v1.cells.toList = [v1] := by obtain ⟨_, _, _, rfl⟩ := okWide_slice Try.underlying29 (hval 1 29 v1 rfl rfl); rfl
  obtain ⟨x1, r1, b1, z1⟩ := arg_one op29 e1 h1
  have e2 : v2.cells.toList = [v2] := by obtain ⟨_, _, _, rfl⟩ := okWide_slice Try.underlying29 (hval 2 29 v2 rfl rfl); rfl
  obtain ⟨x2, r2, b2, z2⟩ := arg_one op29 e2 h2
  have e3 : v3.cells.toList = [v3] := by obtain ⟨_, _, _, rfl⟩ := okWide_slice Try.underlying22 (hval 3 22 v3 rfl rfl); rfl
  obtain ⟨x3, r3, b3, z3⟩ := arg_one op22 e3 h3
  have e4 : v4.cells.toList = [v4] := by obtain ⟨_, rfl⟩ := okWide_int Try.underlying2 (hval 4 2 v4 rfl rfl); rfl
  obtain ⟨x4, r4, b4, z4⟩ := arg_one op2 e4 h4
  obtain rfl : v4 = vI x4 := (List.cons.inj r4.1).1
  refine (c_laws_FnExactIsHidden W x0 x1 v1 r1 x2 v2 r2 x3 v3 r3 x4 true (law_FnExactIsHidden x0 x1 x2 x3 x4 b0 b1 b2 b3 b4)).mono fun e W' h => ?_
  obtain ⟨v, rfl, rfl, hK⟩ := h
  exact ⟨_, rfl, law_post rfl hW' rfl Try.underlying4 rfl Try.laidOut (by rw [Try.params10]; intro t ht; simp only [List.mem_cons, List.not_mem_nil, or_false] at ht; rcases ht with rfl | rfl | rfl | rfl | rfl <;> exact ⟨by kernel_rfl, of_decide_eq_true (by kernel_rfl)⟩) hK⟩
theorem q1 : Program.inPlace Try.pinned.checked.prog 10 = Rows.fnExactIsHiddenRow.inPlace := by kernel_rfl
theorem q2 : Program.unfollowed Try.pinned.checked.prog 10 = Rows.fnExactIsHiddenRow.unfollowed := by kernel_rfl
theorem q3 : Program.recurses Try.pinned.checked.prog 10 = Rows.fnExactIsHiddenRow.recurses := by kernel_rfl
theorem q4 : Program.varsNamed Try.pinned.checked.prog 10 = Rows.fnExactIsHiddenRow.named := by kernel_rfl
theorem q5 : laidOutB Try.pinned.checked.prog = true := by kernel_rfl
theorem q6 : mapsRowed Try.pinned.checked.prog = true := by kernel_rfl
theorem q7 : Program.stops Try.pinned.checked.prog = [] := by kernel_rfl
theorem q8 : Program.stopKnobs Try.pinned.checked.prog = [] := by kernel_rfl
theorem q9 : joinedFacts Try.pinned.checked.prog 10 Try.f10 Rows.fnExactIsHiddenSpec Rows.fnExactIsHiddenRow = true := by
  unfold joinedFacts
  rw [q1, q2, q3, q4, q5, q6, q7, q8]
  kernel_rfl
theorem q10 : Try.pinned.checked.prog.funcNamed Rows.fnExactIsHiddenRow.func = some 10 := by kernel_rfl
theorem FnExactIsHidden_holds : Rows.FnExactIsHiddenSaid :=
  OpenClaim.holds_of_wide 10 Try.f10 rfl rfl rfl rfl rfl rfl rfl ⟨rfl, rfl, rfl, rfl, rfl⟩ rfl rfl rfl rfl rfl q10 Try.func10 q9
    (of_decide_eq_true (by kernel_rfl)) (by unfold Func.isWrapper; rw [if_neg (by decide +kernel)]; exact ⟨rfl, rfl⟩)
    (fun os started H enc _ => FnExactIsHidden_lifted os started H enc)
end Go.Proofs.Ytbonmndobipbnaa
