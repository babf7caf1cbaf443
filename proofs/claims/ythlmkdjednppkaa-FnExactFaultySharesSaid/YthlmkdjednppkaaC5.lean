/- The law FnExactFaultyShares holds: the call returns true for every input, and leaves its arguments alone. -/
import Derived.Test.YthlmkdjednppkaaC4
import Derived.Test.YthlmkdjednppkaaRows
import Derived.Test.YthlmkdjednppkaaChecked
set_option linter.unusedVariables false
set_option linter.unusedSimpArgs false
namespace Go.Proofs.Ythlmkdjednppkaa
open Go Go.ChangeShapes Go.WideShapes Go.ChangeAt Go.RowKit
theorem Try.own : ownKnob Try.prog.godebug = none := by kernel_rfl
theorem Try.laidOut : laidOutB Try.prog = true := by kernel_rfl
theorem op2 : Opens Try.prog 2 Int := opens_int Try.underlying2
theorem op5 : Opens Try.prog 5 UInt8 := opens_byte Try.underlying5
theorem op24 : Opens Try.prog 24 (List UInt8) := opens_slice Try.underlying24 op5 (by kernel_rfl) (by decide)
theorem op94 : Opens Try.prog 94 GShare := by
  intro H en w base held fuel cs x h
  obtain ⟨y, h1, h2, h3⟩ := opens_struct (α := UInt8 × (List UInt8)) Try.underlying94 (by kernel_rfl) (opensF_cons rfl (by kernel_rfl) op5 (opensF_one rfl (by kernel_rfl) op24)) h
  exact ⟨⟨y.1, y.2⟩, h1, h2, h3⟩
theorem op22 : Opens Try.prog 22 (List GShare) := opens_slice Try.underlying22 op94 (by kernel_rfl) (by decide)
set_option maxRecDepth 100000 in
theorem FnExactFaultyShares_lifted (os : Os) (started : os.Started) (H : Type) (enc : TypeId × Value → H) :
    ReturnsInHanded {} Try.checked os 13 .any (Rows.fnExactFaultySharesSpec.pre6 enc Try.prog Try.f13 Rows.fnExactFaultySharesRow.domain false) (Rows.fnExactFaultySharesSpec.post enc Try.prog Try.f13 false true false false) := by
  refine returnsInHanded_of_change (C := Try.checked) Try.own started (by kernel_rfl) Try.func13
    (ChangeSpec.witness6 (enc := enc) (C := Try.checked) false ⟨#[], #[.int .i64 0, .slice none 0 0, .int .i64 0], []⟩ 8 (by kernel_rfl) (by kernel_rfl) (by kernel_rfl) (by kernel_rfl)) ?_
  intro W base args ds gs before hval0 hW _ _
  have hval : ∀ (j : Nat) t v, Try.f13.params[j]? = some t → args[j]? = some v → Value.okWide Try.prog W .any base t v := hval0
  have hW' := hW
  obtain ⟨p, q, hA0, hV, hbef, hfz, hnd⟩ := hW
  have hA : DataW.TrodAll enc Try.prog W 0 (fun _ => true) true Try.f13.params.toList args.toList ds p := hA0
  rw [Try.params13] at hA hval
  obtain ⟨v0, v1, v2, d0, d1, d2, p0, p1, p2, rfl, rfl, rfl, h0, h1, h2⟩ := trodAll_three hA
  obtain ⟨rfl, _⟩ := trodVars_none hV
  have e0 : v0.cells.toList = [v0] := by obtain ⟨_, rfl⟩ := okWide_int Try.underlying2 (hval 0 2 v0 rfl rfl); rfl
  obtain ⟨x0, r0, b0, z0⟩ := arg_one op2 e0 h0
  obtain rfl : v0 = vI x0 := (List.cons.inj r0.1).1
  have e1 : v1.cells.toList = [v1] := by obtain ⟨_, _, _, rfl⟩ := okWide_slice Try.underlying22 (hval 1 22 v1 rfl rfl); rfl
  obtain ⟨x1, r1, b1, z1⟩ := arg_one op22 e1 h1
  have e2 : v2.cells.toList = [v2] := by obtain ⟨_, rfl⟩ := okWide_int Try.underlying2 (hval 2 2 v2 rfl rfl); rfl
  obtain ⟨x2, r2, b2, z2⟩ := arg_one op2 e2 h2
  obtain rfl : v2 = vI x2 := (List.cons.inj r2.1).1
  refine (c_laws_FnExactFaultyShares W x0 x1 v1 r1 x2 true (law_FnExactFaultyShares x0 x1 x2 b0 b1 b2)).mono fun e W' h => ?_
  obtain ⟨v, rfl, rfl, hK⟩ := h
  exact ⟨_, rfl, law_post rfl hW' rfl Try.underlying4 rfl Try.laidOut (by rw [Try.params13]; intro t ht; simp only [List.mem_cons, List.not_mem_nil, or_false] at ht; rcases ht with rfl | rfl | rfl <;> exact ⟨by kernel_rfl, of_decide_eq_true (by kernel_rfl)⟩) hK⟩
theorem q1 : Program.inPlace Try.pinned.checked.prog 13 = Rows.fnExactFaultySharesRow.inPlace := by kernel_rfl
theorem q2 : Program.unfollowed Try.pinned.checked.prog 13 = Rows.fnExactFaultySharesRow.unfollowed := by kernel_rfl
theorem q3 : Program.recurses Try.pinned.checked.prog 13 = Rows.fnExactFaultySharesRow.recurses := by kernel_rfl
theorem q4 : Program.varsNamed Try.pinned.checked.prog 13 = Rows.fnExactFaultySharesRow.named := by kernel_rfl
theorem q5 : laidOutB Try.pinned.checked.prog = true := by kernel_rfl
theorem q6 : mapsRowed Try.pinned.checked.prog = true := by kernel_rfl
theorem q7 : Program.stops Try.pinned.checked.prog = [] := by kernel_rfl
theorem q8 : Program.stopKnobs Try.pinned.checked.prog = [] := by kernel_rfl
theorem q9 : joinedFacts Try.pinned.checked.prog 13 Try.f13 Rows.fnExactFaultySharesSpec Rows.fnExactFaultySharesRow = true := by
  unfold joinedFacts
  rw [q1, q2, q3, q4, q5, q6, q7, q8]
  kernel_rfl
theorem q10 : Try.pinned.checked.prog.funcNamed Rows.fnExactFaultySharesRow.func = some 13 := by kernel_rfl
theorem FnExactFaultyShares_holds : Rows.FnExactFaultySharesSaid :=
  OpenClaim.holds_of_wide 13 Try.f13 rfl rfl rfl rfl rfl rfl rfl ⟨rfl, rfl, rfl, rfl, rfl⟩ rfl rfl rfl rfl rfl q10 Try.func13 q9
    (of_decide_eq_true (by kernel_rfl)) (by unfold Func.isWrapper; rw [if_neg (by decide +kernel)]; exact ⟨rfl, rfl⟩)
    (fun os started H enc _ => FnExactFaultyShares_lifted os started H enc)
end Go.Proofs.Ythlmkdjednppkaa
