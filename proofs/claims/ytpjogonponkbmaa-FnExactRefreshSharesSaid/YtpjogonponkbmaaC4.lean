/- The law FnExactRefreshShares holds: the call returns true for every input, and leaves its arguments alone. -/
import Derived.Test.YtpjogonponkbmaaC3
import Derived.Test.YtpjogonponkbmaaRows
import Derived.Test.YtpjogonponkbmaaChecked
set_option linter.unusedVariables false
set_option linter.unusedSimpArgs false
set_option maxRecDepth 20000
set_option maxHeartbeats 400000
namespace Go.Proofs.Ytpjogonponkbmaa
open Go Go.ChangeShapes Go.WideShapes Go.ChangeAt Go.RowKit
open Flat (enc)
theorem Try.own : ownKnob Try.prog.godebug = none := by kernel_rfl
theorem Try.laidOut : laidOutB Try.prog = true := by kernel_rfl
theorem op2 : WU Try.prog 2 Int := Km Try.underlying2
theorem op5 : WU Try.prog 5 UInt8 := QJ Try.underlying5
theorem op22 : WU Try.prog 22 (List UInt8) := Vk Try.underlying22 op5 (by kernel_rfl) (by decide)
theorem op88 : WU Try.prog 88 GShare := by
  intro H en w base held fuel cs x h
  obtain ⟨y, h1, h2, h3⟩ := T3 (α := UInt8 × (List UInt8)) Try.underlying88 (by kernel_rfl) (QB rfl (by kernel_rfl) op5 (QN rfl (by kernel_rfl) op22)) h
  exact ⟨⟨y.1, y.2⟩, h1, h2, h3⟩
theorem op36 : WU Try.prog 36 (List GShare) := Vk Try.underlying36 op88 (by kernel_rfl) (by decide)
theorem op23 : WU Try.prog 23 (List (List UInt8)) := Vk Try.underlying23 op22 (by kernel_rfl) (by decide)
set_option maxRecDepth 100000 in
theorem WB (os : Os) (started : os.Started) (H : Type) (enc : TypeId × Value → H) :
    ReturnsInHanded {} Try.checked os 4 .any (Rows.fnExactRefreshSharesSpec.pre6 enc Try.prog Try.f4 Rows.fnExactRefreshSharesRow.domain false) (Rows.fnExactRefreshSharesSpec.post enc Try.prog Try.f4 false true false false) := by
  refine returnsInHanded_of_change (C := Try.checked) Try.own started (by kernel_rfl) Try.func4
    (ChangeSpec.witness6 (enc := enc) (C := Try.checked) false ⟨#[], #[.int .i64 0, .slice none 0 0, .slice none 0 0], []⟩ 8 (by kernel_rfl) (by kernel_rfl) (by kernel_rfl) (by kernel_rfl)) ?_
  intro W base args ds gs before hval0 hW _ _
  have hval : ∀ (j : Nat) t v, Try.f4.params[j]? = some t → args[j]? = some v → Value.okWide Try.prog W .any base t v := hval0
  have hW' := hW
  obtain ⟨p, q, hA0, hV, hbef, hfz, hnd⟩ := hW
  have hA : DataW.TrodAll enc Try.prog W 0 (fun _ => true) true Try.f4.params.toList args.toList ds p := hA0
  rw [Try.params4] at hA hval
  obtain ⟨v0, v1, v2, d0, d1, d2, p0, p1, p2, rfl, rfl, rfl, h0, h1, h2⟩ := trodAll_three hA
  obtain ⟨rfl, _⟩ := trodVars_none hV
  have e0 : v0.cells.toList = [v0] := by obtain ⟨_, rfl⟩ := okWide_int Try.underlying2 (hval 0 2 v0 rfl rfl); rfl
  obtain ⟨x0, r0, b0, z0⟩ := T5 op2 e0 h0
  obtain rfl : v0 = vI x0 := (List.cons.inj r0.1).1
  have e1 : v1.cells.toList = [v1] := by obtain ⟨_, _, _, rfl⟩ := okWide_slice Try.underlying36 (hval 1 36 v1 rfl rfl); rfl
  obtain ⟨x1, r1, b1, z1⟩ := T5 op36 e1 h1
  have e2 : v2.cells.toList = [v2] := by obtain ⟨_, _, _, rfl⟩ := okWide_slice Try.underlying23 (hval 2 23 v2 rfl rfl); rfl
  obtain ⟨x2, r2, b2, z2⟩ := T5 op23 e2 h2
  refine (WA W x0 x1 v1 r1 x2 v2 r2 true (WY x0 x1 x2 b0 b1 b2)).mono fun e W' h => ?_
  obtain ⟨v, rfl, rfl, hK⟩ := h
  exact ⟨_, rfl, KU rfl hW' rfl Try.underlying4 rfl Try.laidOut (by rw [Try.params4]; intro t ht; simp only [List.mem_cons, List.not_mem_nil, or_false] at ht; rcases ht with rfl | rfl | rfl <;> exact ⟨by kernel_rfl, of_decide_eq_true (by kernel_rfl)⟩) hK⟩
theorem q1 : Program.inPlace Try.pinned.checked.prog 4 = Rows.fnExactRefreshSharesRow.inPlace := by kernel_rfl
theorem q2 : Program.unfollowed Try.pinned.checked.prog 4 = Rows.fnExactRefreshSharesRow.unfollowed := by kernel_rfl
theorem q3 : Program.recurses Try.pinned.checked.prog 4 = Rows.fnExactRefreshSharesRow.recurses := by kernel_rfl
theorem q4 : Program.varsNamed Try.pinned.checked.prog 4 = Rows.fnExactRefreshSharesRow.named := by kernel_rfl
theorem q5 : laidOutB Try.pinned.checked.prog = true := by kernel_rfl
theorem q6 : mapsRowed Try.pinned.checked.prog = true := by kernel_rfl
theorem q7 : Program.stops Try.pinned.checked.prog = [] := by kernel_rfl
theorem q8 : Program.stopKnobs Try.pinned.checked.prog = [] := by kernel_rfl
theorem q9 : joinedFacts Try.pinned.checked.prog 4 Try.f4 Rows.fnExactRefreshSharesSpec Rows.fnExactRefreshSharesRow = true := by
  unfold joinedFacts
  rw [q1, q2, q3, q4, q5, q6, q7, q8]
  kernel_rfl
theorem q10 : Try.pinned.checked.prog.funcNamed Rows.fnExactRefreshSharesRow.func = some 4 := by kernel_rfl
theorem FnExactRefreshShares_holds : Rows.FnExactRefreshSharesSaid :=
  OpenClaim.holds_of_wide 4 Try.f4 rfl rfl rfl rfl rfl rfl rfl ⟨rfl, rfl, rfl, rfl, rfl⟩ rfl rfl rfl rfl rfl q10 Try.func4 q9
    (of_decide_eq_true (by kernel_rfl)) (by unfold Func.isWrapper; rw [if_neg (by decide +kernel)]; exact ⟨rfl, rfl⟩)
    (fun os started H enc _ => WB os started H enc)
end Go.Proofs.Ytpjogonponkbmaa
