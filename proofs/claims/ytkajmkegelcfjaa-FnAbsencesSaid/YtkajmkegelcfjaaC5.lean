/- The law FnAbsences holds: the call returns true for every input, and leaves its arguments alone. -/
import Derived.Test.YtkajmkegelcfjaaC4
import Derived.Test.YtkajmkegelcfjaaRows
import Derived.Test.YtkajmkegelcfjaaChecked
set_option linter.unusedVariables false
set_option linter.unusedSimpArgs false
set_option maxRecDepth 20000
set_option maxHeartbeats 400000
namespace Go.Proofs.Ytkajmkegelcfjaa
open Go Go.ChangeShapes Go.WideShapes Go.ChangeAt Go.RowKit
open Flat (enc)
theorem Try.own : ownKnob Try.prog.godebug = none := by kernel_rfl
theorem Try.laidOut : laidOutB Try.prog = true := by kernel_rfl
theorem op5 : Hh Try.prog 5 UInt8 := AV Try.underlying5
theorem op22 : Hh Try.prog 22 (List UInt8) := Ar Try.underlying22 op5 (by kernel_rfl) (by decide)
set_option maxRecDepth 100000 in
theorem Kk (os : Os) (started : os.Started) (H : Type) (enc : TypeId × Value → H) :
    ReturnsInHanded {} Try.checked os 5 .any (Rows.fnAbsencesSpec.pre6 enc Try.prog Try.f5 Rows.fnAbsencesRow.domain false) (Rows.fnAbsencesSpec.post enc Try.prog Try.f5 false true false false) := by
  refine returnsInHanded_of_change (C := Try.checked) Try.own started (by kernel_rfl) Try.func5
    (ChangeSpec.witness6 (enc := enc) (C := Try.checked) false ⟨#[], #[.slice none 0 0], []⟩ 8 (by kernel_rfl) (by kernel_rfl) (by kernel_rfl) (by kernel_rfl)) ?_
  intro W base args ds gs before hval0 hW _ _
  have hval : ∀ (j : Nat) t v, Try.f5.params[j]? = some t → args[j]? = some v → Value.okWide Try.prog W .any base t v := hval0
  have hW' := hW
  obtain ⟨p, q, hA0, hV, hbef, hfz, hnd⟩ := hW
  have hA : DataW.TrodAll enc Try.prog W 0 (fun _ => true) true Try.f5.params.toList args.toList ds p := hA0
  rw [Try.params5] at hA hval
  obtain ⟨v0, d0, rfl, rfl, h0⟩ := trodAll_one hA
  obtain ⟨rfl, _⟩ := trodVars_none hV
  have e0 : v0.cells.toList = [v0] := by obtain ⟨_, _, _, rfl⟩ := okWide_slice Try.underlying22 (hval 0 22 v0 rfl rfl); rfl
  obtain ⟨x0, r0, b0, z0⟩ := jG op22 e0 h0
  refine (Ku W x0 v0 r0 true (HE x0 b0)).mono fun e W' h => ?_
  obtain ⟨v, rfl, rfl, hK⟩ := h
  exact ⟨_, rfl, jc rfl hW' rfl Try.underlying4 rfl Try.laidOut (by rw [Try.params5]; intro t ht; simp only [List.mem_cons, List.not_mem_nil, or_false] at ht; subst ht <;> exact ⟨by kernel_rfl, of_decide_eq_true (by kernel_rfl)⟩) hK⟩
theorem q1 : Program.inPlace Try.pinned.checked.prog 5 = Rows.fnAbsencesRow.inPlace := by kernel_rfl
theorem q2 : Program.unfollowed Try.pinned.checked.prog 5 = Rows.fnAbsencesRow.unfollowed := by kernel_rfl
theorem q3 : Program.recurses Try.pinned.checked.prog 5 = Rows.fnAbsencesRow.recurses := by kernel_rfl
theorem q4 : Program.varsNamed Try.pinned.checked.prog 5 = Rows.fnAbsencesRow.named := by kernel_rfl
theorem q5 : laidOutB Try.pinned.checked.prog = true := by kernel_rfl
theorem q6 : mapsRowed Try.pinned.checked.prog = true := by kernel_rfl
theorem q7 : Program.stops Try.pinned.checked.prog = [] := by kernel_rfl
theorem q8 : Program.stopKnobs Try.pinned.checked.prog = [] := by kernel_rfl
theorem q9 : joinedFacts Try.pinned.checked.prog 5 Try.f5 Rows.fnAbsencesSpec Rows.fnAbsencesRow = true := by
  unfold joinedFacts
  rw [q1, q2, q3, q4, q5, q6, q7, q8]
  kernel_rfl
theorem q10 : Try.pinned.checked.prog.funcNamed Rows.fnAbsencesRow.func = some 5 := by kernel_rfl
theorem FnAbsences_holds : Rows.FnAbsencesSaid :=
  OpenClaim.holds_of_wide 5 Try.f5 rfl rfl rfl rfl rfl rfl rfl ⟨rfl, rfl, rfl, rfl, rfl⟩ rfl rfl rfl rfl rfl q10 Try.func5 q9
    (of_decide_eq_true (by kernel_rfl)) (by unfold Func.isWrapper; rw [if_neg (by decide +kernel)]; exact ⟨rfl, rfl⟩)
    (fun os started H enc _ => Kk os started H enc)
end Go.Proofs.Ytkajmkegelcfjaa
