/- The law FnExactSharesOf holds: the call returns true for every input, and leaves its arguments alone. -/
import Derived.Test.YtpjogonponkbmaaC2
import Derived.Test.YtpjogonponkbmaaRows
import Derived.Test.YtpjogonponkbmaaChecked
set_option linter.unusedVariables false
set_option linter.unusedSimpArgs false
set_option maxRecDepth 20000
set_option maxHeartbeats 400000
namespace Go.Proofs.Ytpjogonponkbmaa
open Go Go.ChangeShapes Go.WideShapes Go.ChangeAt Go.RowKit
open Flat (enc)
theorem Try.own : ownKnob Try.prog.godebug = none := by kernel_rfl
theorem Try.laidOut : laidOutB Try.prog = true := by kernel_rfl
theorem op2 : WK Try.prog 2 Int := TS Try.underlying2
theorem op5 : WK Try.prog 5 UInt8 := Tz Try.underlying5
theorem op22 : WK Try.prog 22 (List UInt8) := Vo Try.underlying22 op5 (by kernel_rfl) (by decide)
theorem op23 : WK Try.prog 23 (List (List UInt8)) := Vo Try.underlying23 op22 (by kernel_rfl) (by decide)
set_option maxRecDepth 100000 in
theorem Wc (os : Os) (started : os.Started) (H : Type) (enc : TypeId × Value → H) :
    ReturnsInHanded {} Try.checked os 3 .any (Rows.fnExactSharesOfSpec.pre6 enc Try.prog Try.f3 Rows.fnExactSharesOfRow.domain false) (Rows.fnExactSharesOfSpec.post enc Try.prog Try.f3 false true false false) := by
  refine returnsInHanded_of_change (C := Try.checked) Try.own started (by kernel_rfl) Try.func3
    (ChangeSpec.witness6 (enc := enc) (C := Try.checked) false ⟨#[], #[.int .i64 0, .slice none 0 0, .slice none 0 0, .slice none 0 0], []⟩ 8 (by kernel_rfl) (by kernel_rfl) (by kernel_rfl) (by kernel_rfl)) ?_
  intro W base args ds gs before hval0 hW _ _
  have hval : ∀ (j : Nat) t v, Try.f3.params[j]? = some t → args[j]? = some v → Value.okWide Try.prog W .any base t v := hval0
  have hW' := hW
  obtain ⟨p, q, hA0, hV, hbef, hfz, hnd⟩ := hW
  have hA : DataW.TrodAll enc Try.prog W 0 (fun _ => true) true Try.f3.params.toList args.toList ds p := hA0
  rw [Try.params3] at hA hval
  obtain ⟨v0, v1, v2, v3, d0, d1, d2, d3, p0, p1, p2, p3, rfl, rfl, rfl, h0, h1, h2, h3⟩ := trodAll_four hA
  obtain ⟨rfl, _⟩ := trodVars_none hV
  have e0 : v0.cells.toList = [v0] := by obtain ⟨_, rfl⟩ := okWide_int Try.underlying2 (hval 0 2 v0 rfl rfl); rfl
  obtain ⟨x0, r0, b0, z0⟩ := VI op2 e0 h0
  obtain rfl : v0 = vI x0 := (List.cons.inj r0.1).1
  have e1 : v1.cells.toList = [v1] := by obtain ⟨_, _, _, rfl⟩ := okWide_slice Try.underlying22 (hval 1 22 v1 rfl rfl); rfl
  obtain ⟨x1, r1, b1, z1⟩ := VI op22 e1 h1
  have e2 : v2.cells.toList = [v2] := by obtain ⟨_, _, _, rfl⟩ := okWide_slice Try.underlying23 (hval 2 23 v2 rfl rfl); rfl
  obtain ⟨x2, r2, b2, z2⟩ := VI op23 e2 h2
  have e3 : v3.cells.toList = [v3] := by obtain ⟨_, _, _, rfl⟩ := okWide_slice Try.underlying22 (hval 3 22 v3 rfl rfl); rfl
  obtain ⟨x3, r3, b3, z3⟩ := VI op22 e3 h3
  refine (Wb W x0 x1 v1 r1 x2 v2 r2 x3 v3 r3 true (WF x0 x1 x2 x3 b0 b1 b2 b3)).mono fun e W' h => ?_
  obtain ⟨v, rfl, rfl, hK⟩ := h
  exact ⟨_, rfl, Qq rfl hW' rfl Try.underlying4 rfl Try.laidOut (by rw [Try.params3]; intro t ht; simp only [List.mem_cons, List.not_mem_nil, or_false] at ht; rcases ht with rfl | rfl | rfl | rfl <;> exact ⟨by kernel_rfl, of_decide_eq_true (by kernel_rfl)⟩) hK⟩
theorem q1 : Program.inPlace Try.pinned.checked.prog 3 = Rows.fnExactSharesOfRow.inPlace := by kernel_rfl
theorem q2 : Program.unfollowed Try.pinned.checked.prog 3 = Rows.fnExactSharesOfRow.unfollowed := by kernel_rfl
theorem q3 : Program.recurses Try.pinned.checked.prog 3 = Rows.fnExactSharesOfRow.recurses := by kernel_rfl
theorem q4 : Program.varsNamed Try.pinned.checked.prog 3 = Rows.fnExactSharesOfRow.named := by kernel_rfl
theorem q5 : laidOutB Try.pinned.checked.prog = true := by kernel_rfl
theorem q6 : mapsRowed Try.pinned.checked.prog = true := by kernel_rfl
theorem q7 : Program.stops Try.pinned.checked.prog = [] := by kernel_rfl
theorem q8 : Program.stopKnobs Try.pinned.checked.prog = [] := by kernel_rfl
theorem q9 : joinedFacts Try.pinned.checked.prog 3 Try.f3 Rows.fnExactSharesOfSpec Rows.fnExactSharesOfRow = true := by
  unfold joinedFacts
  rw [q1, q2, q3, q4, q5, q6, q7, q8]
  kernel_rfl
theorem q10 : Try.pinned.checked.prog.funcNamed Rows.fnExactSharesOfRow.func = some 3 := by kernel_rfl
theorem FnExactSharesOf_holds : Rows.FnExactSharesOfSaid :=
  OpenClaim.holds_of_wide 3 Try.f3 rfl rfl rfl rfl rfl rfl rfl ⟨rfl, rfl, rfl, rfl, rfl⟩ rfl rfl rfl rfl rfl q10 Try.func3 q9
    (of_decide_eq_true (by kernel_rfl)) (by unfold Func.isWrapper; rw [if_neg (by decide +kernel)]; exact ⟨rfl, rfl⟩)
    (fun os started H enc _ => Wc os started H enc)
end Go.Proofs.Ytpjogonponkbmaa
