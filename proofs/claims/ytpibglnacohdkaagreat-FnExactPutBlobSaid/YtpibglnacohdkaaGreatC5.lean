/- The law FnExactPutBlob holds: the call returns true for every input, and leaves its arguments alone. -/
import Derived.Test.YtpibglnacohdkaaGreatC4
import Derived.Test.YtpibglnacohdkaaGreatRows
import Derived.Test.YtpibglnacohdkaaGreatChecked
set_option linter.unusedVariables false
set_option linter.unusedSimpArgs false
set_option maxRecDepth 20000
set_option maxHeartbeats 400000
namespace Go.Proofs.YtpibglnacohdkaaGreat
open Go Go.ChangeShapes Go.WideShapes Go.ChangeAt Go.RowKit
open Flat (enc)
theorem Tryz.own : ownKnob Tryz.prog.godebug = none := by kernel_rfl
theorem Tryz.laidOut : laidOutB Tryz.prog = true := by kernel_rfl
theorem op5 : Tk Tryz.prog 5 UInt8 := yQ Tryz.underlying5
theorem op27 : Tk Tryz.prog 27 (Vector UInt8 32) := zR Tryz.underlying27 op5 (by kernel_rfl) (by kernel_rfl)
theorem op22 : Tk Tryz.prog 22 (List (Vector UInt8 32)) := T9 Tryz.underlying22 op27 (by kernel_rfl) (by decide)
theorem op40 : Tk Tryz.prog 40 (List UInt8) := T9 Tryz.underlying40 op5 (by kernel_rfl) (by decide)
theorem op23 : Tk Tryz.prog 23 (List (List UInt8)) := T9 Tryz.underlying23 op40 (by kernel_rfl) (by decide)
theorem op2 : Tk Tryz.prog 2 Int := jG Tryz.underlying2
theorem op24 : Tk Tryz.prog 24 (List Int) := T9 Tryz.underlying24 op2 (by kernel_rfl) (by decide)
theorem op26 : Tk Tryz.prog 26 GBlobs := by
  intro H en w base held fuel cs x h
  obtain ⟨y, h1, h2, h3⟩ := AL (α := (List (Vector UInt8 32)) × (List (List UInt8)) × (List Int)) Tryz.underlying26 (by kernel_rfl) (JT rfl (by kernel_rfl) op22 (JT rfl (by kernel_rfl) op23 (yJ rfl (by kernel_rfl) op24))) h
  exact ⟨⟨y.1, y.2.1, y.2.2⟩, h1, h2, h3⟩
set_option maxRecDepth 100000 in
theorem QR (os : Os) (started : os.Started) (H : Type) (enc : TypeId × Value → H) :
    ReturnsInHanded {} Tryz.checked os 4 .any (Rows.fnExactPutBlobSpec.pre6 enc Tryz.prog Tryz.f4 Rows.fnExactPutBlobRow.domain false) (Rows.fnExactPutBlobSpec.post enc Tryz.prog Tryz.f4 false true false false) := by
  refine returnsInHanded_of_change (C := Tryz.checked) Tryz.own started (by kernel_rfl) Tryz.func4
    (ChangeSpec.witness6 (enc := enc) (C := Tryz.checked) false ⟨#[], #[.agg (cat [[.slice none 0 0], [.slice none 0 0], [.slice none 0 0]]).toArray, .slice none 0 0], []⟩ 8 (by kernel_rfl) (by kernel_rfl) (by kernel_rfl) (by kernel_rfl)) ?_
  intro W base args ds gs before hval0 hW _ _
  have hval : ∀ (j : Nat) t v, Tryz.f4.params[j]? = some t → args[j]? = some v → Value.okWide Tryz.prog W .any base t v := hval0
  have hW' := hW
  obtain ⟨p, q, hA0, hV, hbef, hfz, hnd⟩ := hW
  have hA : DataW.TrodAll enc Tryz.prog W 0 (fun _ => true) true Tryz.f4.params.toList args.toList ds p := hA0
  rw [Tryz.params4] at hA hval
  obtain ⟨v0, v1, d0, d1, p0, p1, rfl, rfl, rfl, h0, h1⟩ := trodAll_two hA
  obtain ⟨rfl, _⟩ := trodVars_none hV
  obtain ⟨c0, rfl, _⟩ := okWide_struct Tryz.underlying26 (hval 0 26 v0 rfl rfl)
  obtain ⟨x0, r0, b0, z0⟩ := qj op26 h0
  obtain ⟨u0_0, u0_1, u0_2, q0, s0_0, s0_1, s0_2⟩ := Kh r0
  obtain rfl := B8 q0
  have e1 : v1.cells.toList = [v1] := by obtain ⟨_, _, _, rfl⟩ := okWide_slice Tryz.underlying40 (hval 1 40 v1 rfl rfl); rfl
  obtain ⟨x1, r1, b1, z1⟩ := qo op40 e1 h1
  refine (QO W x0 u0_0 s0_0 u0_1 s0_1 u0_2 s0_2 x1 v1 r1 true (KH x0 x1 b0 b1)).mono fun e W' h => ?_
  obtain ⟨v, rfl, rfl, hK⟩ := h
  exact ⟨_, rfl, kQ rfl hW' rfl Tryz.underlying4 rfl Tryz.laidOut (by rw [Tryz.params4]; intro t ht; simp only [List.mem_cons, List.not_mem_nil, or_false] at ht; rcases ht with rfl | rfl <;> exact ⟨by kernel_rfl, of_decide_eq_true (by kernel_rfl)⟩) hK⟩
theorem q1 : Program.inPlace Tryz.pinned.checked.prog 4 = Rows.fnExactPutBlobRow.inPlace := by kernel_rfl
theorem q2 : Program.unfollowed Tryz.pinned.checked.prog 4 = Rows.fnExactPutBlobRow.unfollowed := by kernel_rfl
theorem q3 : Program.recurses Tryz.pinned.checked.prog 4 = Rows.fnExactPutBlobRow.recurses := by kernel_rfl
theorem q4 : Program.varsNamed Tryz.pinned.checked.prog 4 = Rows.fnExactPutBlobRow.named := by kernel_rfl
theorem q5 : laidOutB Tryz.pinned.checked.prog = true := by kernel_rfl
theorem q6 : mapsRowed Tryz.pinned.checked.prog = true := by kernel_rfl
theorem q7 : Program.stops Tryz.pinned.checked.prog = [] := by kernel_rfl
theorem q8 : Program.stopKnobs Tryz.pinned.checked.prog = [] := by kernel_rfl
theorem q9 : joinedFacts Tryz.pinned.checked.prog 4 Tryz.f4 Rows.fnExactPutBlobSpec Rows.fnExactPutBlobRow = true := by
  unfold joinedFacts
  rw [q1, q2, q3, q4, q5, q6, q7, q8]
  kernel_rfl
theorem q10 : Tryz.pinned.checked.prog.funcNamed Rows.fnExactPutBlobRow.func = some 4 := by kernel_rfl
theorem FnExactPutBlob_holds : Rows.FnExactPutBlobSaid :=
  OpenClaim.holds_of_wide 4 Tryz.f4 rfl rfl rfl rfl rfl rfl rfl ⟨rfl, rfl, rfl, rfl, rfl⟩ rfl rfl rfl rfl rfl q10 Tryz.func4 q9
    (of_decide_eq_true (by kernel_rfl)) (by unfold Func.isWrapper; rw [if_neg (by decide +kernel)]; exact ⟨rfl, rfl⟩)
    (fun os started H enc _ => QR os started H enc)
end Go.Proofs.YtpibglnacohdkaaGreat
