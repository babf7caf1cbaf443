/- The law FnExactDropBlob holds: the call returns true for every input, and leaves its arguments alone. -/
import Derived.Test.YtpibglnacohdkaaGreatC4
import Derived.Test.YtpibglnacohdkaaGreatRows
import Derived.Test.YtpibglnacohdkaaGreatChecked
set_option linter.unusedVariables false
set_option linter.unusedSimpArgs false
set_option maxRecDepth 20000
set_option maxHeartbeats 400000
namespace Go.Proofs.YtpibglnacohdkaaGreat
open Go Go.ChangeShapes Go.WideShapes Go.ChangeAt Go.RowKit
open Flat (enc)
theorem Tryz.own : ownKnob Tryz.prog.godebug = none := by kernel_rfl
theorem Tryz.laidOut : laidOutB Tryz.prog = true := by kernel_rfl
theorem op5 : Ti Tryz.prog 5 UInt8 := yl Tryz.underlying5
theorem op27 : Ti Tryz.prog 27 (Vector UInt8 32) := A2 Tryz.underlying27 op5 (by kernel_rfl) (by kernel_rfl)
theorem op22 : Ti Tryz.prog 22 (List (Vector UInt8 32)) := T4 Tryz.underlying22 op27 (by kernel_rfl) (by decide)
theorem op40 : Ti Tryz.prog 40 (List UInt8) := T4 Tryz.underlying40 op5 (by kernel_rfl) (by decide)
theorem op23 : Ti Tryz.prog 23 (List (List UInt8)) := T4 Tryz.underlying23 op40 (by kernel_rfl) (by decide)
theorem op2 : Ti Tryz.prog 2 Int := jj Tryz.underlying2
theorem op24 : Ti Tryz.prog 24 (List Int) := T4 Tryz.underlying24 op2 (by kernel_rfl) (by decide)
theorem op26 : Ti Tryz.prog 26 GBlobs := by
  intro H en w base held fuel cs x h
  obtain ⟨y, h1, h2, h3⟩ := Ah (α := (List (Vector UInt8 32)) × (List (List UInt8)) × (List Int)) Tryz.underlying26 (by kernel_rfl) (JU rfl (by kernel_rfl) op22 (JU rfl (by kernel_rfl) op23 (yI rfl (by kernel_rfl) op24))) h
  exact ⟨⟨y.1, y.2.1, y.2.2⟩, h1, h2, h3⟩
set_option maxRecDepth 100000 in
theorem Qv (os : Os) (started : os.Started) (H : Type) (enc : TypeId × Value → H) :
    ReturnsInHanded {} Tryz.checked os 3 .any (Rows.fnExactDropBlobSpec.pre6 enc Tryz.prog Tryz.f3 Rows.fnExactDropBlobRow.domain false) (Rows.fnExactDropBlobSpec.post enc Tryz.prog Tryz.f3 false true false false) := by
  refine returnsInHanded_of_change (C := Tryz.checked) Tryz.own started (by kernel_rfl) Tryz.func3
    (ChangeSpec.witness6 (enc := enc) (C := Tryz.checked) false ⟨#[], #[.agg (cat [[.slice none 0 0], [.slice none 0 0], [.slice none 0 0]]).toArray, .agg (Flat.enc (Vector.replicate 32 (0 : UInt8))).toArray], []⟩ 8 (by kernel_rfl) (by kernel_rfl) (by kernel_rfl) (by kernel_rfl)) ?_
  intro W base args ds gs before hval0 hW _ _
  have hval : ∀ (j : Nat) t v, Tryz.f3.params[j]? = some t → args[j]? = some v → Value.okWide Tryz.prog W .any base t v := hval0
  have hW' := hW
  obtain ⟨p, q, hA0, hV, hbef, hfz, hnd⟩ := hW
  have hA : DataW.TrodAll enc Tryz.prog W 0 (fun _ => true) true Tryz.f3.params.toList args.toList ds p := hA0
  rw [Tryz.params3] at hA hval
  obtain ⟨v0, v1, d0, d1, p0, p1, rfl, rfl, rfl, h0, h1⟩ := trodAll_two hA
  obtain ⟨rfl, _⟩ := trodVars_none hV
  obtain ⟨c0, rfl, _⟩ := okWide_struct Tryz.underlying26 (hval 0 26 v0 rfl rfl)
  obtain ⟨x0, r0, b0, z0⟩ := y0 op26 h0
  obtain ⟨u0_0, u0_1, u0_2, q0, s0_0, s0_1, s0_2⟩ := WN r0
  obtain rfl := Aa q0
  obtain ⟨c1, rfl, _⟩ := AQ Tryz.underlying27 (hval 1 27 v1 rfl rfl)
  obtain ⟨x1, r1, b1, z1⟩ := y0 op27 h1
  obtain rfl : c1 = (Flat.enc x1).toArray := by rw [← r1.1]
  refine (Qr W x0 u0_0 s0_0 u0_1 s0_1 u0_2 s0_2 x1 true (Ka x0 x1 b0 b1)).mono fun e W' h => ?_
  obtain ⟨v, rfl, rfl, hK⟩ := h
  exact ⟨_, rfl, ky rfl hW' rfl Tryz.underlying4 rfl Tryz.laidOut (by rw [Tryz.params3]; intro t ht; simp only [List.mem_cons, List.not_mem_nil, or_false] at ht; rcases ht with rfl | rfl <;> exact ⟨by kernel_rfl, of_decide_eq_true (by kernel_rfl)⟩) hK⟩
theorem q1 : Program.inPlace Tryz.pinned.checked.prog 3 = Rows.fnExactDropBlobRow.inPlace := by kernel_rfl
theorem q2 : Program.unfollowed Tryz.pinned.checked.prog 3 = Rows.fnExactDropBlobRow.unfollowed := by kernel_rfl
theorem q3 : Program.recurses Tryz.pinned.checked.prog 3 = Rows.fnExactDropBlobRow.recurses := by kernel_rfl
theorem q4 : Program.varsNamed Tryz.pinned.checked.prog 3 = Rows.fnExactDropBlobRow.named := by kernel_rfl
theorem q5 : laidOutB Tryz.pinned.checked.prog = true := by kernel_rfl
theorem q6 : mapsRowed Tryz.pinned.checked.prog = true := by kernel_rfl
theorem q7 : Program.stops Tryz.pinned.checked.prog = [] := by kernel_rfl
theorem q8 : Program.stopKnobs Tryz.pinned.checked.prog = [] := by kernel_rfl
theorem q9 : joinedFacts Tryz.pinned.checked.prog 3 Tryz.f3 Rows.fnExactDropBlobSpec Rows.fnExactDropBlobRow = true := by
  unfold joinedFacts
  rw [q1, q2, q3, q4, q5, q6, q7, q8]
  kernel_rfl
theorem q10 : Tryz.pinned.checked.prog.funcNamed Rows.fnExactDropBlobRow.func = some 3 := by kernel_rfl
theorem FnExactDropBlob_holds : Rows.FnExactDropBlobSaid :=
  OpenClaim.holds_of_wide 3 Tryz.f3 rfl rfl rfl rfl rfl rfl rfl ⟨rfl, rfl, rfl, rfl, rfl⟩ rfl rfl rfl rfl rfl q10 Tryz.func3 q9
    (of_decide_eq_true (by kernel_rfl)) (by unfold Func.isWrapper; rw [if_neg (by decide +kernel)]; exact ⟨rfl, rfl⟩)
    (fun os started H enc _ => Qv os started H enc)
end Go.Proofs.YtpibglnacohdkaaGreat
