/- The law FnExactMeetingsOf holds: the call returns true for every input, and leaves its arguments alone. -/
import Derived.Test.YtpjogonponkbmaaC4
import Derived.Test.YtpjogonponkbmaaRows
import Derived.Test.YtpjogonponkbmaaChecked
set_option linter.unusedVariables false
set_option linter.unusedSimpArgs false
set_option maxRecDepth 20000
set_option maxHeartbeats 400000
namespace Go.Proofs.Ytpjogonponkbmaa
open Go Go.ChangeShapes Go.WideShapes Go.ChangeAt Go.RowKit
open Flat (enc)
theorem Try.own : ownKnob Try.prog.godebug = none := by kernel_rfl
theorem Try.laidOut : laidOutB Try.prog = true := by kernel_rfl
theorem op2 : Ue Try.prog 2 Int := Bo Try.underlying2
theorem op5 : Ue Try.prog 5 UInt8 := HC Try.underlying5
theorem op41 : Ue Try.prog 41 (Vector UInt8 256) := Ul Try.underlying41 op5 (by kernel_rfl) (by kernel_rfl)
theorem op42 : Ue Try.prog 42 (Vector UInt8 4) := Ul Try.underlying42 op5 (by kernel_rfl) (by kernel_rfl)
theorem op43 : Ue Try.prog 43 (Vector (Vector UInt8 4) 4) := Ul Try.underlying43 op42 (by kernel_rfl) (by kernel_rfl)
theorem op44 : Ue Try.prog 44 (Vector UInt8 16) := Ul Try.underlying44 op5 (by kernel_rfl) (by kernel_rfl)
theorem op46 : Ue Try.prog 46 GCipher := by
  intro H en w base held fuel cs x h
  obtain ⟨y, h1, h2, h3⟩ := JM (α := Int × (Vector UInt8 256) × (Vector (Vector UInt8 4) 4) × (Vector UInt8 16) × Int) Try.underlying46 (by kernel_rfl) (Uk rfl (by kernel_rfl) op2 (Uk rfl (by kernel_rfl) op41 (Uk rfl (by kernel_rfl) op43 (Uk rfl (by kernel_rfl) op44 (Hw rfl (by kernel_rfl) op2))))) h
  obtain ⟨c0, d0, f0, g0, rfl, _, ⟨rfl, _⟩, k0⟩ := h1
  obtain ⟨c1, d1, f1, g1, rfl, _, ⟨rfl, _⟩, k1⟩ := k0
  obtain ⟨c2, d2, f2, g2, rfl, _, ⟨rfl, _⟩, k2⟩ := k1
  obtain ⟨c3, d3, f3, g3, rfl, _, ⟨rfl, _⟩, k3⟩ := k2
  obtain ⟨rfl, _⟩ := k3
  exact ⟨⟨y.1, y.2.1, y.2.2.1, y.2.2.2.1, y.2.2.2.2⟩, ⟨rfl, rfl⟩, h2, h3⟩
set_option maxRecDepth 100000 in
theorem Ur (os : Os) (started : os.Started) (H : Type) (enc : TypeId × Value → H) :
    ReturnsInHanded {} Try.checked os 6 .any (Rows.fnExactMeetingsOfSpec.pre6 enc Try.prog Try.f6 Rows.fnExactMeetingsOfRow.domain false) (Rows.fnExactMeetingsOfSpec.post enc Try.prog Try.f6 false true false false) := by
  refine returnsInHanded_of_change (C := Try.checked) Try.own started (by kernel_rfl) Try.func6
    (ChangeSpec.witness6 (enc := enc) (C := Try.checked) false ⟨#[], #[.agg (Flat.enc (⟨(0 : Int), (Vector.replicate 256 (0 : UInt8)), (Vector.replicate 4 (Vector.replicate 4 (0 : UInt8))), (Vector.replicate 16 (0 : UInt8)), (0 : Int)⟩ : GCipher)).toArray, .agg (Flat.enc (Vector.replicate 16 (0 : UInt8))).toArray, .agg (Flat.enc (Vector.replicate 16 (0 : UInt8))).toArray], []⟩ 8 (by kernel_rfl) (by kernel_rfl) (by kernel_rfl) (by kernel_rfl)) ?_
  intro W base args ds gs before hval0 hW _ _
  have hval : ∀ (j : Nat) t v, Try.f6.params[j]? = some t → args[j]? = some v → Value.okWide Try.prog W .any base t v := hval0
  have hW' := hW
  obtain ⟨p, q, hA0, hV, hbef, hfz, hnd⟩ := hW
  have hA : DataW.TrodAll enc Try.prog W 0 (fun _ => true) true Try.f6.params.toList args.toList ds p := hA0
  rw [Try.params6] at hA hval
  obtain ⟨v0, v1, v2, d0, d1, d2, p0, p1, p2, rfl, rfl, rfl, h0, h1, h2⟩ := trodAll_three hA
  obtain ⟨rfl, _⟩ := trodVars_none hV
  obtain ⟨c0, rfl, _⟩ := okWide_struct Try.underlying46 (hval 0 46 v0 rfl rfl)
  obtain ⟨x0, r0, b0, z0⟩ := JD op46 h0
  obtain rfl : c0 = (Flat.enc x0).toArray := by rw [← r0.1]
  obtain ⟨c1, rfl, _⟩ := T4 Try.underlying44 (hval 1 44 v1 rfl rfl)
  obtain ⟨x1, r1, b1, z1⟩ := JD op44 h1
  obtain rfl : c1 = (Flat.enc x1).toArray := by rw [← r1.1]
  obtain ⟨c2, rfl, _⟩ := T4 Try.underlying44 (hval 2 44 v2 rfl rfl)
  obtain ⟨x2, r2, b2, z2⟩ := JD op44 h2
  obtain rfl : c2 = (Flat.enc x2).toArray := by rw [← r2.1]
  refine (Us W x0 x1 x2 true (U1 x0 x1 x2 b0 b1 b2)).mono fun e W' h => ?_
  obtain ⟨v, rfl, rfl, hK⟩ := h
  exact ⟨_, rfl, BU rfl hW' rfl Try.underlying4 rfl Try.laidOut (by rw [Try.params6]; intro t ht; simp only [List.mem_cons, List.not_mem_nil, or_false] at ht; rcases ht with rfl | rfl | rfl <;> exact ⟨by kernel_rfl, of_decide_eq_true (by kernel_rfl)⟩) hK⟩
theorem q1 : Program.inPlace Try.pinned.checked.prog 6 = Rows.fnExactMeetingsOfRow.inPlace := by kernel_rfl
theorem q2 : Program.unfollowed Try.pinned.checked.prog 6 = Rows.fnExactMeetingsOfRow.unfollowed := by kernel_rfl
theorem q3 : Program.recurses Try.pinned.checked.prog 6 = Rows.fnExactMeetingsOfRow.recurses := by kernel_rfl
theorem q4 : Program.varsNamed Try.pinned.checked.prog 6 = Rows.fnExactMeetingsOfRow.named := by kernel_rfl
theorem q5 : laidOutB Try.pinned.checked.prog = true := by kernel_rfl
theorem q6 : mapsRowed Try.pinned.checked.prog = true := by kernel_rfl
theorem q7 : Program.stops Try.pinned.checked.prog = [] := by kernel_rfl
theorem q8 : Program.stopKnobs Try.pinned.checked.prog = [] := by kernel_rfl
theorem q9 : joinedFacts Try.pinned.checked.prog 6 Try.f6 Rows.fnExactMeetingsOfSpec Rows.fnExactMeetingsOfRow = true := by
  unfold joinedFacts
  rw [q1, q2, q3, q4, q5, q6, q7, q8]
  kernel_rfl
theorem q10 : Try.pinned.checked.prog.funcNamed Rows.fnExactMeetingsOfRow.func = some 6 := by kernel_rfl
theorem FnExactMeetingsOf_holds : Rows.FnExactMeetingsOfSaid :=
  OpenClaim.holds_of_wide 6 Try.f6 rfl rfl rfl rfl rfl rfl rfl ⟨rfl, rfl, rfl, rfl, rfl⟩ rfl rfl rfl rfl rfl q10 Try.func6 q9
    (of_decide_eq_true (by kernel_rfl)) (by unfold Func.isWrapper; rw [if_neg (by decide +kernel)]; exact ⟨rfl, rfl⟩)
    (fun os started H enc _ => Ur os started H enc)
end Go.Proofs.Ytpjogonponkbmaa
