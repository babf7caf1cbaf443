/- The law FnExactRotateKey holds: the call returns true for every input, and leaves its arguments alone. -/
import Derived.Test.YtifdeoikcebbjaaGreatC5
import Derived.Test.YtifdeoikcebbjaaGreatRows
import Derived.Test.YtifdeoikcebbjaaGreatChecked
set_option linter.unusedVariables false
set_option linter.unusedSimpArgs false
set_option maxRecDepth 20000
set_option maxHeartbeats 400000
namespace Go.Proofs.YtifdeoikcebbjaaGreat
open Go Go.ChangeShapes Go.WideShapes Go.ChangeAt Go.RowKit
open Flat (enc)
theorem Tryz.own : ownKnob Tryz.prog.godebug = none := by kernel_rfl
theorem Tryz.laidOut : laidOutB Tryz.prog = true := by kernel_rfl
theorem op5 : Tt Tryz.prog 5 UInt8 := yF Tryz.underlying5
theorem op67 : Tt Tryz.prog 67 (Vector UInt8 16) := HF Tryz.underlying67 op5 (by kernel_rfl) (by kernel_rfl)
theorem op22 : Tt Tryz.prog 22 (List (Vector UInt8 16)) := QD Tryz.underlying22 op67 (by kernel_rfl) (by decide)
theorem op2 : Tt Tryz.prog 2 Int := jL Tryz.underlying2
theorem op57 : Tt Tryz.prog 57 (List UInt8) := QD Tryz.underlying57 op5 (by kernel_rfl) (by decide)
theorem op25 : Tt Tryz.prog 25 (Vector UInt8 32) := HF Tryz.underlying25 op5 (by kernel_rfl) (by kernel_rfl)
theorem op160 : Tt Tryz.prog 160 GRecord := by
  intro H en w base held fuel cs x h
  obtain ⟨y, h1, h2, h3⟩ := Kb (α := Int × Int × (Vector UInt8 16) × (List UInt8) × (List UInt8) × (Vector UInt8 32)) Tryz.underlying160 (by kernel_rfl) (XW rfl (by kernel_rfl) op2 (XW rfl (by kernel_rfl) op2 (XW rfl (by kernel_rfl) op67 (XW rfl (by kernel_rfl) op57 (XW rfl (by kernel_rfl) op57 (K8 rfl (by kernel_rfl) op25)))))) h
  exact ⟨⟨y.1, y.2.1, y.2.2.1, y.2.2.2.1, y.2.2.2.2.1, y.2.2.2.2.2⟩, h1, h2, h3⟩
theorem op23 : Tt Tryz.prog 23 (List GRecord) := QD Tryz.underlying23 op160 (by kernel_rfl) (by decide)
theorem op179 : Tt Tryz.prog 179 GEvent := by
  intro H en w base held fuel cs x h
  obtain ⟨y, h1, h2, h3⟩ := Kb (α := Int × Int × (Vector UInt8 32)) Tryz.underlying179 (by kernel_rfl) (XW rfl (by kernel_rfl) op2 (XW rfl (by kernel_rfl) op2 (K8 rfl (by kernel_rfl) op25))) h
  obtain ⟨c0, d0, f0, g0, rfl, _, ⟨rfl, _⟩, k0⟩ := h1
  obtain ⟨c1, d1, f1, g1, rfl, _, ⟨rfl, _⟩, k1⟩ := k0
  obtain ⟨rfl, _⟩ := k1
  exact ⟨⟨y.1, y.2.1, y.2.2⟩, ⟨rfl, rfl⟩, h2, h3⟩
theorem op24 : Tt Tryz.prog 24 (List GEvent) := QD Tryz.underlying24 op179 (by kernel_rfl) (by decide)
theorem op27 : Tt Tryz.prog 27 GVault := by
  intro H en w base held fuel cs x h
  obtain ⟨y, h1, h2, h3⟩ := Kb (α := (List (Vector UInt8 16)) × Int × (List GRecord) × (List GEvent) × (Vector UInt8 32)) Tryz.underlying27 (by kernel_rfl) (XW rfl (by kernel_rfl) op22 (XW rfl (by kernel_rfl) op2 (XW rfl (by kernel_rfl) op23 (XW rfl (by kernel_rfl) op24 (K8 rfl (by kernel_rfl) op25))))) h
  exact ⟨⟨y.1, y.2.1, y.2.2.1, y.2.2.2.1, y.2.2.2.2⟩, h1, h2, h3⟩
set_option maxRecDepth 100000 in
theorem QR (os : Os) (started : os.Started) (H : Type) (enc : TypeId × Value → H) :
    ReturnsInHanded {} Tryz.checked os 7 .any (Rows.fnExactRotateKeySpec.pre6 enc Tryz.prog Tryz.f7 Rows.fnExactRotateKeyRow.domain false) (Rows.fnExactRotateKeySpec.post enc Tryz.prog Tryz.f7 false true false false) := by
  refine returnsInHanded_of_change (C := Tryz.checked) Tryz.own started (by kernel_rfl) Tryz.func7
    (ChangeSpec.witness6 (enc := enc) (C := Tryz.checked) false ⟨#[], #[.agg (cat [[.slice none 0 0], (Flat.enc (0 : Int)), [.slice none 0 0], [.slice none 0 0], (Flat.enc (Vector.replicate 32 (0 : UInt8)))]).toArray, .agg (Flat.enc (Vector.replicate 16 (0 : UInt8))).toArray], []⟩ 8 (by kernel_rfl) (by kernel_rfl) (by kernel_rfl) (by kernel_rfl)) ?_
  intro W base args ds gs before hval0 hW _ _
  have hval : ∀ (j : Nat) t v, Tryz.f7.params[j]? = some t → args[j]? = some v → Value.okWide Tryz.prog W .any base t v := hval0
  have hW' := hW
  obtain ⟨p, q, hA0, hV, hbef, hfz, hnd⟩ := hW
  have hA : DataW.TrodAll enc Tryz.prog W 0 (fun _ => true) true Tryz.f7.params.toList args.toList ds p := hA0
  rw [Tryz.params7] at hA hval
  obtain ⟨v0, v1, d0, d1, p0, p1, rfl, rfl, rfl, h0, h1⟩ := trodAll_two hA
  obtain ⟨rfl, _⟩ := trodVars_none hV
  obtain ⟨c0, rfl, _⟩ := okWide_struct Tryz.underlying27 (hval 0 27 v0 rfl rfl)
  obtain ⟨x0, r0, b0, z0⟩ := y8 op27 h0
  obtain ⟨u0_0, u0_1, u0_2, q0, s0_0, s0_1, s0_2⟩ := Vc r0
  obtain rfl := W8 q0
  obtain ⟨c1, rfl, _⟩ := zh Tryz.underlying67 (hval 1 67 v1 rfl rfl)
  obtain ⟨x1, r1, b1, z1⟩ := y8 op67 h1
  obtain rfl : c1 = (Flat.enc x1).toArray := by rw [← r1.1]
  refine (QQ W x0 u0_0 s0_0 u0_1 s0_1 u0_2 s0_2 x1 true (KB x0 x1 b0 b1)).mono fun e W' h => ?_
  obtain ⟨v, rfl, rfl, hK⟩ := h
  exact ⟨_, rfl, kg rfl hW' rfl Tryz.underlying4 rfl Tryz.laidOut (by rw [Tryz.params7]; intro t ht; simp only [List.mem_cons, List.not_mem_nil, or_false] at ht; rcases ht with rfl | rfl <;> exact ⟨by kernel_rfl, of_decide_eq_true (by kernel_rfl)⟩) hK⟩
theorem q1 : Program.inPlace Tryz.pinned.checked.prog 7 = Rows.fnExactRotateKeyRow.inPlace := by kernel_rfl
theorem q2 : Program.unfollowed Tryz.pinned.checked.prog 7 = Rows.fnExactRotateKeyRow.unfollowed := by kernel_rfl
theorem q3 : Program.recurses Tryz.pinned.checked.prog 7 = Rows.fnExactRotateKeyRow.recurses := by kernel_rfl
theorem q4 : Program.varsNamed Tryz.pinned.checked.prog 7 = Rows.fnExactRotateKeyRow.named := by kernel_rfl
theorem q5 : laidOutB Tryz.pinned.checked.prog = true := by kernel_rfl
theorem q6 : mapsRowed Tryz.pinned.checked.prog = true := by kernel_rfl
theorem q7 : Program.stops Tryz.pinned.checked.prog = [] := by kernel_rfl
theorem q8 : Program.stopKnobs Tryz.pinned.checked.prog = [] := by kernel_rfl
theorem q9 : joinedFacts Tryz.pinned.checked.prog 7 Tryz.f7 Rows.fnExactRotateKeySpec Rows.fnExactRotateKeyRow = true := by
  unfold joinedFacts
  rw [q1, q2, q3, q4, q5, q6, q7, q8]
  kernel_rfl
theorem q10 : Tryz.pinned.checked.prog.funcNamed Rows.fnExactRotateKeyRow.func = some 7 := by kernel_rfl
theorem FnExactRotateKey_holds : Rows.FnExactRotateKeySaid :=
  OpenClaim.holds_of_wide 7 Tryz.f7 rfl rfl rfl rfl rfl rfl rfl ⟨rfl, rfl, rfl, rfl, rfl⟩ rfl rfl rfl rfl rfl q10 Tryz.func7 q9
    (of_decide_eq_true (by kernel_rfl)) (by unfold Func.isWrapper; rw [if_neg (by decide +kernel)]; exact ⟨rfl, rfl⟩)
    (fun os started H enc _ => QR os started H enc)
end Go.Proofs.YtifdeoikcebbjaaGreat
