/- The law FnExactOpenRecord holds: the call returns true for every input, and leaves its arguments alone. -/
import Derived.Test.YtifdeoikcebbjaaGreatC5
import Derived.Test.YtifdeoikcebbjaaGreatRows
import Derived.Test.YtifdeoikcebbjaaGreatChecked
set_option linter.unusedVariables false
set_option linter.unusedSimpArgs false
set_option maxRecDepth 20000
set_option maxHeartbeats 400000
namespace Go.Proofs.YtifdeoikcebbjaaGreat
open Go Go.ChangeShapes Go.WideShapes Go.ChangeAt Go.RowKit
open Flat (enc)
theorem Tryz.own : ownKnob Tryz.prog.godebug = none := by kernel_rfl
theorem Tryz.laidOut : laidOutB Tryz.prog = true := by kernel_rfl
theorem op5 : Tb Tryz.prog 5 UInt8 := yS Tryz.underlying5
theorem op67 : Tb Tryz.prog 67 (Vector UInt8 16) := HI Tryz.underlying67 op5 (by kernel_rfl) (by kernel_rfl)
theorem op22 : Tb Tryz.prog 22 (List (Vector UInt8 16)) := Qw Tryz.underlying22 op67 (by kernel_rfl) (by decide)
theorem op2 : Tb Tryz.prog 2 Int := jR Tryz.underlying2
theorem op57 : Tb Tryz.prog 57 (List UInt8) := Qw Tryz.underlying57 op5 (by kernel_rfl) (by decide)
theorem op25 : Tb Tryz.prog 25 (Vector UInt8 32) := HI Tryz.underlying25 op5 (by kernel_rfl) (by kernel_rfl)
theorem op160 : Tb Tryz.prog 160 GRecord := by
  intro H en w base held fuel cs x h
  obtain ⟨y, h1, h2, h3⟩ := QS (α := Int × Int × (Vector UInt8 16) × (List UInt8) × (List UInt8) × (Vector UInt8 32)) Tryz.underlying160 (by kernel_rfl) (XK rfl (by kernel_rfl) op2 (XK rfl (by kernel_rfl) op2 (XK rfl (by kernel_rfl) op67 (XK rfl (by kernel_rfl) op57 (XK rfl (by kernel_rfl) op57 (Jn rfl (by kernel_rfl) op25)))))) h
  exact ⟨⟨y.1, y.2.1, y.2.2.1, y.2.2.2.1, y.2.2.2.2.1, y.2.2.2.2.2⟩, h1, h2, h3⟩
theorem op23 : Tb Tryz.prog 23 (List GRecord) := Qw Tryz.underlying23 op160 (by kernel_rfl) (by decide)
theorem op179 : Tb Tryz.prog 179 GEvent := by
  intro H en w base held fuel cs x h
  obtain ⟨y, h1, h2, h3⟩ := QS (α := Int × Int × (Vector UInt8 32)) Tryz.underlying179 (by kernel_rfl) (XK rfl (by kernel_rfl) op2 (XK rfl (by kernel_rfl) op2 (Jn rfl (by kernel_rfl) op25))) h
  obtain ⟨c0, d0, f0, g0, rfl, _, ⟨rfl, _⟩, k0⟩ := h1
  obtain ⟨c1, d1, f1, g1, rfl, _, ⟨rfl, _⟩, k1⟩ := k0
  obtain ⟨rfl, _⟩ := k1
  exact ⟨⟨y.1, y.2.1, y.2.2⟩, ⟨rfl, rfl⟩, h2, h3⟩
theorem op24 : Tb Tryz.prog 24 (List GEvent) := Qw Tryz.underlying24 op179 (by kernel_rfl) (by decide)
theorem op27 : Tb Tryz.prog 27 GVault := by
  intro H en w base held fuel cs x h
  obtain ⟨y, h1, h2, h3⟩ := QS (α := (List (Vector UInt8 16)) × Int × (List GRecord) × (List GEvent) × (Vector UInt8 32)) Tryz.underlying27 (by kernel_rfl) (XK rfl (by kernel_rfl) op22 (XK rfl (by kernel_rfl) op2 (XK rfl (by kernel_rfl) op23 (XK rfl (by kernel_rfl) op24 (Jn rfl (by kernel_rfl) op25))))) h
  exact ⟨⟨y.1, y.2.1, y.2.2.1, y.2.2.2.1, y.2.2.2.2⟩, h1, h2, h3⟩
set_option maxRecDepth 100000 in
theorem Qz (os : Os) (started : os.Started) (H : Type) (enc : TypeId × Value → H) :
    ReturnsInHanded {} Tryz.checked os 5 .any (Rows.fnExactOpenRecordSpec.pre6 enc Tryz.prog Tryz.f5 Rows.fnExactOpenRecordRow.domain false) (Rows.fnExactOpenRecordSpec.post enc Tryz.prog Tryz.f5 false true false false) := by
  refine returnsInHanded_of_change (C := Tryz.checked) Tryz.own started (by kernel_rfl) Tryz.func5
    (ChangeSpec.witness6 (enc := enc) (C := Tryz.checked) false ⟨#[], #[.agg (cat [[.slice none 0 0], (Flat.enc (0 : Int)), [.slice none 0 0], [.slice none 0 0], (Flat.enc (Vector.replicate 32 (0 : UInt8)))]).toArray, .int .i64 0], []⟩ 8 (by kernel_rfl) (by kernel_rfl) (by kernel_rfl) (by kernel_rfl)) ?_
  intro W base args ds gs before hval0 hW _ _
  have hval : ∀ (j : Nat) t v, Tryz.f5.params[j]? = some t → args[j]? = some v → Value.okWide Tryz.prog W .any base t v := hval0
  have hW' := hW
  obtain ⟨p, q, hA0, hV, hbef, hfz, hnd⟩ := hW
  have hA : DataW.TrodAll enc Tryz.prog W 0 (fun _ => true) true Tryz.f5.params.toList args.toList ds p := hA0
  rw [Tryz.params5] at hA hval
  obtain ⟨v0, v1, d0, d1, p0, p1, rfl, rfl, rfl, h0, h1⟩ := trodAll_two hA
  obtain ⟨rfl, _⟩ := trodVars_none hV
  obtain ⟨c0, rfl, _⟩ := okWide_struct Tryz.underlying27 (hval 0 27 v0 rfl rfl)
  obtain ⟨x0, r0, b0, z0⟩ := qD op27 h0
  obtain ⟨u0_0, u0_1, u0_2, q0, s0_0, s0_1, s0_2⟩ := AM r0
  obtain rfl := AP q0
  have e1 : v1.cells.toList = [v1] := by obtain ⟨_, rfl⟩ := okWide_int Tryz.underlying2 (hval 1 2 v1 rfl rfl); rfl
  obtain ⟨x1, r1, b1, z1⟩ := qv op2 e1 h1
  obtain rfl : v1 = vI x1 := (List.cons.inj r1.1).1
  refine (QC W x0 u0_0 s0_0 u0_1 s0_1 u0_2 s0_2 x1 true (Q7 x0 x1 b0 b1)).mono fun e W' h => ?_
  obtain ⟨v, rfl, rfl, hK⟩ := h
  exact ⟨_, rfl, k9 rfl hW' rfl Tryz.underlying4 rfl Tryz.laidOut (by rw [Tryz.params5]; intro t ht; simp only [List.mem_cons, List.not_mem_nil, or_false] at ht; rcases ht with rfl | rfl <;> exact ⟨by kernel_rfl, of_decide_eq_true (by kernel_rfl)⟩) hK⟩
theorem q1 : Program.inPlace Tryz.pinned.checked.prog 5 = Rows.fnExactOpenRecordRow.inPlace := by kernel_rfl
theorem q2 : Program.unfollowed Tryz.pinned.checked.prog 5 = Rows.fnExactOpenRecordRow.unfollowed := by kernel_rfl
theorem q3 : Program.recurses Tryz.pinned.checked.prog 5 = Rows.fnExactOpenRecordRow.recurses := by kernel_rfl
theorem q4 : Program.varsNamed Tryz.pinned.checked.prog 5 = Rows.fnExactOpenRecordRow.named := by kernel_rfl
theorem q5 : laidOutB Tryz.pinned.checked.prog = true := by kernel_rfl
theorem q6 : mapsRowed Tryz.pinned.checked.prog = true := by kernel_rfl
theorem q7 : Program.stops Tryz.pinned.checked.prog = [] := by kernel_rfl
theorem q8 : Program.stopKnobs Tryz.pinned.checked.prog = [] := by kernel_rfl
theorem q9 : joinedFacts Tryz.pinned.checked.prog 5 Tryz.f5 Rows.fnExactOpenRecordSpec Rows.fnExactOpenRecordRow = true := by
  unfold joinedFacts
  rw [q1, q2, q3, q4, q5, q6, q7, q8]
  kernel_rfl
theorem q10 : Tryz.pinned.checked.prog.funcNamed Rows.fnExactOpenRecordRow.func = some 5 := by kernel_rfl
theorem FnExactOpenRecord_holds : Rows.FnExactOpenRecordSaid :=
  OpenClaim.holds_of_wide 5 Tryz.f5 rfl rfl rfl rfl rfl rfl rfl ⟨rfl, rfl, rfl, rfl, rfl⟩ rfl rfl rfl rfl rfl q10 Tryz.func5 q9
    (of_decide_eq_true (by kernel_rfl)) (by unfold Func.isWrapper; rw [if_neg (by decide +kernel)]; exact ⟨rfl, rfl⟩)
    (fun os started H enc _ => Qz os started H enc)
end Go.Proofs.YtifdeoikcebbjaaGreat
