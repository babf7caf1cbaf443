/- The law FnExactDropRecord holds: the call returns true for every input, and leaves its arguments alone. -/
import Derived.Test.YtpibglnacohdkaaGreatC4
import Derived.Test.YtpibglnacohdkaaGreatRows
import Derived.Test.YtpibglnacohdkaaGreatChecked
set_option linter.unusedVariables false
set_option linter.unusedSimpArgs false
set_option maxRecDepth 20000
set_option maxHeartbeats 400000
namespace Go.Proofs.YtpibglnacohdkaaGreat
open Go Go.ChangeShapes Go.WideShapes Go.ChangeAt Go.RowKit
open Flat (enc)
theorem Tryz.own : ownKnob Tryz.prog.godebug = none := by kernel_rfl
theorem Tryz.laidOut : laidOutB Tryz.prog = true := by kernel_rfl
theorem op5 : Ti Tryz.prog 5 UInt8 := y0 Tryz.underlying5
theorem op65 : Ti Tryz.prog 65 (Vector UInt8 16) := HW Tryz.underlying65 op5 (by kernel_rfl) (by kernel_rfl)
theorem op48 : Ti Tryz.prog 48 (List (Vector UInt8 16)) := QI Tryz.underlying48 op65 (by kernel_rfl) (by decide)
theorem op2 : Ti Tryz.prog 2 Int := kE Tryz.underlying2
theorem op40 : Ti Tryz.prog 40 (List UInt8) := QI Tryz.underlying40 op5 (by kernel_rfl) (by decide)
theorem op27 : Ti Tryz.prog 27 (Vector UInt8 32) := HW Tryz.underlying27 op5 (by kernel_rfl) (by kernel_rfl)
theorem op178 : Ti Tryz.prog 178 GRecord := by
  intro H en w base held fuel cs x h
  obtain ⟨y, h1, h2, h3⟩ := QZ (α := Int × Int × (Vector UInt8 16) × (List UInt8) × (List UInt8) × (Vector UInt8 32)) Tryz.underlying178 (by kernel_rfl) (XY rfl (by kernel_rfl) op2 (XY rfl (by kernel_rfl) op2 (XY rfl (by kernel_rfl) op65 (XY rfl (by kernel_rfl) op40 (XY rfl (by kernel_rfl) op40 (K5 rfl (by kernel_rfl) op27)))))) h
  exact ⟨⟨y.1, y.2.1, y.2.2.1, y.2.2.2.1, y.2.2.2.2.1, y.2.2.2.2.2⟩, h1, h2, h3⟩
theorem op49 : Ti Tryz.prog 49 (List GRecord) := QI Tryz.underlying49 op178 (by kernel_rfl) (by decide)
theorem op183 : Ti Tryz.prog 183 GEvent := by
  intro H en w base held fuel cs x h
  obtain ⟨y, h1, h2, h3⟩ := QZ (α := Int × Int × (Vector UInt8 32)) Tryz.underlying183 (by kernel_rfl) (XY rfl (by kernel_rfl) op2 (XY rfl (by kernel_rfl) op2 (K5 rfl (by kernel_rfl) op27))) h
  obtain ⟨c0, d0, f0, g0, rfl, _, ⟨rfl, _⟩, k0⟩ := h1
  obtain ⟨c1, d1, f1, g1, rfl, _, ⟨rfl, _⟩, k1⟩ := k0
  obtain ⟨rfl, _⟩ := k1
  exact ⟨⟨y.1, y.2.1, y.2.2⟩, ⟨rfl, rfl⟩, h2, h3⟩
theorem op50 : Ti Tryz.prog 50 (List GEvent) := QI Tryz.underlying50 op183 (by kernel_rfl) (by decide)
theorem op52 : Ti Tryz.prog 52 GVault := by
  intro H en w base held fuel cs x h
  obtain ⟨y, h1, h2, h3⟩ := QZ (α := (List (Vector UInt8 16)) × Int × (List GRecord) × (List GEvent) × (Vector UInt8 32)) Tryz.underlying52 (by kernel_rfl) (XY rfl (by kernel_rfl) op48 (XY rfl (by kernel_rfl) op2 (XY rfl (by kernel_rfl) op49 (XY rfl (by kernel_rfl) op50 (K5 rfl (by kernel_rfl) op27))))) h
  exact ⟨⟨y.1, y.2.1, y.2.2.1, y.2.2.2.1, y.2.2.2.2⟩, h1, h2, h3⟩
set_option maxRecDepth 100000 in
theorem QN (os : Os) (started : os.Started) (H : Type) (enc : TypeId × Value → H) :
    ReturnsInHanded {} Tryz.checked os 5 .any (Rows.fnExactDropRecordSpec.pre6 enc Tryz.prog Tryz.f5 Rows.fnExactDropRecordRow.domain false) (Rows.fnExactDropRecordSpec.post enc Tryz.prog Tryz.f5 false true false false) := by
  refine returnsInHanded_of_change (C := Tryz.checked) Tryz.own started (by kernel_rfl) Tryz.func5
    (ChangeSpec.witness6 (enc := enc) (C := Tryz.checked) false ⟨#[], #[.agg (cat [[.slice none 0 0], (Flat.enc (0 : Int)), [.slice none 0 0], [.slice none 0 0], (Flat.enc (Vector.replicate 32 (0 : UInt8)))]).toArray, .int .i64 0], []⟩ 8 (by kernel_rfl) (by kernel_rfl) (by kernel_rfl) (by kernel_rfl)) ?_
  intro W base args ds gs before hval0 hW _ _
  have hval : ∀ (j : Nat) t v, Tryz.f5.params[j]? = some t → args[j]? = some v → Value.okWide Tryz.prog W .any base t v := hval0
  have hW' := hW
  obtain ⟨p, q, hA0, hV, hbef, hfz, hnd⟩ := hW
  have hA : DataW.TrodAll enc Tryz.prog W 0 (fun _ => true) true Tryz.f5.params.toList args.toList ds p := hA0
  rw [Tryz.params5] at hA hval
  obtain ⟨v0, v1, d0, d1, p0, p1, rfl, rfl, rfl, h0, h1⟩ := trodAll_two hA
  obtain ⟨rfl, _⟩ := trodVars_none hV
  obtain ⟨c0, rfl, _⟩ := okWide_struct Tryz.underlying52 (hval 0 52 v0 rfl rfl)
  obtain ⟨x0, r0, b0, z0⟩ := Zbc op52 h0
  obtain ⟨u0_0, u0_1, u0_2, q0, s0_0, s0_1, s0_2⟩ := zl r0
  obtain rfl := A9 q0
  have e1 : v1.cells.toList = [v1] := by obtain ⟨_, rfl⟩ := okWide_int Tryz.underlying2 (hval 1 2 v1 rfl rfl); rfl
  obtain ⟨x1, r1, b1, z1⟩ := Zbp op2 e1 h1
  obtain rfl : v1 = vI x1 := (List.cons.inj r1.1).1
  refine (QL W x0 u0_0 s0_0 u0_1 s0_1 u0_2 s0_2 x1 true (Kk x0 x1 b0 b1)).mono fun e W' h => ?_
  obtain ⟨v, rfl, rfl, hK⟩ := h
  exact ⟨_, rfl, ql rfl hW' rfl Tryz.underlying4 rfl Tryz.laidOut (by rw [Tryz.params5]; intro t ht; simp only [List.mem_cons, List.not_mem_nil, or_false] at ht; rcases ht with rfl | rfl <;> exact ⟨by kernel_rfl, of_decide_eq_true (by kernel_rfl)⟩) hK⟩
theorem q1 : Program.inPlace Tryz.pinned.checked.prog 5 = Rows.fnExactDropRecordRow.inPlace := by kernel_rfl
theorem q2 : Program.unfollowed Tryz.pinned.checked.prog 5 = Rows.fnExactDropRecordRow.unfollowed := by kernel_rfl
theorem q3 : Program.recurses Tryz.pinned.checked.prog 5 = Rows.fnExactDropRecordRow.recurses := by kernel_rfl
theorem q4 : Program.varsNamed Tryz.pinned.checked.prog 5 = Rows.fnExactDropRecordRow.named := by kernel_rfl
theorem q5 : laidOutB Tryz.pinned.checked.prog = true := by kernel_rfl
theorem q6 : mapsRowed Tryz.pinned.checked.prog = true := by kernel_rfl
theorem q7 : Program.stops Tryz.pinned.checked.prog = [] := by kernel_rfl
theorem q8 : Program.stopKnobs Tryz.pinned.checked.prog = [] := by kernel_rfl
theorem q9 : joinedFacts Tryz.pinned.checked.prog 5 Tryz.f5 Rows.fnExactDropRecordSpec Rows.fnExactDropRecordRow = true := by
  unfold joinedFacts
  rw [q1, q2, q3, q4, q5, q6, q7, q8]
  kernel_rfl
theorem q10 : Tryz.pinned.checked.prog.funcNamed Rows.fnExactDropRecordRow.func = some 5 := by kernel_rfl
theorem FnExactDropRecord_holds : Rows.FnExactDropRecordSaid :=
  OpenClaim.holds_of_wide 5 Tryz.f5 rfl rfl rfl rfl rfl rfl rfl ⟨rfl, rfl, rfl, rfl, rfl⟩ rfl rfl rfl rfl rfl q10 Tryz.func5 q9
    (of_decide_eq_true (by kernel_rfl)) (by unfold Func.isWrapper; rw [if_neg (by decide +kernel)]; exact ⟨rfl, rfl⟩)
    (fun os started H enc _ => QN os started H enc)
end Go.Proofs.YtpibglnacohdkaaGreat
