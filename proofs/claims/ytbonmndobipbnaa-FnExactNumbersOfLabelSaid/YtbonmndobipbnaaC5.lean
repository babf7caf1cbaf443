/- The law FnExactNumbersOfLabel holds: the call returns true for every input, and leaves its arguments alone. -/
import Derived.Test.YtbonmndobipbnaaC4
import Derived.Test.YtbonmndobipbnaaRows
import Derived.Test.YtbonmndobipbnaaChecked
set_option linter.unusedVariables false
set_option linter.unusedSimpArgs false
namespace Go.Proofs.Ytbonmndobipbnaa
open Go Go.ChangeShapes Go.WideShapes Go.ChangeAt Go.RowKit
theorem Try.own : ownKnob Try.prog.godebug = none := by kernel_rfl
theorem Try.laidOut : laidOutB Try.prog = true := by kernel_rfl
theorem op5 : Opens Try.prog 5 UInt8 := opens_byte Try.underlying5
theorem op103 : Opens Try.prog 103 (Vector UInt8 16) := opens_array Try.underlying103 op5 (by kernel_rfl) (by kernel_rfl)
theorem op36 : Opens Try.prog 36 (List (Vector UInt8 16)) := opens_slice Try.underlying36 op103 (by kernel_rfl) (by decide)
theorem op2 : Opens Try.prog 2 Int := opens_int Try.underlying2
theorem op29 : Opens Try.prog 29 (List UInt8) := opens_slice Try.underlying29 op5 (by kernel_rfl) (by decide)
theorem op39 : Opens Try.prog 39 (Vector UInt8 32) := opens_array Try.underlying39 op5 (by kernel_rfl) (by kernel_rfl)
theorem op140 : Opens Try.prog 140 GRecord := by
  intro H en w base held fuel cs x h
  obtain ⟨y, h1, h2, h3⟩ := opens_struct (α := Int × Int × (Vector UInt8 16) × (List UInt8) × (List UInt8) × (Vector UInt8 32)) Try.underlying140 (by kernel_rfl) (opensF_cons rfl (by kernel_rfl) op2 (opensF_cons rfl (by kernel_rfl) op2 (opensF_cons rfl (by kernel_rfl) op103 (opensF_cons rfl (by kernel_rfl) op29 (opensF_cons rfl (by kernel_rfl) op29 (opensF_one rfl (by kernel_rfl) op39)))))) h
  exact ⟨⟨y.1, y.2.1, y.2.2.1, y.2.2.2.1, y.2.2.2.2.1, y.2.2.2.2.2⟩, h1, h2, h3⟩
theorem op37 : Opens Try.prog 37 (List GRecord) := opens_slice Try.underlying37 op140 (by kernel_rfl) (by decide)
theorem op145 : Opens Try.prog 145 GEvent := by
  intro H en w base held fuel cs x h
  obtain ⟨y, h1, h2, h3⟩ := opens_struct (α := Int × Int × (Vector UInt8 32)) Try.underlying145 (by kernel_rfl) (opensF_cons rfl (by kernel_rfl) op2 (opensF_cons rfl (by kernel_rfl) op2 (opensF_one rfl (by kernel_rfl) op39))) h
  obtain ⟨c0, d0, f0, g0, rfl, _, ⟨rfl, _⟩, k0⟩ := h1
  obtain ⟨c1, d1, f1, g1, rfl, _, ⟨rfl, _⟩, k1⟩ := k0
  obtain ⟨rfl, _⟩ := k1
  exact ⟨⟨y.1, y.2.1, y.2.2⟩, ⟨rfl, rfl⟩, h2, h3⟩
theorem op38 : Opens Try.prog 38 (List GEvent) := opens_slice Try.underlying38 op145 (by kernel_rfl) (by decide)
theorem op41 : Opens Try.prog 41 GVault := by
  intro H en w base held fuel cs x h
  obtain ⟨y, h1, h2, h3⟩ := opens_struct (α := (List (Vector UInt8 16)) × Int × (List GRecord) × (List GEvent) × (Vector UInt8 32)) Try.underlying41 (by kernel_rfl) (opensF_cons rfl (by kernel_rfl) op36 (opensF_cons rfl (by kernel_rfl) op2 (opensF_cons rfl (by kernel_rfl) op37 (opensF_cons rfl (by kernel_rfl) op38 (opensF_one rfl (by kernel_rfl) op39))))) h
  exact ⟨⟨y.1, y.2.1, y.2.2.1, y.2.2.2.1, y.2.2.2.2⟩, h1, h2, h3⟩
set_option maxRecDepth 100000 in
theorem FnExactNumbersOfLabel_lifted (os : Os) (started : os.Started) (H : Type) (enc : TypeId × Value → H) :
    ReturnsInHanded {} Try.checked os 12 .any (Rows.fnExactNumbersOfLabelSpec.pre6 enc Try.prog Try.f12 Rows.fnExactNumbersOfLabelRow.domain false) (Rows.fnExactNumbersOfLabelSpec.post enc Try.prog Try.f12 false true false false) := by
  refine returnsInHanded_of_change (C := Try.checked) Try.own started (by kernel_rfl) Try.func12
    (ChangeSpec.witness6 (enc := enc) (C := Try.checked) false ⟨#[], #[.agg (cat [[.slice none 0 0], (Flat.enc (0 : Int)), [.slice none 0 0], [.slice none 0 0], (Flat.enc (Vector.replicate 32 (0 : UInt8)))]).toArray, .slice none 0 0], []⟩ 8 (by kernel_rfl) (by kernel_rfl) (by kernel_rfl) (by kernel_rfl)) ?_
  intro W base args ds gs before hval0 hW _ _
  have hval : ∀ (j : Nat) t v, Try.f12.params[j]? = some t → args[j]? = some v → Value.okWide Try.prog W .any base t v := hval0
  have hW' := hW
  obtain ⟨p, q, hA0, hV, hbef, hfz, hnd⟩ := hW
  have hA : DataW.TrodAll enc Try.prog W 0 (fun _ => true) true Try.f12.params.toList args.toList ds p := hA0
  rw [Try.params12] at hA hval
  obtain ⟨v0, v1, d0, d1, p0, p1, rfl, rfl, rfl, h0, h1⟩ := trodAll_two hA
  obtain ⟨rfl, _⟩ := trodVars_none hV
  obtain ⟨c0, rfl, _⟩ := okWide_struct Try.underlying41 (hval 0 41 v0 rfl rfl)
  obtain ⟨x0, r0, b0, z0⟩ := arg_agg op41 h0
  obtain ⟨u0_0, u0_1, u0_2, q0, s0_0, s0_1, s0_2⟩ := un_GVault r0
  obtain rfl := toList_eq q0
  have e1 : v1.cells.toList = [v1] := by obtain ⟨_, _, _, rfl⟩ := okWide_slice Try.underlying29 (hval 1 29 v1 rfl rfl); rfl
  obtain ⟨x1, r1, b1, z1⟩ := arg_one op29 e1 h1
  refine (c_laws_FnExactNumbersOfLabel W x0 u0_0 s0_0 u0_1 s0_1 u0_2 s0_2 x1 v1 r1 true (law_FnExactNumbersOfLabel x0 x1 b0 b1)).mono fun e W' h => ?_
  obtain ⟨v, rfl, rfl, hK⟩ := h
  exact ⟨_, rfl, law_post rfl hW' rfl Try.underlying4 rfl Try.laidOut (by rw [Try.params12]; intro t ht; simp only [List.mem_cons, List.not_mem_nil, or_false] at ht; rcases ht with rfl | rfl <;> exact ⟨by kernel_rfl, of_decide_eq_true (by kernel_rfl)⟩) hK⟩
theorem FnExactNumbersOfLabel_holds : Rows.FnExactNumbersOfLabelSaid :=
  OpenClaim.holds_of_wide 12 Try.f12 rfl rfl rfl rfl rfl rfl rfl ⟨rfl, rfl, rfl, rfl, rfl⟩ rfl rfl rfl rfl rfl (by kernel_rfl) Try.func12 (by kernel_rfl)
    (of_decide_eq_true (by kernel_rfl)) (by unfold Func.isWrapper; rw [if_neg (by decide +kernel)]; exact ⟨rfl, rfl⟩)
    (fun os started H enc _ => FnExactNumbersOfLabel_lifted os started H enc)
end Go.Proofs.Ytbonmndobipbnaa
