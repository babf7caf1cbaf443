/- The law FnExactFaultsOf holds: the call returns true for every input, and leaves its arguments alone. -/
import Derived.Test.YtpibglnacohdkaaGreatC4
import Derived.Test.YtpibglnacohdkaaGreatRows
import Derived.Test.YtpibglnacohdkaaGreatChecked
set_option linter.unusedVariables false
set_option linter.unusedSimpArgs false
set_option maxRecDepth 20000
set_option maxHeartbeats 400000
namespace Go.Proofs.YtpibglnacohdkaaGreat
open Go Go.ChangeShapes Go.WideShapes Go.ChangeAt Go.RowKit
open Flat (enc)
theorem Tryz.own : ownKnob Tryz.prog.godebug = none := by kernel_rfl
theorem Tryz.laidOut : laidOutB Tryz.prog = true := by kernel_rfl
theorem op5 : TL Tryz.prog 5 UInt8 := kW Tryz.underlying5
theorem op65 : TL Tryz.prog 65 (Vector UInt8 16) := Bz Tryz.underlying65 op5 (by kernel_rfl) (by kernel_rfl)
theorem op48 : TL Tryz.prog 48 (List (Vector UInt8 16)) := Q6 Tryz.underlying48 op65 (by kernel_rfl) (by decide)
theorem op2 : TL Tryz.prog 2 Int := qR Tryz.underlying2
theorem op40 : TL Tryz.prog 40 (List UInt8) := Q6 Tryz.underlying40 op5 (by kernel_rfl) (by decide)
theorem op27 : TL Tryz.prog 27 (Vector UInt8 32) := Bz Tryz.underlying27 op5 (by kernel_rfl) (by kernel_rfl)
theorem op178 : TL Tryz.prog 178 GRecord := by
  intro H en w base held fuel cs x h
  obtain ⟨y, h1, h2, h3⟩ := KA (α := Int × Int × (Vector UInt8 16) × (List UInt8) × (List UInt8) × (Vector UInt8 32)) Tryz.underlying178 (by kernel_rfl) (XT rfl (by kernel_rfl) op2 (XT rfl (by kernel_rfl) op2 (XT rfl (by kernel_rfl) op65 (XT rfl (by kernel_rfl) op40 (XT rfl (by kernel_rfl) op40 (JI rfl (by kernel_rfl) op27)))))) h
  exact ⟨⟨y.1, y.2.1, y.2.2.1, y.2.2.2.1, y.2.2.2.2.1, y.2.2.2.2.2⟩, h1, h2, h3⟩
theorem op49 : TL Tryz.prog 49 (List GRecord) := Q6 Tryz.underlying49 op178 (by kernel_rfl) (by decide)
theorem op183 : TL Tryz.prog 183 GEvent := by
  intro H en w base held fuel cs x h
  obtain ⟨y, h1, h2, h3⟩ := KA (α := Int × Int × (Vector UInt8 32)) Tryz.underlying183 (by kernel_rfl) (XT rfl (by kernel_rfl) op2 (XT rfl (by kernel_rfl) op2 (JI rfl (by kernel_rfl) op27))) h
  obtain ⟨c0, d0, f0, g0, rfl, _, ⟨rfl, _⟩, k0⟩ := h1
  obtain ⟨c1, d1, f1, g1, rfl, _, ⟨rfl, _⟩, k1⟩ := k0
  obtain ⟨rfl, _⟩ := k1
  exact ⟨⟨y.1, y.2.1, y.2.2⟩, ⟨rfl, rfl⟩, h2, h3⟩
theorem op50 : TL Tryz.prog 50 (List GEvent) := Q6 Tryz.underlying50 op183 (by kernel_rfl) (by decide)
theorem op52 : TL Tryz.prog 52 GVault := by
  intro H en w base held fuel cs x h
  obtain ⟨y, h1, h2, h3⟩ := KA (α := (List (Vector UInt8 16)) × Int × (List GRecord) × (List GEvent) × (Vector UInt8 32)) Tryz.underlying52 (by kernel_rfl) (XT rfl (by kernel_rfl) op48 (XT rfl (by kernel_rfl) op2 (XT rfl (by kernel_rfl) op49 (XT rfl (by kernel_rfl) op50 (JI rfl (by kernel_rfl) op27))))) h
  exact ⟨⟨y.1, y.2.1, y.2.2.1, y.2.2.2.1, y.2.2.2.2⟩, h1, h2, h3⟩
set_option maxRecDepth 100000 in
theorem Kv (os : Os) (started : os.Started) (H : Type) (enc : TypeId × Value → H) :
    ReturnsInHanded {} Tryz.checked os 8 .any (Rows.fnExactFaultsOfSpec.pre6 enc Tryz.prog Tryz.f8 Rows.fnExactFaultsOfRow.domain false) (Rows.fnExactFaultsOfSpec.post enc Tryz.prog Tryz.f8 false true false false) := by
  refine returnsInHanded_of_change (C := Tryz.checked) Tryz.own started (by kernel_rfl) Tryz.func8
    (ChangeSpec.witness6 (enc := enc) (C := Tryz.checked) false ⟨#[], #[.agg (cat [[.slice none 0 0], (Flat.enc (0 : Int)), [.slice none 0 0], [.slice none 0 0], (Flat.enc (Vector.replicate 32 (0 : UInt8)))]).toArray], []⟩ 8 (by kernel_rfl) (by kernel_rfl) (by kernel_rfl) (by kernel_rfl)) ?_
  intro W base args ds gs before hval0 hW _ _
  have hval : ∀ (j : Nat) t v, Tryz.f8.params[j]? = some t → args[j]? = some v → Value.okWide Tryz.prog W .any base t v := hval0
  have hW' := hW
  obtain ⟨p, q, hA0, hV, hbef, hfz, hnd⟩ := hW
  have hA : DataW.TrodAll enc Tryz.prog W 0 (fun _ => true) true Tryz.f8.params.toList args.toList ds p := hA0
  rw [Tryz.params8] at hA hval
  obtain ⟨v0, d0, rfl, rfl, h0⟩ := trodAll_one hA
  obtain ⟨rfl, _⟩ := trodVars_none hV
  obtain ⟨c0, rfl, _⟩ := okWide_struct Tryz.underlying52 (hval 0 52 v0 rfl rfl)
  obtain ⟨x0, r0, b0, z0⟩ := Zdp op52 h0
  obtain ⟨u0_0, u0_1, u0_2, q0, s0_0, s0_1, s0_2⟩ := yv r0
  obtain rfl := yd q0
  refine (KH W x0 u0_0 s0_0 u0_1 s0_1 u0_2 s0_2 true (Ju x0 b0)).mono fun e W' h => ?_
  obtain ⟨v, rfl, rfl, hK⟩ := h
  exact ⟨_, rfl, Zcg rfl hW' rfl Tryz.underlying4 rfl Tryz.laidOut (by rw [Tryz.params8]; intro t ht; simp only [List.mem_cons, List.not_mem_nil, or_false] at ht; subst ht <;> exact ⟨by kernel_rfl, of_decide_eq_true (by kernel_rfl)⟩) hK⟩
theorem q1 : Program.inPlace Tryz.pinned.checked.prog 8 = Rows.fnExactFaultsOfRow.inPlace := by kernel_rfl
theorem q2 : Program.unfollowed Tryz.pinned.checked.prog 8 = Rows.fnExactFaultsOfRow.unfollowed := by kernel_rfl
theorem q3 : Program.recurses Tryz.pinned.checked.prog 8 = Rows.fnExactFaultsOfRow.recurses := by kernel_rfl
theorem q4 : Program.varsNamed Tryz.pinned.checked.prog 8 = Rows.fnExactFaultsOfRow.named := by kernel_rfl
theorem q5 : laidOutB Tryz.pinned.checked.prog = true := by kernel_rfl
theorem q6 : mapsRowed Tryz.pinned.checked.prog = true := by kernel_rfl
theorem q7 : Program.stops Tryz.pinned.checked.prog = [] := by kernel_rfl
theorem q8 : Program.stopKnobs Tryz.pinned.checked.prog = [] := by kernel_rfl
theorem q9 : joinedFacts Tryz.pinned.checked.prog 8 Tryz.f8 Rows.fnExactFaultsOfSpec Rows.fnExactFaultsOfRow = true := by
  unfold joinedFacts
  rw [q1, q2, q3, q4, q5, q6, q7, q8]
  kernel_rfl
theorem q10 : Tryz.pinned.checked.prog.funcNamed Rows.fnExactFaultsOfRow.func = some 8 := by kernel_rfl
theorem FnExactFaultsOf_holds : Rows.FnExactFaultsOfSaid :=
  OpenClaim.holds_of_wide 8 Tryz.f8 rfl rfl rfl rfl rfl rfl rfl ⟨rfl, rfl, rfl, rfl, rfl⟩ rfl rfl rfl rfl rfl q10 Tryz.func8 q9
    (of_decide_eq_true (by kernel_rfl)) (by unfold Func.isWrapper; rw [if_neg (by decide +kernel)]; exact ⟨rfl, rfl⟩)
    (fun os started H enc _ => Kv os started H enc)
end Go.Proofs.YtpibglnacohdkaaGreat
