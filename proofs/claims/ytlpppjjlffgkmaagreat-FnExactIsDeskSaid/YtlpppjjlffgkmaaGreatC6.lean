/- The law FnExactIsDesk holds: the call returns true for every input, and leaves its arguments alone. -/
import Derived.Test.YtlpppjjlffgkmaaGreatC5
import Derived.Test.YtlpppjjlffgkmaaGreatRows
import Derived.Test.YtlpppjjlffgkmaaGreatChecked
set_option linter.unusedVariables false
set_option linter.unusedSimpArgs false
set_option maxRecDepth 20000
set_option maxHeartbeats 400000
namespace Go.Proofs.YtlpppjjlffgkmaaGreat
open Go Go.ChangeShapes Go.WideShapes Go.ChangeAt Go.RowKit
open Flat (enc)
theorem Tryz.own : ownKnob Tryz.prog.godebug = none := by kernel_rfl
theorem Tryz.laidOut : laidOutB Tryz.prog = true := by kernel_rfl
theorem op2 : WQ Tryz.prog 2 Int := Za4 Tryz.underlying2
theorem op5 : WQ Tryz.prog 5 UInt8 := kl Tryz.underlying5
theorem op22 : WQ Tryz.prog 22 (Vector UInt8 256) := QK Tryz.underlying22 op5 (by kernel_rfl) (by kernel_rfl)
theorem op24 : WQ Tryz.prog 24 (Vector UInt8 4) := QK Tryz.underlying24 op5 (by kernel_rfl) (by kernel_rfl)
theorem op25 : WQ Tryz.prog 25 (Vector (Vector UInt8 4) 4) := QK Tryz.underlying25 op24 (by kernel_rfl) (by kernel_rfl)
theorem op27 : WQ Tryz.prog 27 (Vector UInt8 16) := QK Tryz.underlying27 op5 (by kernel_rfl) (by kernel_rfl)
theorem op52 : WQ Tryz.prog 52 GCipher := by
  intro H en w base held fuel cs x h
  obtain ⟨y, h1, h2, h3⟩ := Tu (α := Int × (Vector UInt8 256) × (Vector (Vector UInt8 4) 4) × (Vector UInt8 16) × Int) Tryz.underlying52 (by kernel_rfl) (Z8 rfl (by kernel_rfl) op2 (Z8 rfl (by kernel_rfl) op22 (Z8 rfl (by kernel_rfl) op25 (Z8 rfl (by kernel_rfl) op27 (Qx rfl (by kernel_rfl) op2))))) h
  obtain ⟨c0, d0, f0, g0, rfl, _, ⟨rfl, _⟩, k0⟩ := h1
  obtain ⟨c1, d1, f1, g1, rfl, _, ⟨rfl, _⟩, k1⟩ := k0
  obtain ⟨c2, d2, f2, g2, rfl, _, ⟨rfl, _⟩, k2⟩ := k1
  obtain ⟨c3, d3, f3, g3, rfl, _, ⟨rfl, _⟩, k3⟩ := k2
  obtain ⟨rfl, _⟩ := k3
  exact ⟨⟨y.1, y.2.1, y.2.2.1, y.2.2.2.1, y.2.2.2.2⟩, ⟨rfl, rfl⟩, h2, h3⟩
theorem op32 : WQ Tryz.prog 32 (List UInt8) := UK Tryz.underlying32 op5 (by kernel_rfl) (by decide)
theorem op53 : WQ Tryz.prog 53 (List (Vector UInt8 16)) := UK Tryz.underlying53 op27 (by kernel_rfl) (by decide)
theorem op36 : WQ Tryz.prog 36 (Vector UInt8 32) := QK Tryz.underlying36 op5 (by kernel_rfl) (by kernel_rfl)
theorem op156 : WQ Tryz.prog 156 GRecord := by
  intro H en w base held fuel cs x h
  obtain ⟨y, h1, h2, h3⟩ := Tu (α := Int × Int × (Vector UInt8 16) × (List UInt8) × (List UInt8) × (Vector UInt8 32)) Tryz.underlying156 (by kernel_rfl) (Z8 rfl (by kernel_rfl) op2 (Z8 rfl (by kernel_rfl) op2 (Z8 rfl (by kernel_rfl) op27 (Z8 rfl (by kernel_rfl) op32 (Z8 rfl (by kernel_rfl) op32 (Qx rfl (by kernel_rfl) op36)))))) h
  exact ⟨⟨y.1, y.2.1, y.2.2.1, y.2.2.2.1, y.2.2.2.2.1, y.2.2.2.2.2⟩, h1, h2, h3⟩
theorem op54 : WQ Tryz.prog 54 (List GRecord) := UK Tryz.underlying54 op156 (by kernel_rfl) (by decide)
theorem op167 : WQ Tryz.prog 167 GEvent := by
  intro H en w base held fuel cs x h
  obtain ⟨y, h1, h2, h3⟩ := Tu (α := Int × Int × (Vector UInt8 32)) Tryz.underlying167 (by kernel_rfl) (Z8 rfl (by kernel_rfl) op2 (Z8 rfl (by kernel_rfl) op2 (Qx rfl (by kernel_rfl) op36))) h
  obtain ⟨c0, d0, f0, g0, rfl, _, ⟨rfl, _⟩, k0⟩ := h1
  obtain ⟨c1, d1, f1, g1, rfl, _, ⟨rfl, _⟩, k1⟩ := k0
  obtain ⟨rfl, _⟩ := k1
  exact ⟨⟨y.1, y.2.1, y.2.2⟩, ⟨rfl, rfl⟩, h2, h3⟩
theorem op55 : WQ Tryz.prog 55 (List GEvent) := UK Tryz.underlying55 op167 (by kernel_rfl) (by decide)
theorem op57 : WQ Tryz.prog 57 GVault := by
  intro H en w base held fuel cs x h
  obtain ⟨y, h1, h2, h3⟩ := Tu (α := (List (Vector UInt8 16)) × Int × (List GRecord) × (List GEvent) × (Vector UInt8 32)) Tryz.underlying57 (by kernel_rfl) (Z8 rfl (by kernel_rfl) op53 (Z8 rfl (by kernel_rfl) op2 (Z8 rfl (by kernel_rfl) op54 (Z8 rfl (by kernel_rfl) op55 (Qx rfl (by kernel_rfl) op36))))) h
  exact ⟨⟨y.1, y.2.1, y.2.2.1, y.2.2.2.1, y.2.2.2.2⟩, h1, h2, h3⟩
theorem op58 : WQ Tryz.prog 58 (List (Vector UInt8 32)) := UK Tryz.underlying58 op36 (by kernel_rfl) (by decide)
theorem op41 : WQ Tryz.prog 41 (List (List UInt8)) := UK Tryz.underlying41 op32 (by kernel_rfl) (by decide)
theorem op42 : WQ Tryz.prog 42 (List Int) := UK Tryz.underlying42 op2 (by kernel_rfl) (by decide)
theorem op60 : WQ Tryz.prog 60 GBlobs := by
  intro H en w base held fuel cs x h
  obtain ⟨y, h1, h2, h3⟩ := Tu (α := (List (Vector UInt8 32)) × (List (List UInt8)) × (List Int)) Tryz.underlying60 (by kernel_rfl) (Z8 rfl (by kernel_rfl) op58 (Z8 rfl (by kernel_rfl) op41 (Qx rfl (by kernel_rfl) op42))) h
  exact ⟨⟨y.1, y.2.1, y.2.2⟩, h1, h2, h3⟩
theorem op62 : WQ Tryz.prog 62 GDesk := by
  intro H en w base held fuel cs x h
  obtain ⟨y, h1, h2, h3⟩ := Tu (α := GCipher × (Vector UInt8 16) × (Vector UInt8 16) × (List UInt8) × GVault × GBlobs) Tryz.underlying62 (by kernel_rfl) (Z8 rfl (by kernel_rfl) op52 (Z8 rfl (by kernel_rfl) op27 (Z8 rfl (by kernel_rfl) op27 (Z8 rfl (by kernel_rfl) op32 (Z8 rfl (by kernel_rfl) op57 (Qx rfl (by kernel_rfl) op60)))))) h
  exact ⟨⟨y.1, y.2.1, y.2.2.1, y.2.2.2.1, y.2.2.2.2.1, y.2.2.2.2.2⟩, h1, h2, h3⟩
set_option maxRecDepth 100000 in
theorem Jk (os : Os) (started : os.Started) (H : Type) (enc : TypeId × Value → H) :
    ReturnsInHanded {} Tryz.checked os 4 .any (Rows.fnExactIsDeskSpec.pre6 enc Tryz.prog Tryz.f4 Rows.fnExactIsDeskRow.domain false) (Rows.fnExactIsDeskSpec.post enc Tryz.prog Tryz.f4 false true false false) := by
  refine returnsInHanded_of_change (C := Tryz.checked) Tryz.own started (by kernel_rfl) Tryz.func4
    (ChangeSpec.witness6 (enc := enc) (C := Tryz.checked) false ⟨#[], #[.agg (cat [(Flat.enc (⟨(0 : Int), (Vector.replicate 256 (0 : UInt8)), (Vector.replicate 4 (Vector.replicate 4 (0 : UInt8))), (Vector.replicate 16 (0 : UInt8)), (0 : Int)⟩ : GCipher)), (Flat.enc (Vector.replicate 16 (0 : UInt8))), (Flat.enc (Vector.replicate 16 (0 : UInt8))), [.slice none 0 0], (cat [[.slice none 0 0], (Flat.enc (0 : Int)), [.slice none 0 0], [.slice none 0 0], (Flat.enc (Vector.replicate 32 (0 : UInt8)))]), (cat [[.slice none 0 0], [.slice none 0 0], [.slice none 0 0]])]).toArray], []⟩ 8 (by kernel_rfl) (by kernel_rfl) (by kernel_rfl) (by kernel_rfl)) ?_
  intro W base args ds gs before hval0 hW _ _
  have hval : ∀ (j : Nat) t v, Tryz.f4.params[j]? = some t → args[j]? = some v → Value.okWide Tryz.prog W .any base t v := hval0
  have hW' := hW
  obtain ⟨p, q, hA0, hV, hbef, hfz, hnd⟩ := hW
  have hA : DataW.TrodAll enc Tryz.prog W 0 (fun _ => true) true Tryz.f4.params.toList args.toList ds p := hA0
  rw [Tryz.params4] at hA hval
  obtain ⟨v0, d0, rfl, rfl, h0⟩ := trodAll_one hA
  obtain ⟨rfl, _⟩ := trodVars_none hV
  obtain ⟨c0, rfl, _⟩ := okWide_struct Tryz.underlying62 (hval 0 62 v0 rfl rfl)
  obtain ⟨x0, r0, b0, z0⟩ := Zcy op62 h0
  obtain ⟨u0_0, u0_1, u0_2, u0_3, u0_4, u0_5, u0_6, q0, s0_0, s0_1, s0_2, s0_3, s0_4, s0_5, s0_6⟩ := jn r0
  obtain rfl := HT q0
  refine (Jg W x0 u0_0 s0_0 u0_1 s0_1 u0_2 s0_2 u0_3 s0_3 u0_4 s0_4 u0_5 s0_5 u0_6 s0_6 true (HJ x0 b0)).mono fun e W' h => ?_
  obtain ⟨v, rfl, rfl, hK⟩ := h
  exact ⟨_, rfl, Zb8 rfl hW' rfl Tryz.underlying4 rfl Tryz.laidOut (by rw [Tryz.params4]; intro t ht; simp only [List.mem_cons, List.not_mem_nil, or_false] at ht; subst ht <;> exact ⟨by kernel_rfl, of_decide_eq_true (by kernel_rfl)⟩) hK⟩
theorem q1 : Program.inPlace Tryz.pinned.checked.prog 4 = Rows.fnExactIsDeskRow.inPlace := by kernel_rfl
theorem q2 : Program.unfollowed Tryz.pinned.checked.prog 4 = Rows.fnExactIsDeskRow.unfollowed := by kernel_rfl
theorem q3 : Program.recurses Tryz.pinned.checked.prog 4 = Rows.fnExactIsDeskRow.recurses := by kernel_rfl
theorem q4 : Program.varsNamed Tryz.pinned.checked.prog 4 = Rows.fnExactIsDeskRow.named := by kernel_rfl
theorem q5 : laidOutB Tryz.pinned.checked.prog = true := by kernel_rfl
theorem q6 : mapsRowed Tryz.pinned.checked.prog = true := by kernel_rfl
theorem q7 : Program.stops Tryz.pinned.checked.prog = [] := by kernel_rfl
theorem q8 : Program.stopKnobs Tryz.pinned.checked.prog = [] := by kernel_rfl
theorem q9 : joinedFacts Tryz.pinned.checked.prog 4 Tryz.f4 Rows.fnExactIsDeskSpec Rows.fnExactIsDeskRow = true := by
  unfold joinedFacts
  rw [q1, q2, q3, q4, q5, q6, q7, q8]
  kernel_rfl
theorem q10 : Tryz.pinned.checked.prog.funcNamed Rows.fnExactIsDeskRow.func = some 4 := by kernel_rfl
theorem FnExactIsDesk_holds : Rows.FnExactIsDeskSaid :=
  OpenClaim.holds_of_wide 4 Tryz.f4 rfl rfl rfl rfl rfl rfl rfl ⟨rfl, rfl, rfl, rfl, rfl⟩ rfl rfl rfl rfl rfl q10 Tryz.func4 q9
    (of_decide_eq_true (by kernel_rfl)) (by unfold Func.isWrapper; rw [if_neg (by decide +kernel)]; exact ⟨rfl, rfl⟩)
    (fun os started H enc _ => Jk os started H enc)
end Go.Proofs.YtlpppjjlffgkmaaGreat
