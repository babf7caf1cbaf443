/- The law FnExactDistinguishedBytes holds: the call returns true for every input, and leaves its arguments alone. -/
import Derived.Test.YthlmkdjednppkaaC5
import Derived.Test.YthlmkdjednppkaaRows
import Derived.Test.YthlmkdjednppkaaChecked
set_option linter.unusedVariables false
set_option linter.unusedSimpArgs false
namespace Go.Proofs.Ythlmkdjednppkaa
open Go Go.ChangeShapes Go.WideShapes Go.ChangeAt Go.RowKit
theorem Try.own : ownKnob Try.prog.godebug = none := by kernel_rfl
theorem Try.laidOut : laidOutB Try.prog = true := by kernel_rfl
theorem op2 : Opens Try.prog 2 Int := opens_int Try.underlying2
theorem op5 : Opens Try.prog 5 UInt8 := opens_byte Try.underlying5
theorem op43 : Opens Try.prog 43 (Vector UInt8 256) := opens_array Try.underlying43 op5 (by kernel_rfl) (by kernel_rfl)
theorem op44 : Opens Try.prog 44 (Vector UInt8 4) := opens_array Try.underlying44 op5 (by kernel_rfl) (by kernel_rfl)
theorem op45 : Opens Try.prog 45 (Vector (Vector UInt8 4) 4) := opens_array Try.underlying45 op44 (by kernel_rfl) (by kernel_rfl)
theorem op46 : Opens Try.prog 46 (Vector UInt8 16) := opens_array Try.underlying46 op5 (by kernel_rfl) (by kernel_rfl)
theorem op48 : Opens Try.prog 48 GCipher := by
  intro H en w base held fuel cs x h
  obtain ⟨y, h1, h2, h3⟩ := opens_struct (α := Int × (Vector UInt8 256) × (Vector (Vector UInt8 4) 4) × (Vector UInt8 16) × Int) Try.underlying48 (by kernel_rfl) (opensF_cons rfl (by kernel_rfl) op2 (opensF_cons rfl (by kernel_rfl) op43 (opensF_cons rfl (by kernel_rfl) op45 (opensF_cons rfl (by kernel_rfl) op46 (opensF_one rfl (by kernel_rfl) op2))))) h
  obtain ⟨c0, d0, f0, g0, rfl, _, ⟨rfl, _⟩, k0⟩ := h1
  obtain ⟨c1, d1, f1, g1, rfl, _, ⟨rfl, _⟩, k1⟩ := k0
  obtain ⟨c2, d2, f2, g2, rfl, _, ⟨rfl, _⟩, k2⟩ := k1
  obtain ⟨c3, d3, f3, g3, rfl, _, ⟨rfl, _⟩, k3⟩ := k2
  obtain ⟨rfl, _⟩ := k3
  exact ⟨⟨y.1, y.2.1, y.2.2.1, y.2.2.2.1, y.2.2.2.2⟩, ⟨rfl, rfl⟩, h2, h3⟩
set_option maxRecDepth 100000 in
theorem FnExactDistinguishedBytes_lifted (os : Os) (started : os.Started) (H : Type) (enc : TypeId × Value → H) :
    ReturnsInHanded {} Try.checked os 11 .any (Rows.fnExactDistinguishedBytesSpec.pre6 enc Try.prog Try.f11 Rows.fnExactDistinguishedBytesRow.domain false) (Rows.fnExactDistinguishedBytesSpec.post enc Try.prog Try.f11 false true false false) := by
  refine returnsInHanded_of_change (C := Try.checked) Try.own started (by kernel_rfl) Try.func11
    (ChangeSpec.witness6 (enc := enc) (C := Try.checked) false ⟨#[], #[.agg (Flat.enc (⟨(0 : Int), (Vector.replicate 256 (0 : UInt8)), (Vector.replicate 4 (Vector.replicate 4 (0 : UInt8))), (Vector.replicate 16 (0 : UInt8)), (0 : Int)⟩ : GCipher)).toArray, .agg (Flat.enc (Vector.replicate 16 (0 : UInt8))).toArray, .agg (Flat.enc (Vector.replicate 16 (0 : UInt8))).toArray, .int .i64 0, .int .i64 0], []⟩ 8 (by kernel_rfl) (by kernel_rfl) (by kernel_rfl) (by kernel_rfl)) ?_
  intro W base args ds gs before hval0 hW _ _
  have hval : ∀ (j : Nat) t v, Try.f11.params[j]? = some t → args[j]? = some v → Value.okWide Try.prog W .any base t v := hval0
  have hW' := hW
  obtain ⟨p, q, hA0, hV, hbef, hfz, hnd⟩ := hW
  have hA : DataW.TrodAll enc Try.prog W 0 (fun _ => true) true Try.f11.params.toList args.toList ds p := hA0
  rw [Try.params11] at hA hval
  obtain ⟨v0, v1, v2, v3, v4, d0, d1, d2, d3, d4, p0, p1, p2, p3, p4, rfl, rfl, rfl, h0, h1, h2, h3, h4⟩ := trodAll_five hA
  obtain ⟨rfl, _⟩ := trodVars_none hV
  obtain ⟨c0, rfl, _⟩ := okWide_struct Try.underlying48 (hval 0 48 v0 rfl rfl)
  obtain ⟨x0, r0, b0, z0⟩ := arg_agg op48 h0
  obtain rfl : c0 = (Flat.enc x0).toArray := by rw [← r0.1]
  obtain ⟨c1, rfl, _⟩ := okWide_array Try.underlying46 (hval 1 46 v1 rfl rfl)
  obtain ⟨x1, r1, b1, z1⟩ := arg_agg op46 h1
  obtain rfl : c1 = (Flat.enc x1).toArray := by rw [← r1.1]
  obtain ⟨c2, rfl, _⟩ := okWide_array Try.underlying46 (hval 2 46 v2 rfl rfl)
  obtain ⟨x2, r2, b2, z2⟩ := arg_agg op46 h2
  obtain rfl : c2 = (Flat.enc x2).toArray := by rw [← r2.1]
  have e3 : v3.cells.toList = [v3] := by obtain ⟨_, rfl⟩ := okWide_int Try.underlying2 (hval 3 2 v3 rfl rfl); rfl
  obtain ⟨x3, r3, b3, z3⟩ := arg_one op2 e3 h3
  obtain rfl : v3 = vI x3 := (List.cons.inj r3.1).1
  have e4 : v4.cells.toList = [v4] := by obtain ⟨_, rfl⟩ := okWide_int Try.underlying2 (hval 4 2 v4 rfl rfl); rfl
  obtain ⟨x4, r4, b4, z4⟩ := arg_one op2 e4 h4
  obtain rfl : v4 = vI x4 := (List.cons.inj r4.1).1
  refine (c_laws_FnExactDistinguishedBytes W x0 x1 x2 x3 x4 true (law_FnExactDistinguishedBytes x0 x1 x2 x3 x4 b0 b1 b2 b3 b4)).mono fun e W' h => ?_
  obtain ⟨v, rfl, rfl, hK⟩ := h
  exact ⟨_, rfl, law_post rfl hW' rfl Try.underlying4 rfl Try.laidOut (by rw [Try.params11]; intro t ht; simp only [List.mem_cons, List.not_mem_nil, or_false] at ht; rcases ht with rfl | rfl | rfl | rfl | rfl <;> exact ⟨by kernel_rfl, of_decide_eq_true (by kernel_rfl)⟩) hK⟩
theorem q1 : Program.inPlace Try.pinned.checked.prog 11 = Rows.fnExactDistinguishedBytesRow.inPlace := by kernel_rfl
theorem q2 : Program.unfollowed Try.pinned.checked.prog 11 = Rows.fnExactDistinguishedBytesRow.unfollowed := by kernel_rfl
theorem q3 : Program.recurses Try.pinned.checked.prog 11 = Rows.fnExactDistinguishedBytesRow.recurses := by kernel_rfl
theorem q4 : Program.varsNamed Try.pinned.checked.prog 11 = Rows.fnExactDistinguishedBytesRow.named := by kernel_rfl
theorem q5 : laidOutB Try.pinned.checked.prog = true := by kernel_rfl
theorem q6 : mapsRowed Try.pinned.checked.prog = true := by kernel_rfl
theorem q7 : Program.stops Try.pinned.checked.prog = [] := by kernel_rfl
theorem q8 : Program.stopKnobs Try.pinned.checked.prog = [] := by kernel_rfl
theorem q9 : joinedFacts Try.pinned.checked.prog 11 Try.f11 Rows.fnExactDistinguishedBytesSpec Rows.fnExactDistinguishedBytesRow = true := by
  unfold joinedFacts
  rw [q1, q2, q3, q4, q5, q6, q7, q8]
  kernel_rfl
theorem q10 : Try.pinned.checked.prog.funcNamed Rows.fnExactDistinguishedBytesRow.func = some 11 := by kernel_rfl
theorem FnExactDistinguishedBytes_holds : Rows.FnExactDistinguishedBytesSaid :=
  OpenClaim.holds_of_wide 11 Try.f11 rfl rfl rfl rfl rfl rfl rfl ⟨rfl, rfl, rfl, rfl, rfl⟩ rfl rfl rfl rfl rfl q10 Try.func11 q9
    (of_decide_eq_true (by kernel_rfl)) (by unfold Func.isWrapper; rw [if_neg (by decide +kernel)]; exact ⟨rfl, rfl⟩)
    (fun os started H enc _ => FnExactDistinguishedBytes_lifted os started H enc)
end Go.Proofs.Ythlmkdjednppkaa
