/- The law FnExactShareText holds: the call returns true for every input, and leaves its arguments alone. -/
import Derived.Test.YtkcaldgoomphaaaDoorC2
import Derived.Test.YtkcaldgoomphaaaDoorRows
import Derived.Test.YtkcaldgoomphaaaDoorChecked
import Derived.Test.YtkcaldgoomphaaaDoorCards
import Derived.Test.YtkcaldgoomphaaaDoorTie
import Derived.Lay
import Derived.Stop.LaidErr
import Derived.SevenTiedAt
import Derived.MakeChecks
set_option linter.unusedVariables false
set_option linter.unusedSimpArgs false
namespace Go.Proofs.YtkcaldgoomphaaaDoor
open Go Go.ChangeShapes Go.WideShapes Go.ChangeAt Go.RowKit
theorem Tryd.own : ownKnob Tryd.prog.godebug = none := by kernel_rfl
theorem Tryd.laidOut : laidOutB Tryd.prog = true := by kernel_rfl
theorem op5 : Opens Tryd.prog 5 UInt8 := opens_byte Tryd.underlying5
theorem op22 : Opens Tryd.prog 22 (List UInt8) := opens_slice Tryd.underlying22 op5 (by kernel_rfl) (by decide)
theorem op24 : Opens Tryd.prog 24 GShare := by
  intro H en w base held fuel cs x h
  obtain ⟨y, h1, h2, h3⟩ := opens_struct (α := UInt8 × (List UInt8)) Tryd.underlying24 (by kernel_rfl) (opensF_cons rfl (by kernel_rfl) op5 (opensF_one rfl (by kernel_rfl) op22)) h
  exact ⟨⟨y.1, y.2⟩, h1, h2, h3⟩
set_option maxRecDepth 100000 in
theorem FnExactShareText_lifted (os : Os) (started : os.Started) (H : Type) (enc : TypeId × Value → H) :
    ReturnsInHanded {} Tryd.checked os 3 .any (fun w args => (Rows.fnExactShareTextSpec.pre enc Tryd.prog Tryd.f3 Rows.fnExactShareTextRow.domain false w args ∧ laidMetH Tryd.prog Rows.fnExactShareTextRow.laid w) ∧ sizedMet enc Tryd.prog Tryd.f3 (OpenSpec.ofChange Rows.fnExactShareTextSpec) false w args) (Rows.fnExactShareTextSpec.post enc Tryd.prog Tryd.f3 false true false false) := by
  refine returnsInHanded_of_change_and (C := Tryd.checked) (X := fun w _ => laidMetH Tryd.prog Rows.fnExactShareTextRow.laid w) (fun _ _ _ hh h => h.of_heap hh) Tryd.own started (by kernel_rfl) Tryd.func3
    (ChangeSpec.witness_shaped (enc := enc) (C := Tryd.checked) (os := os) (X := fun w _ => laidMetH Tryd.prog Rows.fnExactShareTextRow.laid w) false (World.laidAll Tryd.prog os Rows.fnExactShareTextRow.laid) #[.agg (cat [(Flat.enc (0 : UInt8)), [.slice none 0 0]]).toArray] 8 (World.laidAll_os _ _ _)
      (World.shaped_of_ZipB (by kernel_rfl) (by kernel_rfl)) (by kernel_rfl) (by kernel_rfl) (by kernel_rfl)
      (by rw [MakeChecks.laidMetH_plain _ _ _ (by kernel_rfl)]; exact laidMet_laidAll _ (by kernel_rfl) (by kernel_rfl))) ?_
  intro W base args ds gs before hval0 hW _ _ hL _
  rw [MakeChecks.laidMetH_plain _ _ _ (by kernel_rfl)] at hL
  have hT : TabT W := Lib.tabIs_of_head (show Tryd.prog.globalNamed "internal/strconv.uint64pow10" = some 3 by kernel_rfl) (show (Tryd.prog.globals[3]?).map (·.type) = some 88 by kernel_rfl) Tryd.underlying88 Tryd.underlying67 (by kernel_rfl) (by kernel_rfl) (show laidMet Tryd.prog ((_, Lib.tabData .u64 Lib.pow10Tab) :: _) W from hL.tail.tail)
  have hval : ∀ (j : Nat) t v, Tryd.f3.params[j]? = some t → args[j]? = some v → Value.okWide Tryd.prog W .any base t v := hval0
  have hW' := hW
  obtain ⟨p, q, hA0, hV, hbef, hfz, hnd⟩ := hW
  have hA : DataW.TrodAll enc Tryd.prog W 0 (fun _ => true) true Tryd.f3.params.toList args.toList ds p := hA0
  rw [Tryd.params3] at hA hval
  obtain ⟨v0, d0, rfl, rfl, h0⟩ := trodAll_one hA
  obtain ⟨rfl, _⟩ := trodVars_none hV
  obtain ⟨c0, rfl, _⟩ := okWide_struct Tryd.underlying24 (hval 0 24 v0 rfl rfl)
  obtain ⟨x0, r0, b0, z0⟩ := arg_agg op24 h0
  obtain ⟨u0_0, q0, s0_0⟩ := un_GShare r0
  obtain rfl := toList_eq q0
  refine (c_laws_FnExactShareText W x0 u0_0 s0_0 hT true (law_FnExactShareText x0 b0)).mono fun e W' h => ?_
  obtain ⟨v, rfl, rfl, hK⟩ := h
  exact ⟨_, rfl, law_post rfl hW' rfl Tryd.underlying4 rfl Tryd.laidOut (by rw [Tryd.params3]; intro t ht; simp only [List.mem_cons, List.not_mem_nil, or_false] at ht; subst ht <;> exact ⟨by kernel_rfl, of_decide_eq_true (by kernel_rfl)⟩) hK⟩
theorem q1 : Program.inPlace Tryd.pinned.checked.prog 3 = Rows.fnExactShareTextRow.inPlace := by kernel_rfl
theorem q2 : Program.unfollowed Tryd.pinned.checked.prog 3 = Rows.fnExactShareTextRow.unfollowed := by kernel_rfl
theorem q3 : Program.recurses Tryd.pinned.checked.prog 3 = Rows.fnExactShareTextRow.recurses := by kernel_rfl
theorem q4 : Program.varsNamed Tryd.pinned.checked.prog 3 = Rows.fnExactShareTextRow.named := by kernel_rfl
theorem q5 : laidOutB Tryd.pinned.checked.prog = true := by kernel_rfl
theorem q6 : mapsRowed Tryd.pinned.checked.prog = true := by kernel_rfl
theorem q7 : Program.stops Tryd.pinned.checked.prog = [] := by kernel_rfl
theorem q8 : Program.stopKnobs Tryd.pinned.checked.prog = [] := by kernel_rfl
theorem q9 : joinedFacts Tryd.pinned.checked.prog 3 Tryd.f3 Rows.fnExactShareTextSpec Rows.fnExactShareTextRow = true := by
  unfold joinedFacts
  rw [q1, q2, q3, q4, q5, q6, q7, q8]
  kernel_rfl
theorem q10 : Tryd.pinned.checked.prog.funcNamed Rows.fnExactShareTextRow.func = some 3 := by kernel_rfl
theorem FnExactShareText_holds : Rows.FnExactShareTextSaid :=
  OpenClaim.holds_of_wide 3 Tryd.f3 rfl rfl rfl rfl rfl rfl rfl ⟨rfl, rfl, rfl, rfl, rfl⟩ rfl rfl rfl rfl rfl q10 Tryd.func3 q9
    (of_decide_eq_true (by kernel_rfl)) (by unfold Func.isWrapper; rw [if_neg (by decide +kernel)]; exact ⟨rfl, rfl⟩)
    (fun os started H enc _ => FnExactShareText_lifted os started H enc)
theorem FnExactShareText_card : Rows.FnExactShareTextCardSaid :=
  Claim7.holds_tied_plain_at .later [] _ true _ true FnExactShareText_holds (fun _ h => by cases h) (by kernel_rfl) (fun _ h => by cases h) fnExactShareText_row_tie rfl ⟨rfl, rfl⟩ (by kernel_rfl) rfl
    (fun f fn hf hfn => by
      obtain rfl : f = 3 := Option.some.inj (q10.symm.trans hf) |>.symm
      obtain rfl : fn = Tryd.f3 := (Option.some.inj (Tryd.func3.symm.trans hfn)).symm
      exact ⟨by kernel_rfl, fun j t ht => by
        rw [Tryd.params3] at ht
        have hm : t ∈ [24] := by simpa using Array.mem_of_getElem? ht
        have hall : ([24].all fun u => !Tryd.prog.wantsStandIn u) = true := by kernel_rfl
        exact (show Tryd.prog.wantsStandIn t = false by simpa using List.all_eq_true.1 hall t hm)⟩)
    (by kernel_rfl)
end Go.Proofs.YtkcaldgoomphaaaDoor
