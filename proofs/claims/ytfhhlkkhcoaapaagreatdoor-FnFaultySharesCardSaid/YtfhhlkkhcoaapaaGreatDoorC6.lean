/- The law FnFaultyShares holds: the call returns true for every input, and leaves its arguments alone. -/
import Derived.Test.YtfhhlkkhcoaapaaGreatDoorC5
import Derived.Test.YtfhhlkkhcoaapaaGreatDoorRows
import Derived.Test.YtfhhlkkhcoaapaaGreatDoorChecked
import Derived.Test.YtfhhlkkhcoaapaaGreatDoorCards
import Derived.Test.YtfhhlkkhcoaapaaGreatDoorTie
import Derived.Lay
import Derived.Stop.LaidErr
import Derived.SevenTiedAt
import Derived.MakeChecks
set_option linter.unusedVariables false
set_option linter.unusedSimpArgs false
set_option maxRecDepth 20000
set_option maxHeartbeats 400000
namespace Go.Proofs.YtfhhlkkhcoaapaaGreatDoor
open Go Go.ChangeShapes Go.WideShapes Go.ChangeAt Go.RowKit
open Flat (enc)
theorem Tryz.own : ownKnob Tryz.prog.godebug = none := by kernel_rfl
theorem Tryz.laidOut : laidOutB Tryz.prog = true := by kernel_rfl
theorem op5 : A7 Tryz.prog 5 UInt8 := jS Tryz.underlying5
theorem op22 : A7 Tryz.prog 22 (List UInt8) := jK Tryz.underlying22 op5 (by kernel_rfl) (by decide)
theorem kO : "*" ++ "errors.errorString" = "*errors.errorString" := by decide
theorem Zbk (u : TypeId) (h : Tryz.prog.typeName? 3 u = some "*errors.errorString") : u = 189 :=
  typeName_ptr_named (nm := "errors.errorString") (by rw [kO]; kernel_rfl) (by kernel_rfl) (by decide) u (by rw [kO]; exact h)
set_option maxRecDepth 100000 in
theorem K3 (os : Os) (started : os.Started) (H : Type) (enc : TypeId × Value → H) :
    ReturnsInHanded {} Tryz.checked os 3 .any (fun w args => (Rows.fnFaultySharesSpec.pre enc Tryz.prog Tryz.f3 Rows.fnFaultySharesRow.domain false w args ∧ laidMetH Tryz.prog Rows.fnFaultySharesRow.laid w) ∧ sizedMet enc Tryz.prog Tryz.f3 (OpenSpec.ofChange Rows.fnFaultySharesSpec) false w args) (Rows.fnFaultySharesSpec.post enc Tryz.prog Tryz.f3 false true false false) := by
  refine returnsInHanded_of_change_and (C := Tryz.checked) (X := fun w _ => laidMetH Tryz.prog Rows.fnFaultySharesRow.laid w) (fun _ _ _ hh h => h.of_heap hh) Tryz.own started (by kernel_rfl) Tryz.func3
    (ChangeSpec.witness_shaped (enc := enc) (C := Tryz.checked) (os := os) (X := fun w _ => laidMetH Tryz.prog Rows.fnFaultySharesRow.laid w) false (World.laidAll Tryz.prog os Rows.fnFaultySharesRow.laid) #[.slice none 0 0] 8 (World.laidAll_os _ _ _)
      (World.shaped_of_ZipB (by kernel_rfl) (by kernel_rfl)) (by kernel_rfl) (by kernel_rfl) (by kernel_rfl)
      (by rw [MakeChecks.laidMetH_plain _ _ _ (by kernel_rfl)]; exact laidMet_laidAll _ (by kernel_rfl) (by kernel_rfl))) ?_
  intro W base args ds gs before hval0 hW _ _ hL _
  rw [MakeChecks.laidMetH_plain _ _ _ (by kernel_rfl)] at hL
  have hT : TabT W := ⟨Lib.tabIs_of_head (show Tryz.prog.globalNamed "internal/strconv.uint64pow10" = some 3 by kernel_rfl) (show (Tryz.prog.globals[3]?).map (·.type) = some 186 by kernel_rfl) Tryz.underlying186 Tryz.underlying44 (by kernel_rfl) (by kernel_rfl) (show laidMet Tryz.prog ((_, Lib.tabData .u64 Lib.pow10Tab) :: _) W from hL.tail.tail), (by obtain ⟨a, _, h, _⟩ := laid_sentinel (n := "strconv.ErrSyntax") hL.tail.tail.tail.tail (show Tryz.prog.globalNamed "strconv.ErrSyntax" = some 1 by kernel_rfl) (show (Tryz.prog.globals[1]?).map (·.type) = some 142 by kernel_rfl) Tryz.underlying142 Zbk Tryz.underlying189 Tryz.underlying191 rfl rfl Tryz.underlying9 (by kernel_rfl) (by kernel_rfl); exact ⟨_, _, h⟩), (by obtain ⟨a, _, h, _⟩ := laid_sentinel (n := "strconv.ErrRange") hL.tail.tail.tail (show Tryz.prog.globalNamed "strconv.ErrRange" = some 2 by kernel_rfl) (show (Tryz.prog.globals[2]?).map (·.type) = some 142 by kernel_rfl) Tryz.underlying142 Zbk Tryz.underlying189 Tryz.underlying191 rfl rfl Tryz.underlying9 (by kernel_rfl) (by kernel_rfl); exact ⟨_, _, h⟩)⟩
  have hval : ∀ (j : Nat) t v, Tryz.f3.params[j]? = some t → args[j]? = some v → Value.okWide Tryz.prog W .any base t v := hval0
  have hW' := hW
  obtain ⟨p, q, hA0, hV, hbef, hfz, hnd⟩ := hW
  have hA : DataW.TrodAll enc Tryz.prog W 0 (fun _ => true) true Tryz.f3.params.toList args.toList ds p := hA0
  rw [Tryz.params3] at hA hval
  obtain ⟨v0, d0, rfl, rfl, h0⟩ := trodAll_one hA
  obtain ⟨rfl, _⟩ := trodVars_none hV
  have e0 : v0.cells.toList = [v0] := by obtain ⟨_, _, _, rfl⟩ := okWide_slice Tryz.underlying22 (hval 0 22 v0 rfl rfl); rfl
  obtain ⟨x0, r0, b0, z0⟩ := Zby op22 e0 h0
  refine (K6 W x0 v0 r0 hT true (HA x0 b0)).mono fun e W' h => ?_
  obtain ⟨v, rfl, rfl, hK⟩ := h
  exact ⟨_, rfl, qR rfl hW' rfl Tryz.underlying4 rfl Tryz.laidOut (by rw [Tryz.params3]; intro t ht; simp only [List.mem_cons, List.not_mem_nil, or_false] at ht; subst ht <;> exact ⟨by kernel_rfl, of_decide_eq_true (by kernel_rfl)⟩) hK⟩
theorem q1 : Program.inPlace Tryz.pinned.checked.prog 3 = Rows.fnFaultySharesRow.inPlace := by kernel_rfl
theorem q2 : Program.unfollowed Tryz.pinned.checked.prog 3 = Rows.fnFaultySharesRow.unfollowed := by kernel_rfl
theorem q3 : Program.recurses Tryz.pinned.checked.prog 3 = Rows.fnFaultySharesRow.recurses := by kernel_rfl
theorem q4 : Program.varsNamed Tryz.pinned.checked.prog 3 = Rows.fnFaultySharesRow.named := by kernel_rfl
theorem q5 : laidOutB Tryz.pinned.checked.prog = true := by kernel_rfl
theorem q6 : mapsRowed Tryz.pinned.checked.prog = true := by kernel_rfl
theorem q7 : Program.stops Tryz.pinned.checked.prog = [] := by kernel_rfl
theorem q8 : Program.stopKnobs Tryz.pinned.checked.prog = [] := by kernel_rfl
theorem q9 : joinedFacts Tryz.pinned.checked.prog 3 Tryz.f3 Rows.fnFaultySharesSpec Rows.fnFaultySharesRow = true := by
  unfold joinedFacts
  rw [q1, q2, q3, q4, q5, q6, q7, q8]
  kernel_rfl
theorem q10 : Tryz.pinned.checked.prog.funcNamed Rows.fnFaultySharesRow.func = some 3 := by kernel_rfl
theorem FnFaultyShares_holds : Rows.FnFaultySharesSaid :=
  OpenClaim.holds_of_wide 3 Tryz.f3 rfl rfl rfl rfl rfl rfl rfl ⟨rfl, rfl, rfl, rfl, rfl⟩ rfl rfl rfl rfl rfl q10 Tryz.func3 q9
    (of_decide_eq_true (by kernel_rfl)) (by unfold Func.isWrapper; rw [if_neg (by decide +kernel)]; exact ⟨rfl, rfl⟩)
    (fun os started H enc _ => K3 os started H enc)
theorem FnFaultyShares_card : Rows.FnFaultySharesCardSaid :=
  Claim7.holds_tied_plain_at .later [] _ true _ true FnFaultyShares_holds (fun _ h => by cases h) (by kernel_rfl) (fun _ h => by cases h) fnFaultyShares_row_tie rfl ⟨rfl, rfl⟩ (by kernel_rfl) rfl
    (fun f fn hf hfn => by
      obtain rfl : f = 3 := Option.some.inj (q10.symm.trans hf) |>.symm
      obtain rfl : fn = Tryz.f3 := (Option.some.inj (Tryz.func3.symm.trans hfn)).symm
      exact ⟨by kernel_rfl, fun j t ht => by
        rw [Tryz.params3] at ht
        have hm : t ∈ [22] := by simpa using Array.mem_of_getElem? ht
        have hall : ([22].all fun u => !Tryz.prog.wantsStandIn u) = true := by kernel_rfl
        exact (show Tryz.prog.wantsStandIn t = false by simpa using List.all_eq_true.1 hall t hm)⟩)
    (by kernel_rfl)
end Go.Proofs.YtfhhlkkhcoaapaaGreatDoor
