/- The law FnExactParseShare holds: the call returns true for every input, and leaves its arguments alone. -/
import Derived.Test.YtkcaldgoomphaaaDoorC2
import Derived.Test.YtkcaldgoomphaaaDoorRows
import Derived.Test.YtkcaldgoomphaaaDoorChecked
import Derived.Test.YtkcaldgoomphaaaDoorCards
import Derived.Test.YtkcaldgoomphaaaDoorTie
import Derived.Lay
import Derived.Stop.LaidErr
import Derived.SevenTiedAt
import Derived.MakeChecks
set_option linter.unusedVariables false
set_option linter.unusedSimpArgs false
namespace Go.Proofs.YtkcaldgoomphaaaDoor
open Go Go.ChangeShapes Go.WideShapes Go.ChangeAt Go.RowKit
theorem Tryd.own : ownKnob Tryd.prog.godebug = none := by kernel_rfl
theorem Tryd.laidOut : laidOutB Tryd.prog = true := by kernel_rfl
theorem op9 : Opens Tryd.prog 9 Str := opens_str Tryd.underlying9
theorem starErr : "*" ++ "errors.errorString" = "*errors.errorString" := by decide
theorem errRow (u : TypeId) (h : Tryd.prog.typeName? 3 u = some "*errors.errorString") : u = 93 :=
  typeName_ptr_named (nm := "errors.errorString") (by rw [starErr]; kernel_rfl) (by kernel_rfl) (by decide) u (by rw [starErr]; exact h)
set_option maxRecDepth 100000 in
theorem FnExactParseShare_lifted (os : Os) (started : os.Started) (H : Type) (enc : TypeId × Value → H) :
    ReturnsInHanded {} Tryd.checked os 4 .any (fun w args => (Rows.fnExactParseShareSpec.pre enc Tryd.prog Tryd.f4 Rows.fnExactParseShareRow.domain false w args ∧ laidMetH Tryd.prog Rows.fnExactParseShareRow.laid w) ∧ sizedMet enc Tryd.prog Tryd.f4 (OpenSpec.ofChange Rows.fnExactParseShareSpec) false w args) (Rows.fnExactParseShareSpec.post enc Tryd.prog Tryd.f4 false true false false) := by
  refine returnsInHanded_of_change_and (C := Tryd.checked) (X := fun w _ => laidMetH Tryd.prog Rows.fnExactParseShareRow.laid w) (fun _ _ _ hh h => h.of_heap hh) Tryd.own started (by kernel_rfl) Tryd.func4
    (ChangeSpec.witness_shaped (enc := enc) (C := Tryd.checked) (os := os) (X := fun w _ => laidMetH Tryd.prog Rows.fnExactParseShareRow.laid w) false (World.laidAll Tryd.prog os Rows.fnExactParseShareRow.laid) #[.string ⟨#[]⟩] 8 (World.laidAll_os _ _ _)
      (World.shaped_of_ZipB (by kernel_rfl) (by kernel_rfl)) (by kernel_rfl) (by kernel_rfl) (by kernel_rfl)
      (by rw [MakeChecks.laidMetH_plain _ _ _ (by kernel_rfl)]; exact laidMet_laidAll _ (by kernel_rfl) (by kernel_rfl))) ?_
  intro W base args ds gs before hval0 hW _ _ hL _
  rw [MakeChecks.laidMetH_plain _ _ _ (by kernel_rfl)] at hL
  have hT : TabT W := ⟨Lib.tabIs_of_head (show Tryd.prog.globalNamed "internal/strconv.uint64pow10" = some 3 by kernel_rfl) (show (Tryd.prog.globals[3]?).map (·.type) = some 88 by kernel_rfl) Tryd.underlying88 Tryd.underlying67 (by kernel_rfl) (by kernel_rfl) (show laidMet Tryd.prog ((_, Lib.tabData .u64 Lib.pow10Tab) :: _) W from hL.tail.tail), (by obtain ⟨a, _, h, _⟩ := laid_sentinel (n := "strconv.ErrSyntax") hL.tail.tail.tail.tail (show Tryd.prog.globalNamed "strconv.ErrSyntax" = some 1 by kernel_rfl) (show (Tryd.prog.globals[1]?).map (·.type) = some 55 by kernel_rfl) Tryd.underlying55 errRow Tryd.underlying93 Tryd.underlying95 rfl rfl Tryd.underlying9 (by kernel_rfl) (by kernel_rfl); exact ⟨_, _, h⟩), (by obtain ⟨a, _, h, _⟩ := laid_sentinel (n := "strconv.ErrRange") hL.tail.tail.tail (show Tryd.prog.globalNamed "strconv.ErrRange" = some 2 by kernel_rfl) (show (Tryd.prog.globals[2]?).map (·.type) = some 55 by kernel_rfl) Tryd.underlying55 errRow Tryd.underlying93 Tryd.underlying95 rfl rfl Tryd.underlying9 (by kernel_rfl) (by kernel_rfl); exact ⟨_, _, h⟩)⟩
  have hval : ∀ (j : Nat) t v, Tryd.f4.params[j]? = some t → args[j]? = some v → Value.okWide Tryd.prog W .any base t v := hval0
  have hW' := hW
  obtain ⟨p, q, hA0, hV, hbef, hfz, hnd⟩ := hW
  have hA : DataW.TrodAll enc Tryd.prog W 0 (fun _ => true) true Tryd.f4.params.toList args.toList ds p := hA0
  rw [Tryd.params4] at hA hval
  obtain ⟨v0, d0, rfl, rfl, h0⟩ := trodAll_one hA
  obtain ⟨rfl, _⟩ := trodVars_none hV
  have e0 : v0.cells.toList = [v0] := by obtain ⟨_, rfl⟩ := okWide_string Tryd.underlying9 (hval 0 9 v0 rfl rfl); rfl
  obtain ⟨x0, r0, b0, z0⟩ := arg_one op9 e0 h0
  obtain rfl : v0 = vS x0 := (List.cons.inj r0.1).1
  refine (c_laws_FnExactParseShare W x0 hT true (law_FnExactParseShare x0 b0)).mono fun e W' h => ?_
  obtain ⟨v, rfl, rfl, hK⟩ := h
  exact ⟨_, rfl, law_post rfl hW' rfl Tryd.underlying4 rfl Tryd.laidOut (by rw [Tryd.params4]; intro t ht; simp only [List.mem_cons, List.not_mem_nil, or_false] at ht; subst ht <;> exact ⟨by kernel_rfl, of_decide_eq_true (by kernel_rfl)⟩) hK⟩
theorem q1 : Program.inPlace Tryd.pinned.checked.prog 4 = Rows.fnExactParseShareRow.inPlace := by kernel_rfl
theorem q2 : Program.unfollowed Tryd.pinned.checked.prog 4 = Rows.fnExactParseShareRow.unfollowed := by kernel_rfl
theorem q3 : Program.recurses Tryd.pinned.checked.prog 4 = Rows.fnExactParseShareRow.recurses := by kernel_rfl
theorem q4 : Program.varsNamed Tryd.pinned.checked.prog 4 = Rows.fnExactParseShareRow.named := by kernel_rfl
theorem q5 : laidOutB Tryd.pinned.checked.prog = true := by kernel_rfl
theorem q6 : mapsRowed Tryd.pinned.checked.prog = true := by kernel_rfl
theorem q7 : Program.stops Tryd.pinned.checked.prog = [] := by kernel_rfl
theorem q8 : Program.stopKnobs Tryd.pinned.checked.prog = [] := by kernel_rfl
theorem q9 : joinedFacts Tryd.pinned.checked.prog 4 Tryd.f4 Rows.fnExactParseShareSpec Rows.fnExactParseShareRow = true := by
  unfold joinedFacts
  rw [q1, q2, q3, q4, q5, q6, q7, q8]
  kernel_rfl
theorem q10 : Tryd.pinned.checked.prog.funcNamed Rows.fnExactParseShareRow.func = some 4 := by kernel_rfl
theorem FnExactParseShare_holds : Rows.FnExactParseShareSaid :=
  OpenClaim.holds_of_wide 4 Tryd.f4 rfl rfl rfl rfl rfl rfl rfl ⟨rfl, rfl, rfl, rfl, rfl⟩ rfl rfl rfl rfl rfl q10 Tryd.func4 q9
    (of_decide_eq_true (by kernel_rfl)) (by unfold Func.isWrapper; rw [if_neg (by decide +kernel)]; exact ⟨rfl, rfl⟩)
    (fun os started H enc _ => FnExactParseShare_lifted os started H enc)
theorem FnExactParseShare_card : Rows.FnExactParseShareCardSaid :=
  Claim7.holds_tied_plain_at .later [] _ true _ true FnExactParseShare_holds (fun _ h => by cases h) (by kernel_rfl) (fun _ h => by cases h) fnExactParseShare_row_tie rfl ⟨rfl, rfl⟩ (by kernel_rfl) rfl
    (fun f fn hf hfn => by
      obtain rfl : f = 4 := Option.some.inj (q10.symm.trans hf) |>.symm
      obtain rfl : fn = Tryd.f4 := (Option.some.inj (Tryd.func4.symm.trans hfn)).symm
      exact ⟨by kernel_rfl, fun j t ht => by
        rw [Tryd.params4] at ht
        have hm : t ∈ [9] := by simpa using Array.mem_of_getElem? ht
        have hall : ([9].all fun u => !Tryd.prog.wantsStandIn u) = true := by kernel_rfl
        exact (show Tryd.prog.wantsStandIn t = false by simpa using List.all_eq_true.1 hall t hm)⟩)
    (by kernel_rfl)
end Go.Proofs.YtkcaldgoomphaaaDoor
