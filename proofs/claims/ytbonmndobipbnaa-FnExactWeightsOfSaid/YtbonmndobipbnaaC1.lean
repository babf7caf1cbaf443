/- The walk of what the law reaches: contracts of functions. -/
import Derived.Test.YtbonmndobipbnaaLibM
import Derived.Test.YtbonmndobipbnaaProg
set_option linter.unusedVariables false
set_option linter.unusedSimpArgs false
namespace Go.Proofs.Ytbonmndobipbnaa
open Go
theorem ty5 : Ty Try.prog 5 (.int .u8) 1 1 (Flat.enc (0 : UInt8)) := ⟨Try.underlying5, by kernel_rfl⟩
theorem hmix : Try.prog.follows .mixedOrders = true := by kernel_rfl
theorem cb18 : Callable Try.prog 18 := ⟨_, _, Try.func18, by decide, rfl⟩
theorem cb19 : Callable Try.prog 19 := ⟨_, _, Try.func19, by decide, rfl⟩
theorem cb20 : Callable Try.prog 20 := ⟨_, _, Try.func20, by decide, rfl⟩
theorem cb21 : Callable Try.prog 21 := ⟨_, _, Try.func21, by decide, rfl⟩
theorem cb22 : Callable Try.prog 22 := ⟨_, _, Try.func22, by decide, rfl⟩
theorem cb23 : Callable Try.prog 23 := ⟨_, _, Try.func23, by decide, rfl⟩
theorem cb56 : Callable Try.prog 56 := ⟨_, _, Try.func56, by decide, rfl⟩
theorem cb61 : Callable Try.prog 61 := ⟨_, _, Try.func61, by decide, rfl⟩
theorem cb65 : Callable Try.prog 65 := ⟨_, _, Try.func65, by decide, rfl⟩
theorem cb66 : Callable Try.prog 66 := ⟨_, _, Try.func66, by decide, rfl⟩
theorem cb67 : Callable Try.prog 67 := ⟨_, _, Try.func67, by decide, rfl⟩
theorem cb68 : Callable Try.prog 68 := ⟨_, _, Try.func68, by decide, rfl⟩
theorem cb69 : Callable Try.prog 69 := ⟨_, _, Try.func69, by decide, rfl⟩
theorem cb70 : Callable Try.prog 70 := ⟨_, _, Try.func70, by decide, rfl⟩
theorem cb71 : Callable Try.prog 71 := ⟨_, _, Try.func71, by decide, rfl⟩
theorem cb72 : Callable Try.prog 72 := ⟨_, _, Try.func72, by decide, rfl⟩
theorem cb116 : Callable Try.prog 116 := ⟨_, _, Try.func116, by decide, rfl⟩
theorem cb118 : Callable Try.prog 118 := ⟨_, _, Try.func118, by decide, rfl⟩
theorem cb119 : Callable Try.prog 119 := ⟨_, _, Try.func119, by decide, rfl⟩
theorem cb120 : Callable Try.prog 120 := ⟨_, _, Try.func120, by decide, rfl⟩
theorem cb121 : Callable Try.prog 121 := ⟨_, _, Try.func121, by decide, rfl⟩
theorem cb122 : Callable Try.prog 122 := ⟨_, _, Try.func122, by decide, rfl⟩
theorem cb123 : Callable Try.prog 123 := ⟨_, _, Try.func123, by decide, rfl⟩
theorem cb124 : Callable Try.prog 124 := ⟨_, _, Try.func124, by decide, rfl⟩
theorem cb145 : Callable Try.prog 145 := ⟨_, _, Try.func145, by decide, rfl⟩
theorem cb146 : Callable Try.prog 146 := ⟨_, _, Try.func146, by decide, rfl⟩
noncomputable def L0_laws_toByteS (p0 : (List UInt8)) (s10 : (List UInt8) × Int) : Option (Fl ((List UInt8) × Int) (List UInt8)) :=
  if (decide (s10.2 < (p0.length : Int))) = true then ((idx p0 s10.2).bind fun (x17 : UInt8) => (idx s10.1 s10.2).bind fun (x20 : UInt8) => some (Fl.nx ((s10.1.set (s10.2).toNat x17), wr (s10.2 + 1)))) else (some (Fl.ex s10.1))
noncomputable def F_laws_toByteS (p0 : (List UInt8)) : Option ((List UInt8)) :=
  (mkS 1 (0 : UInt8) (p0.length : Int)).bind fun (l1 : (List UInt8)) => (iter (L0_laws_toByteS p0) (l1, 0) : Option ((List UInt8))).bind fun (j5 : (List UInt8)) => some j5
set_option maxRecDepth 20000 in
set_option maxHeartbeats 400000 in
theorem c_laws_toByteS (w0 : World) (p0 : (List UInt8)) (v0_1 : Value) (hv0_1 : Ro w0 p0 [v0_1]) (r : (List UInt8)) (hF : F_laws_toByteS p0 = some r) :
    Calls Try.prog 19 [v0_1].toArray w0 (fun en w' => ∃ v, en = .returned v ∧ (∃ (y1 : Value), v = y1 ∧ Fr w0 w' [osl NoB (r : List UInt8) y1] ∧ Kept (Old w0) w0 w')) := by
  refine c_enter (n := 22) Try.func19 rfl rfl (Nat.le_of_ble_eq_true rfl) rfl ?_
  intro a hE
  have hM := M.start w0
  unfold F_laws_toByteS at hF
  refine c_region ?_
  refine s_assign hE goes_none (by decide) rfl ?_; intro a hE
  refine c_fin ?_
  refine c_region ?_
  refine s_move hE goes_none (by decide) rfl ?_; intro a hE
  refine s_len hE goes_none (by decide) rfl Try.underlying29 (hM.rd hv0_1) ?_; intro a hE
  obtain ⟨l1, e2, hF⟩ := bind_some hF
  refine s_make hE hM goes_none (by decide) rfl rfl Try.underlying29 ty5 rfl (by decide) (fun _ => sat_flat.2 ⟨rfl, rfl⟩) e2 ?_; intro u3 w a hM hE
  refine s_assign hE goes_none (by decide) rfl ?_; intro a hE
  refine c_fin ?_
  refine wp_seq ?_
  refine c_region ?_
  refine s_assign hE goes_none (by decide) rfl ?_; intro a hE
  refine c_fin ?_
  obtain ⟨j5, hl6, hF7⟩ := bind_some hF
  refine c_cut (fun a w => ∃ (u8 : Value), Env 22 a [(3, u8)] ∧ M (Old w0) w0 w [osl NoB (j5 : List UInt8) u8]) ?_ ?_
  · skip
    refine wp_block ?_
    refine c_loop (fun (s10 : (List UInt8) × Int) a w => ∃ (u11 : Value), Env 22 a [(0, v0_1), (3, u11), (4, (vI s10.2))] ∧ M (Old w0) w0 w [osl NoB (s10.1 : List UInt8) u11]) hl6 ⟨u3, hE.sub ⟨rfl, rfl, rfl, trivial⟩, hM⟩ ?_
    rintro s10 a w ⟨u11, hE, hM⟩ o15 hs13 hx14
    unfold L0_laws_toByteS at hs13
    refine wp_seq ?_
    refine c_region ?_
    refine s_move hE goes_none (by decide) rfl ?_; intro a hE
    refine s_move hE goes_none (by decide) rfl ?_; intro a hE
    refine s_len hE goes_none (by decide) rfl Try.underlying29 (hM.rd hv0_1) ?_; intro a hE
    refine s_int hE goes_none (by decide) rfl rfl rfl ?_; intro a hE
    refine c_fin ?_
    refine c_cond hE rfl ?_ ?_
    · intro hb16
      have hs13 := ite_t hs13 hb16
      refine wp_skip ?_
      refine c_nx ?_
      refine wp_seq ?_
      refine wp_block ?_
      refine wp_region_lit ?_
      refine s_move hE goes_none (by decide) rfl ?_; intro a hE
      refine s_move hE goes_none (by decide) rfl ?_; intro a hE
      refine s_move hE goes_none (by decide) rfl ?_; intro a hE
      refine s_move hE goes_none (by decide) rfl ?_; intro a hE
      obtain ⟨x17, e18, hs13⟩ := bind_some hs13
      have hi19 := idx_some e18
      refine s_indexS hE goes_none (by decide) rfl rfl Try.underlying29 ty5 (hM.rd hv0_1) hi19.1 ?_; intro a hE
      refine s_load (v := (vB x17)) hE goes_none (by decide) rfl ty5 rfl (sl_atF (hM.rd hv0_1) hi19.2) ?_; intro a hE
      obtain ⟨x20, e21, hs13⟩ := bind_some hs13
      have hi22 := idx_some e21
      refine s_indexS hE goes_none (by decide) rfl rfl Try.underlying29 ty5 (hM.sl (pre := []) noB) hi22.1 ?_; intro a hE
      refine s_storeS (i := (s10.2).toNat) (k0 := 0) (seg := [(vB x17)]) (xo := x20) (xn := x17) hE hM goes_none rfl rfl rfl ty5 rfl (Flat.cell x17) hi22.2 (fit_num (m := 1) rfl (by decide)) (splice_all (Eq.trans rfl (Eq.symm rfl))) ?_; intro w a hM hE
      refine c_fin0 ?_
      refine c_nb ?_
      refine c_nx ?_
      refine wp_region_lit ?_
      refine s_move hE goes_none (by decide) rfl ?_; intro a hE
      refine s_int hE goes_none (by decide) rfl rfl rfl ?_; intro a hE
      refine s_assign hE goes_none (by decide) rfl ?_; intro a hE
      refine c_fin0 ?_
      refine c_mid ?_
      exact ⟨_, (Option.some.inj hs13).symm, u11, hE.sub ⟨rfl, rfl, rfl, trivial⟩, hM⟩
    · intro hb16
      have hs13 := ite_f hs13 hb16
      refine wp_exit (e_then (e_then (e_eq ?_)))
      have ht23 := hx14 _ (Option.some.inj hs13).symm
      subst ht23
      refine c_mid ?_
      exact ⟨u11, hE.sub ⟨rfl, trivial⟩, hM⟩
  · skip
    rintro a w ⟨u8, hE, hM⟩
    refine c_nx ?_
    refine c_region ?_
    refine s_move hE goes_none (by decide) rfl ?_; intro a hE
    refine s_assign hE goes_none (by decide) rfl ?_; intro a hE
    refine c_fin ?_
    have hr := Option.some.inj hF7
    subst hr
    exact wp_ret (k_ret1 hE rfl (res_tmp hE rfl) ⟨_, rfl, u8, rfl, hM.outF (locN1 locN0), hM.kept⟩)
noncomputable def F_spec_l01In (p0 : Int) (p1 : Int) (p2 : Int) : Option (Bool) :=
  (if (decide (p0 ≥ p1)) = true then (some (decide (p0 ≤ p2))) else (some false) : Option (Bool)).bind fun (j1 : Bool) => some j1
set_option maxRecDepth 20000 in
set_option maxHeartbeats 400000 in
theorem c_spec_l01In (w0 : World) (p0 : Int) (p1 : Int) (p2 : Int) (r : Bool) (hF : F_spec_l01In p0 p1 p2 = some r) :
    Calls Try.prog 118 [(vI p0), (vI p1), (vI p2)].toArray w0 (fun en w' => ∃ v, en = .returned v ∧ (v = (vT r) ∧ Kept (Old w0) w0 w')) := by
  refine c_enter (n := 15) Try.func118 rfl rfl (Nat.le_of_ble_eq_true rfl) rfl ?_
  intro a hE
  have hM := M.start w0
  unfold F_spec_l01In at hF
  refine c_region ?_
  refine s_assign hE goes_none (by decide) rfl ?_; intro a hE
  refine c_fin ?_
  obtain ⟨j1, hl2, hF3⟩ := bind_some hF
  refine c_join (fun a w => Env 15 a [(6, (vT j1))] ∧ M (Old w0) w0 w []) ?_ ?_
  · skip
    refine wp_region_lit ?_
    refine s_move hE goes_none (by decide) rfl ?_; intro a hE
    refine s_move hE goes_none (by decide) rfl ?_; intro a hE
    refine s_int hE goes_none (by decide) rfl rfl rfl ?_; intro a hE
    refine s_move hE goes_none (by decide) rfl ?_; intro a hE
    refine splitB (decide (p0 ≥ p1)) (fun hb4 => ?_) (fun hb4 => ?_)
    · have hl2 := ite_t hl2 hb4
      refine s_move hE (goes_yes hE rfl (lkb rfl hb4)) (by decide) rfl ?_; intro a hE
      refine s_move hE (goes_yes hE rfl (lkb rfl hb4)) (by decide) rfl ?_; intro a hE
      refine s_int hE (goes_yes hE rfl (lkb rfl hb4)) (by decide) rfl rfl rfl ?_; intro a hE
      refine s_pickT hE goes_none (by decide) (lkb rfl hb4) rfl ?_; intro a hE
      refine s_assign hE goes_none (by decide) rfl ?_; intro a hE
      refine c_fin0 ?_
      have ht5 := Option.some.inj hl2
      subst ht5
      refine c_mid ?_
      exact ⟨hE.sub ⟨rfl, trivial⟩, hM⟩
    · have hl2 := ite_f hl2 hb4
      refine s_skip hE rfl (lkb rfl hb4) rfl (by decide) ?_; intro a hE
      refine s_skip hE rfl (lkb rfl hb4) rfl (by decide) ?_; intro a hE
      refine s_skip hE rfl (lkb rfl hb4) rfl (by decide) ?_; intro a hE
      refine s_pickF hE goes_none (by decide) (lkb rfl hb4) rfl ?_; intro a hE
      refine s_assign hE goes_none (by decide) rfl ?_; intro a hE
      refine c_fin0 ?_
      have ht6 := Option.some.inj hl2
      subst ht6
      refine c_mid ?_
      exact ⟨hE.sub ⟨rfl, trivial⟩, hM⟩
  · skip
    rintro a w ⟨hE, hM⟩
    have hr := Option.some.inj hF3
    subst hr
    exact wp_ret (k_ret1 hE rfl (res_tmp hE rfl) ⟨_, rfl, rfl, hM.kept⟩)
noncomputable def L0_spec_l01Length (s4 : Int × Int) : Option (Fl (Int × Int) Int) :=
  if (decide (s4.1 > 0)) = true then (some (Fl.nx (wr (Int.tdiv s4.1 2), wr (s4.2 + 1)))) else (some (Fl.ex s4.2))
noncomputable def F_spec_l01Length (p0 : Int) : Option (Int) :=
  (iter (L0_spec_l01Length) (p0, 0) : Option (Int)).bind fun (j1 : Int) => some j1
set_option maxRecDepth 20000 in
set_option maxHeartbeats 400000 in
theorem c_spec_l01Length (w0 : World) (p0 : Int) (r : Int) (hF : F_spec_l01Length p0 = some r) :
    Calls Try.prog 145 [(vI p0)].toArray w0 (fun en w' => ∃ v, en = .returned v ∧ (v = (vI r) ∧ Kept (Old w0) w0 w')) := by
  refine c_enter (n := 11) Try.func145 rfl rfl (Nat.le_of_ble_eq_true rfl) rfl ?_
  intro a hE
  have hM := M.start w0
  unfold F_spec_l01Length at hF
  refine c_region ?_
  refine s_assign hE goes_none (by decide) rfl ?_; intro a hE
  refine c_fin ?_
  refine c_region ?_
  refine s_assign hE goes_none (by decide) rfl ?_; intro a hE
  refine c_fin ?_
  obtain ⟨j1, hl2, hF3⟩ := bind_some hF
  refine c_join (fun a w => Env 11 a [(3, (vI j1))] ∧ M (Old w0) w0 w []) ?_ ?_
  · skip
    refine wp_block ?_
    refine c_loop (fun (s4 : Int × Int) a w => Env 11 a [(0, (vI s4.1)), (3, (vI s4.2))] ∧ M (Old w0) w0 w []) hl2 ⟨hE.sub ⟨rfl, rfl, trivial⟩, hM⟩ ?_
    rintro s4 a w ⟨hE, hM⟩ o7 hs5 hx6
    unfold L0_spec_l01Length at hs5
    refine wp_seq ?_
    refine c_region ?_
    refine s_move hE goes_none (by decide) rfl ?_; intro a hE
    refine s_int hE goes_none (by decide) rfl rfl rfl ?_; intro a hE
    refine c_fin ?_
    refine c_cond hE rfl ?_ ?_
    · intro hb8
      have hs5 := ite_t hs5 hb8
      refine wp_skip ?_
      refine c_nx ?_
      refine wp_seq ?_
      refine wp_block ?_
      refine wp_region_lit ?_
      refine s_move hE goes_none (by decide) rfl ?_; intro a hE
      refine s_int hE goes_none (by decide) rfl rfl rfl ?_; intro a hE
      refine s_assign hE goes_none (by decide) rfl ?_; intro a hE
      refine c_fin0 ?_
      refine c_nb ?_
      refine c_nx ?_
      refine wp_region_lit ?_
      refine s_move hE goes_none (by decide) rfl ?_; intro a hE
      refine s_int hE goes_none (by decide) rfl rfl (bI_quo _ _ (by decide)) ?_; intro a hE
      refine s_assign hE goes_none (by decide) rfl ?_; intro a hE
      refine c_fin0 ?_
      refine c_mid ?_
      exact ⟨_, (Option.some.inj hs5).symm, hE.sub ⟨rfl, rfl, trivial⟩, hM⟩
    · intro hb8
      have hs5 := ite_f hs5 hb8
      refine wp_exit (e_then (e_then (e_eq ?_)))
      have ht9 := hx6 _ (Option.some.inj hs5).symm
      subst ht9
      refine c_mid ?_
      exact ⟨hE.sub ⟨rfl, trivial⟩, hM⟩
  · skip
    rintro a w ⟨hE, hM⟩
    refine c_region ?_
    refine s_move hE goes_none (by decide) rfl ?_; intro a hE
    refine s_assign hE goes_none (by decide) rfl ?_; intro a hE
    refine c_fin ?_
    have hr := Option.some.inj hF3
    subst hr
    exact wp_ret (k_ret1 hE rfl (res_tmp hE rfl) ⟨_, rfl, rfl, hM.kept⟩)
noncomputable def L0_spec_l01Rest (p1 : Int) (r1 : Int) (s8 : Int × Int) : Option (Fl (Int × Int) Int) :=
  if (decide (s8.2 ≥ r1)) = true then ((nonneg (IntKind.u64.wrap (wr (s8.2 - r1)))).bind fun _ => (F_spec_l01Length (xorI s8.1 (shlI p1 (IntKind.u64.wrap (wr (s8.2 - r1)))))).bind fun (r14 : Int) => some (Fl.nx (xorI s8.1 (shlI p1 (IntKind.u64.wrap (wr (s8.2 - r1)))), r14))) else (some (Fl.ex s8.1))
noncomputable def F_spec_l01Rest (p0 : Int) (p1 : Int) : Option (Int) :=
  (F_spec_l01Length p1).bind fun (r1 : Int) => (F_spec_l01Length p0).bind fun (r3 : Int) => (iter (L0_spec_l01Rest p1 r1) (p0, r3) : Option (Int)).bind fun (j5 : Int) => some j5
set_option maxRecDepth 20000 in
set_option maxHeartbeats 400000 in
theorem c_spec_l01Rest (w0 : World) (p0 : Int) (p1 : Int) (r : Int) (hF : F_spec_l01Rest p0 p1 = some r) :
    Calls Try.prog 119 [(vI p0), (vI p1)].toArray w0 (fun en w' => ∃ v, en = .returned v ∧ (v = (vI r) ∧ Kept (Old w0) w0 w')) := by
  refine c_enter (n := 25) Try.func119 rfl rfl (Nat.le_of_ble_eq_true rfl) rfl ?_
  intro a hE
  have hM := M.start w0
  unfold F_spec_l01Rest at hF
  refine c_region ?_
  refine s_assign hE goes_none (by decide) rfl ?_; intro a hE
  refine c_fin ?_
  refine c_region ?_
  refine s_move hE goes_none (by decide) rfl ?_; intro a hE
  obtain ⟨r1, e2, hF⟩ := bind_some hF
  refine s_call (vs := [(vI p1)]) hE goes_none (by decide) rfl cb145 (c_spec_l01Length _ p1 r1 e2) ?_
  rintro v w a ⟨rfl, hK⟩ hE
  have hM := hM.keep hK
  refine s_assign hE goes_none (by decide) rfl ?_; intro a hE
  refine c_fin ?_
  refine wp_seq ?_
  refine c_region ?_
  refine s_move hE goes_none (by decide) rfl ?_; intro a hE
  obtain ⟨r3, e4, hF⟩ := bind_some hF
  refine s_call (vs := [(vI p0)]) hE goes_none (by decide) rfl cb145 (c_spec_l01Length _ p0 r3 e4) ?_
  rintro v w a ⟨rfl, hK⟩ hE
  have hM := hM.keep hK
  refine s_assign hE goes_none (by decide) rfl ?_; intro a hE
  refine c_fin ?_
  obtain ⟨j5, hl6, hF7⟩ := bind_some hF
  refine c_cut (fun a w => Env 25 a [(0, (vI j5))] ∧ M (Old w0) w0 w []) ?_ ?_
  · skip
    refine wp_block ?_
    refine c_loop (fun (s8 : Int × Int) a w => Env 25 a [(0, (vI s8.1)), (1, (vI p1)), (5, (vI r1)), (6, (vI s8.2))] ∧ M (Old w0) w0 w []) hl6 ⟨hE.sub ⟨rfl, rfl, rfl, rfl, trivial⟩, hM⟩ ?_
    rintro s8 a w ⟨hE, hM⟩ o11 hs9 hx10
    unfold L0_spec_l01Rest at hs9
    refine wp_seq ?_
    refine c_region ?_
    refine s_move hE goes_none (by decide) rfl ?_; intro a hE
    refine s_move hE goes_none (by decide) rfl ?_; intro a hE
    refine s_int hE goes_none (by decide) rfl rfl rfl ?_; intro a hE
    refine c_fin ?_
    refine c_cond hE rfl ?_ ?_
    · intro hb12
      have hs9 := ite_t hs9 hb12
      refine wp_skip ?_
      refine c_nx ?_
      refine wp_seq ?_
      refine wp_block ?_
      refine wp_region_lit ?_
      refine s_move hE goes_none (by decide) rfl ?_; intro a hE
      refine s_move hE goes_none (by decide) rfl ?_; intro a hE
      refine s_move hE goes_none (by decide) rfl ?_; intro a hE
      refine s_move hE goes_none (by decide) rfl ?_; intro a hE
      refine s_int hE goes_none (by decide) rfl rfl rfl ?_; intro a hE
      refine s_conv hE goes_none (by decide) rfl Try.underlying2 Try.underlying158 ?_; intro a hE
      obtain ⟨_, e13, hs9⟩ := bind_some hs9
      have e13 := nonneg_some e13
      refine s_sh hE goes_none (by decide) rfl rfl (bI_shl _ _ e13) ?_; intro a hE
      refine s_int hE goes_none (by decide) rfl rfl rfl ?_; intro a hE
      refine s_assign hE goes_none (by decide) rfl ?_; intro a hE
      refine c_fin0 ?_
      refine c_nb ?_
      refine c_nx ?_
      refine wp_region_lit ?_
      refine s_move hE goes_none (by decide) rfl ?_; intro a hE
      obtain ⟨r14, e15, hs9⟩ := bind_some hs9
      refine s_call (vs := [(vI (xorI s8.1 (shlI p1 (IntKind.u64.wrap (wr (s8.2 - r1))))))]) hE goes_none (by decide) rfl cb145 (c_spec_l01Length _ (xorI s8.1 (shlI p1 (IntKind.u64.wrap (wr (s8.2 - r1))))) r14 e15) ?_
      rintro v w a ⟨rfl, hK⟩ hE
      have hM := hM.keep hK
      refine s_assign hE goes_none (by decide) rfl ?_; intro a hE
      refine c_fin0 ?_
      refine c_mid ?_
      exact ⟨_, (Option.some.inj hs9).symm, hE.sub ⟨rfl, rfl, rfl, rfl, trivial⟩, hM⟩
    · intro hb12
      have hs9 := ite_f hs9 hb12
      refine wp_exit (e_then (e_then (e_eq ?_)))
      have ht16 := hx10 _ (Option.some.inj hs9).symm
      subst ht16
      refine c_mid ?_
      exact ⟨hE.sub ⟨rfl, trivial⟩, hM⟩
  · skip
    rintro a w ⟨hE, hM⟩
    refine c_nx ?_
    refine c_region ?_
    refine s_move hE goes_none (by decide) rfl ?_; intro a hE
    refine s_assign hE goes_none (by decide) rfl ?_; intro a hE
    refine c_fin ?_
    have hr := Option.some.inj hF7
    subst hr
    exact wp_ret (k_ret1 hE rfl (res_tmp hE rfl) ⟨_, rfl, rfl, hM.kept⟩)
noncomputable def L0_spec_l01Field (p0 : Int) (s8 : Int) : Option (Fl Int (Fl Unit Bool)) :=
  if (decide (s8 < 32)) = true then ((F_spec_l01Rest p0 s8).bind fun (r13 : Int) => if (r13 == 0) = true then (some (Fl.ex (Fl.ex false))) else (some (Fl.nx (wr (s8 + 1))))) else (some (Fl.ex (Fl.nx ())))
noncomputable def F_spec_l01Field (p0 : Int) : Option (Bool) :=
  (F_spec_l01In p0 256 511).bind fun (r1 : Bool) => if (!r1) = true then (some false) else ((iter (L0_spec_l01Field p0) 2 : Option (Fl Unit Bool)).bind fun (j4 : Fl Unit Bool) => j4.el (fun (s7 : Unit) => some true) (fun r => some r))
set_option maxRecDepth 20000 in
set_option maxHeartbeats 400000 in
theorem c_spec_l01Field (w0 : World) (p0 : Int) (r : Bool) (hF : F_spec_l01Field p0 = some r) :
    Calls Try.prog 65 [(vI p0)].toArray w0 (fun en w' => ∃ v, en = .returned v ∧ (v = (vT r) ∧ Kept (Old w0) w0 w')) := by
  refine c_enter (n := 15) Try.func65 rfl rfl (Nat.le_of_ble_eq_true rfl) rfl ?_
  intro a hE
  have hM := M.start w0
  unfold F_spec_l01Field at hF
  refine c_region ?_
  refine s_assign hE goes_none (by decide) rfl ?_; intro a hE
  refine c_fin ?_
  refine wp_seq ?_
  refine c_region ?_
  refine s_move hE goes_none (by decide) rfl ?_; intro a hE
  obtain ⟨r1, e2, hF⟩ := bind_some hF
  refine s_call (vs := [(vI p0), (vI 256), (vI 511)]) hE goes_none (by decide) rfl cb118 (c_spec_l01In _ p0 256 511 r1 e2) ?_
  rintro v w a ⟨rfl, hK⟩ hE
  have hM := hM.keep hK
  refine s_not hE goes_none (by decide) rfl ?_; intro a hE
  refine c_fin ?_
  refine c_cond hE rfl ?_ ?_
  · intro hb3
    have hF := ite_t hF hb3
    refine c_region ?_
    refine s_assign hE goes_none (by decide) rfl ?_; intro a hE
    refine c_fin ?_
    have hr := Option.some.inj hF
    subst hr
    exact wp_ret (r_then (k_ret1 hE rfl (res_tmp hE rfl) ⟨_, rfl, rfl, hM.kept⟩))
  · intro hb3
    have hF := ite_f hF hb3
    refine wp_skip ?_
    refine c_nx ?_
    refine wp_seq ?_
    refine c_region ?_
    refine s_assign hE goes_none (by decide) rfl ?_; intro a hE
    refine c_fin ?_
    obtain ⟨j4, hl5, hF6⟩ := bind_some hF
    refine c_cut (fun a w => ∃ s7 : Unit, j4 = Fl.nx s7 ∧ Env 15 a [] ∧ M (Old w0) w0 w []) ?_ ?_
    · skip
      refine wp_block ?_
      refine c_loop (fun (s8 : Int) a w => Env 15 a [(0, (vI p0)), (3, (vI s8))] ∧ M (Old w0) w0 w []) hl5 ⟨hE.sub ⟨rfl, rfl, trivial⟩, hM⟩ ?_
      rintro s8 a w ⟨hE, hM⟩ o11 hs9 hx10
      unfold L0_spec_l01Field at hs9
      refine wp_seq ?_
      refine c_region ?_
      refine s_move hE goes_none (by decide) rfl ?_; intro a hE
      refine s_int hE goes_none (by decide) rfl rfl rfl ?_; intro a hE
      refine c_fin ?_
      refine c_cond hE rfl ?_ ?_
      · intro hb12
        have hs9 := ite_t hs9 hb12
        refine wp_skip ?_
        refine c_nx ?_
        refine wp_seq ?_
        refine wp_block ?_
        refine c_region ?_
        refine s_move hE goes_none (by decide) rfl ?_; intro a hE
        refine s_move hE goes_none (by decide) rfl ?_; intro a hE
        obtain ⟨r13, e14, hs9⟩ := bind_some hs9
        refine s_call (vs := [(vI p0), (vI s8)]) hE goes_none (by decide) rfl cb119 (c_spec_l01Rest _ p0 s8 r13 e14) ?_
        rintro v w a ⟨rfl, hK⟩ hE
        have hM := hM.keep hK
        refine s_int hE goes_none (by decide) rfl rfl rfl ?_; intro a hE
        refine c_fin ?_
        refine c_cond hE rfl ?_ ?_
        · intro hb15
          have hs9 := ite_t hs9 hb15
          refine c_region ?_
          refine s_assign hE goes_none (by decide) rfl ?_; intro a hE
          refine c_fin ?_
          have ht16 := hx10 _ (Option.some.inj hs9).symm
          subst ht16
          have hr := Option.some.inj hF6
          subst hr
          exact wp_ret (r_inb (r_then (r_then (r_inb (r_then (r_then (k_ret1 hE rfl (res_tmp hE rfl) ⟨_, rfl, rfl, hM.kept⟩)))))))
        · intro hb15
          have hs9 := ite_f hs9 hb15
          refine wp_skip ?_
          refine c_nb ?_
          refine c_nx ?_
          refine wp_region_lit ?_
          refine s_move hE goes_none (by decide) rfl ?_; intro a hE
          refine s_int hE goes_none (by decide) rfl rfl rfl ?_; intro a hE
          refine s_assign hE goes_none (by decide) rfl ?_; intro a hE
          refine c_fin0 ?_
          refine c_mid ?_
          exact ⟨_, (Option.some.inj hs9).symm, hE.sub ⟨rfl, rfl, trivial⟩, hM⟩
      · intro hb12
        have hs9 := ite_f hs9 hb12
        refine wp_exit (e_then (e_then (e_eq ?_)))
        have ht17 := hx10 _ (Option.some.inj hs9).symm
        subst ht17
        refine c_mid ?_
        exact ⟨(), rfl, hE.sub trivial, hM⟩
    · skip
      rintro a w ⟨s7, ht, hE, hM⟩
      subst ht
      refine c_nx ?_
      refine c_region ?_
      refine s_assign hE goes_none (by decide) rfl ?_; intro a hE
      refine c_fin ?_
      have hr := Option.some.inj hF6
      subst hr
      exact wp_ret (k_ret1 hE rfl (res_tmp hE rfl) ⟨_, rfl, rfl, hM.kept⟩)
noncomputable def L1_spec_l01Twice (p0 : (List UInt8)) (s5 : Int) (s14 : Int) : Option (Fl Int (Fl Unit Bool)) :=
  if (decide (s14 < s5)) = true then (((idx p0 s5).bind fun (x23 : UInt8) => (idx p0 s14).bind fun (x26 : UInt8) => some (x23 == x26) : Option (Bool)).bind fun (j19 : Bool) => if j19 = true then (some (Fl.ex (Fl.ex true))) else (some (Fl.nx (wr (s14 + 1))))) else (some (Fl.ex (Fl.nx ())))
noncomputable def L0_spec_l01Twice (p0 : (List UInt8)) (s5 : Int) : Option (Fl Int (Fl Unit Bool)) :=
  if (decide (s5 < (p0.length : Int))) = true then ((iter (L1_spec_l01Twice p0 s5) 0 : Option (Fl Unit Bool)).bind fun (j10 : Fl Unit Bool) => j10.el (fun (s13 : Unit) => some (Fl.nx (wr (s5 + 1)))) (fun r => some (Fl.ex (Fl.ex r)))) else (some (Fl.ex (Fl.nx ())))
noncomputable def F_spec_l01Twice (p0 : (List UInt8)) : Option (Bool) :=
  (iter (L0_spec_l01Twice p0) 0 : Option (Fl Unit Bool)).bind fun (j1 : Fl Unit Bool) => j1.el (fun (s4 : Unit) => some false) (fun r => some r)
set_option maxRecDepth 20000 in
set_option maxHeartbeats 400000 in
theorem c_spec_l01Twice (w0 : World) (p0 : (List UInt8)) (v0_1 : Value) (hv0_1 : Ro w0 p0 [v0_1]) (r : Bool) (hF : F_spec_l01Twice p0 = some r) :
    Calls Try.prog 120 [v0_1].toArray w0 (fun en w' => ∃ v, en = .returned v ∧ (v = (vT r) ∧ Kept (Old w0) w0 w')) := by
  refine c_enter (n := 25) Try.func120 rfl rfl (Nat.le_of_ble_eq_true rfl) rfl ?_
  intro a hE
  have hM := M.start w0
  unfold F_spec_l01Twice at hF
  refine c_region ?_
  refine s_assign hE goes_none (by decide) rfl ?_; intro a hE
  refine c_fin ?_
  refine wp_seq ?_
  refine c_region ?_
  refine s_assign hE goes_none (by decide) rfl ?_; intro a hE
  refine c_fin ?_
  obtain ⟨j1, hl2, hF3⟩ := bind_some hF
  refine c_cut (fun a w => ∃ s4 : Unit, j1 = Fl.nx s4 ∧ Env 25 a [] ∧ M (Old w0) w0 w []) ?_ ?_
  · skip
    refine wp_block ?_
    refine c_loop (fun (s5 : Int) a w => Env 25 a [(0, v0_1), (3, (vI s5))] ∧ M (Old w0) w0 w []) hl2 ⟨hE.sub ⟨rfl, rfl, trivial⟩, hM⟩ ?_
    rintro s5 a w ⟨hE, hM⟩ o8 hs6 hx7
    unfold L0_spec_l01Twice at hs6
    refine wp_seq ?_
    refine c_region ?_
    refine s_move hE goes_none (by decide) rfl ?_; intro a hE
    refine s_move hE goes_none (by decide) rfl ?_; intro a hE
    refine s_len hE goes_none (by decide) rfl Try.underlying29 (hM.rd hv0_1) ?_; intro a hE
    refine s_int hE goes_none (by decide) rfl rfl rfl ?_; intro a hE
    refine c_fin ?_
    refine c_cond hE rfl ?_ ?_
    · intro hb9
      have hs6 := ite_t hs6 hb9
      refine wp_skip ?_
      refine c_nx ?_
      refine wp_seq ?_
      refine wp_block ?_
      refine c_region ?_
      refine s_assign hE goes_none (by decide) rfl ?_; intro a hE
      refine c_fin ?_
      obtain ⟨j10, hl11, hF12⟩ := bind_some hs6
      refine c_cut (fun a w => ∃ s13 : Unit, j10 = Fl.nx s13 ∧ Env 25 a [(0, v0_1), (3, (vI s5))] ∧ M (Old w0) w0 w []) ?_ ?_
      · skip
        refine wp_block ?_
        refine c_loop (fun (s14 : Int) a w => Env 25 a [(0, v0_1), (3, (vI s5)), (4, (vI s14))] ∧ M (Old w0) w0 w []) hl11 ⟨hE.sub ⟨rfl, rfl, rfl, trivial⟩, hM⟩ ?_
        rintro s14 a w ⟨hE, hM⟩ o17 hs15 hx16
        unfold L1_spec_l01Twice at hs15
        refine wp_seq ?_
        refine c_region ?_
        refine s_move hE goes_none (by decide) rfl ?_; intro a hE
        refine s_move hE goes_none (by decide) rfl ?_; intro a hE
        refine s_int hE goes_none (by decide) rfl rfl rfl ?_; intro a hE
        refine c_fin ?_
        refine c_cond hE rfl ?_ ?_
        · intro hb18
          have hs15 := ite_t hs15 hb18
          refine wp_skip ?_
          refine c_nx ?_
          refine wp_seq ?_
          refine wp_block ?_
          obtain ⟨j19, hl20, hF21⟩ := bind_some hs15
          refine c_join (fun a w => Env 25 a [(0, v0_1), (3, (vI s5)), (4, (vI s14)), (24, (vT j19))] ∧ M (Old w0) w0 w []) ?_ ?_
          · skip
            obtain ⟨x23, e24, hl20⟩ := bind_some hl20
            have hi25 := idx_some e24
            obtain ⟨x26, e27, hl20⟩ := bind_some hl20
            have hi28 := idx_some e27
            refine c_draw (n := 25) (hd := [_, _, _, _, _, _, _, _, _]) (tl := []) hmix rfl rfl [16, 17, 18, 19, 20, 21, 22, 23, 24] (by decide) (fun w => M (Old w0) w0 w []) (fun j => ([fun v _ => v = v0_1, fun v _ => v = (vI s5), fun v _ => v = (ptr (sb v0_1) (so v0_1 + (s5).toNat * 1)), fun v _ => v = (vB x23), fun v _ => v = v0_1, fun v _ => v = (vI s14), fun v _ => v = (ptr (sb v0_1) (so v0_1 + (s14).toNat * 1)), fun v _ => v = (vB x26), fun v _ => v = (vT (x23 == x26))] : List (Value → World → Prop)).getD j (fun _ _ => True)) (fun _ _ h hk => h.keep hk) (gup (gupE (gupE (gupE (gupE (gupE (gupE (gupE (gupE (gupE gupN)))))))))) hE hM.drew (steps_of (steps_cons ?_ (steps_cons ?_ (steps_cons ?_ (steps_cons ?_ (steps_cons ?_ (steps_cons ?_ (steps_cons ?_ (steps_cons ?_ (steps_cons ?_ steps_nil)))))))))) ?_
            · intro a w ux22 hE hM hp
              refine s_move hE goes_none (by decide) rfl ?_; intro a hE
              exact ⟨Kept.refl _ _, _, _, rfl, hE, rfl⟩
            · intro a w ux22 hE hM hp
              refine s_move hE goes_none (by decide) rfl ?_; intro a hE
              exact ⟨Kept.refl _ _, _, _, rfl, hE, rfl⟩
            · intro a w ux22 hE hM hp
              have f0 : ux22 0 = v0_1 := hp 0 _ rfl rfl
              have f1 : ux22 1 = (vI s5) := hp 1 _ rfl rfl
              refine s_indexS hE goes_none (by decide) (lk rfl f0) (lk rfl f1) Try.underlying29 ty5 (hM.rd hv0_1) hi25.1 ?_; intro a hE
              exact ⟨Kept.refl _ _, _, _, rfl, hE, rfl⟩
            · intro a w ux22 hE hM hp
              have f2 : ux22 2 = (ptr (sb v0_1) (so v0_1 + (s5).toNat * 1)) := hp 0 _ rfl rfl
              refine s_load (v := (vB x23)) hE goes_none (by decide) (lk rfl f2) ty5 rfl (sl_atF (hM.rd hv0_1) hi25.2) ?_; intro a hE
              exact ⟨Kept.refl _ _, _, _, rfl, hE, rfl⟩
            · intro a w ux22 hE hM hp
              refine s_move hE goes_none (by decide) rfl ?_; intro a hE
              exact ⟨Kept.refl _ _, _, _, rfl, hE, rfl⟩
            · intro a w ux22 hE hM hp
              refine s_move hE goes_none (by decide) rfl ?_; intro a hE
              exact ⟨Kept.refl _ _, _, _, rfl, hE, rfl⟩
            · intro a w ux22 hE hM hp
              have f4 : ux22 4 = v0_1 := hp 0 _ rfl rfl
              have f5 : ux22 5 = (vI s14) := hp 1 _ rfl rfl
              refine s_indexS hE goes_none (by decide) (lk rfl f4) (lk rfl f5) Try.underlying29 ty5 (hM.rd hv0_1) hi28.1 ?_; intro a hE
              exact ⟨Kept.refl _ _, _, _, rfl, hE, rfl⟩
            · intro a w ux22 hE hM hp
              have f6 : ux22 6 = (ptr (sb v0_1) (so v0_1 + (s14).toNat * 1)) := hp 0 _ rfl rfl
              refine s_load (v := (vB x26)) hE goes_none (by decide) (lk rfl f6) ty5 rfl (sl_atF (hM.rd hv0_1) hi28.2) ?_; intro a hE
              exact ⟨Kept.refl _ _, _, _, rfl, hE, rfl⟩
            · intro a w ux22 hE hM hp
              have f3 : ux22 3 = (vB x23) := hp 0 _ rfl rfl
              have f7 : ux22 7 = (vB x26) := hp 1 _ rfl rfl
              refine s_int hE goes_none (by decide) (lk rfl f3) (lk rfl f7) (bB_eql x23 x26) ?_; intro a hE
              exact ⟨Kept.refl _ _, _, _, rfl, hE, rfl⟩
            · intro a w ux22 hE hM hg
              have f0 : ux22 0 = v0_1 := hg 0 (by decide)
              have f1 : ux22 1 = (vI s5) := hg 1 (by decide)
              have f2 : ux22 2 = (ptr (sb v0_1) (so v0_1 + (s5).toNat * 1)) := hg 2 (by decide)
              have f3 : ux22 3 = (vB x23) := hg 3 (by decide)
              have f4 : ux22 4 = v0_1 := hg 4 (by decide)
              have f5 : ux22 5 = (vI s14) := hg 5 (by decide)
              have f6 : ux22 6 = (ptr (sb v0_1) (so v0_1 + (s14).toNat * 1)) := hg 6 (by decide)
              have f7 : ux22 7 = (vB x26) := hg 7 (by decide)
              have f8 : ux22 8 = (vT (x23 == x26)) := hg 8 (by decide)
              have hE := hE.sub (e' := [(16, v0_1), (17, (vI s5)), (18, (ptr (sb v0_1) (so v0_1 + (s5).toNat * 1))), (19, (vB x23)), (20, v0_1), (21, (vI s14)), (22, (ptr (sb v0_1) (so v0_1 + (s14).toNat * 1))), (23, (vB x26)), (24, (vT (x23 == x26))), (0, v0_1), (3, (vI s5)), (4, (vI s14)), (11, (vI s14)), (12, (vI s5)), (13, (vT (decide (s14 < s5))))]) ⟨lk rfl f0, lk rfl f1, lk rfl f2, lk rfl f3, lk rfl f4, lk rfl f5, lk rfl f6, lk rfl f7, lk rfl f8, rfl, rfl, rfl, rfl, rfl, rfl, trivial⟩
              refine c_fin0 ?_
              have ht29 := Option.some.inj hl20
              subst ht29
              refine c_mid ?_
              exact ⟨hE.sub ⟨rfl, rfl, rfl, rfl, trivial⟩, hM⟩
          · skip
            rintro a w ⟨hE, hM⟩
            refine c_cond hE rfl ?_ ?_
            · intro hb30
              have hF21 := ite_t hF21 hb30
              refine c_region ?_
              refine s_assign hE goes_none (by decide) rfl ?_; intro a hE
              refine c_fin ?_
              have ht31 := hx16 _ (Option.some.inj hF21).symm
              subst ht31
              have ht32 := hx7 _ (Option.some.inj hF12).symm
              subst ht32
              have hr := Option.some.inj hF3
              subst hr
              exact wp_ret (r_inb (r_then (r_then (r_inb (r_then (r_inb (r_then (r_then (r_inb (r_then (r_then (k_ret1 hE rfl (res_tmp hE rfl) ⟨_, rfl, rfl, hM.kept⟩))))))))))))
            · intro hb30
              have hF21 := ite_f hF21 hb30
              refine wp_skip ?_
              refine c_nb ?_
              refine c_nx ?_
              refine wp_region_lit ?_
              refine s_move hE goes_none (by decide) rfl ?_; intro a hE
              refine s_int hE goes_none (by decide) rfl rfl rfl ?_; intro a hE
              refine s_assign hE goes_none (by decide) rfl ?_; intro a hE
              refine c_fin0 ?_
              refine c_mid ?_
              exact ⟨_, (Option.some.inj hF21).symm, hE.sub ⟨rfl, rfl, rfl, trivial⟩, hM⟩
        · intro hb18
          have hs15 := ite_f hs15 hb18
          refine wp_exit (e_then (e_then (e_eq ?_)))
          have ht33 := hx16 _ (Option.some.inj hs15).symm
          subst ht33
          refine c_mid ?_
          exact ⟨(), rfl, hE.sub ⟨rfl, rfl, trivial⟩, hM⟩
      · skip
        rintro a w ⟨s13, ht, hE, hM⟩
        subst ht
        refine c_nb ?_
        refine c_nx ?_
        refine wp_region_lit ?_
        refine s_move hE goes_none (by decide) rfl ?_; intro a hE
        refine s_int hE goes_none (by decide) rfl rfl rfl ?_; intro a hE
        refine s_assign hE goes_none (by decide) rfl ?_; intro a hE
        refine c_fin0 ?_
        refine c_mid ?_
        exact ⟨_, (Option.some.inj hF12).symm, hE.sub ⟨rfl, rfl, trivial⟩, hM⟩
    · intro hb9
      have hs6 := ite_f hs6 hb9
      refine wp_exit (e_then (e_then (e_eq ?_)))
      have ht34 := hx7 _ (Option.some.inj hs6).symm
      subst ht34
      refine c_mid ?_
      exact ⟨(), rfl, hE.sub trivial, hM⟩
  · skip
    rintro a w ⟨s4, ht, hE, hM⟩
    subst ht
    refine c_nx ?_
    refine c_region ?_
    refine s_assign hE goes_none (by decide) rfl ?_; intro a hE
    refine c_fin ?_
    have hr := Option.some.inj hF3
    subst hr
    exact wp_ret (k_ret1 hE rfl (res_tmp hE rfl) ⟨_, rfl, rfl, hM.kept⟩)
noncomputable def F_spec_l10Wrong (p0 : (List UInt8)) : Option (Bool) :=
  (app 1 ([0] : List UInt8) p0).bind fun (l3 : (List UInt8)) => (F_spec_l01Twice (([0] : List UInt8) ++ p0)).bind fun (r8 : Bool) => some r8
set_option maxRecDepth 20000 in
set_option maxHeartbeats 400000 in
theorem c_spec_l10Wrong (w0 : World) (p0 : (List UInt8)) (v0_1 : Value) (hv0_1 : Ro w0 p0 [v0_1]) (r : Bool) (hF : F_spec_l10Wrong p0 = some r) :
    Calls Try.prog 66 [v0_1].toArray w0 (fun en w' => ∃ v, en = .returned v ∧ (v = (vT r) ∧ Kept (Old w0) w0 w')) := by
  refine c_enter (n := 7) Try.func66 rfl rfl (Nat.le_of_ble_eq_true rfl) rfl ?_
  intro a hE
  have hM := M.start w0
  unfold F_spec_l10Wrong at hF
  refine c_region ?_
  refine s_assign hE goes_none (by decide) rfl ?_; intro a hE
  refine c_fin ?_
  refine c_region ?_
  refine s_buildF (xs := [.const (vB 0)]) (l := ([0] : List UInt8)) (vs := [(vB 0)]) hE hM goes_none (by decide) rfl rfl Try.underlying29 ty5 rfl (by decide) rfl ?_; intro u1 w a hM hE
  refine s_move hE goes_none (by decide) rfl ?_; intro a hE
  obtain ⟨l3, e4, hF⟩ := bind_some hF
  obtain ⟨e7, rfl⟩ := app_some e4
  refine s_appendF hE hM goes_none (by decide) rfl rfl (hM.rd hv0_1) Try.underlying29 ty5 rfl (by decide) e7 ?_; intro u5 w a hM hE
  obtain ⟨r8, e9, hF⟩ := bind_some hF
  refine s_call (vs := [u5]) hE goes_none (by decide) rfl cb120 (c_spec_l01Twice _ (([0] : List UInt8) ++ p0) u5 (hM.sl (pre := []) noB) r8 e9) ?_
  rintro v w a ⟨rfl, hK⟩ hE
  have hM := hM.keep hK
  refine s_assign hE goes_none (by decide) rfl ?_; intro a hE
  refine c_fin ?_
  have hr := Option.some.inj hF
  subst hr
  have hM := M.fst (l := []) hM
  exact wp_ret (k_ret1 hE rfl (res_tmp hE rfl) ⟨_, rfl, rfl, hM.kept⟩)
noncomputable def L0_spec_l01Times (p0 : Int) (s4 : Int × Int × Int) : Option (Fl (Int × Int × Int) Int) :=
  if (decide (s4.2.2 > 0)) = true then (((if ((Int.tmod s4.2.2 2) == 1) = true then (some (xorI s4.1 s4.2.1)) else (some s4.1) : Option (Int)).bind fun (j12 : Int) => (if (decide ((wr (s4.2.1 * 2)) ≥ 256)) = true then (some (xorI (wr (s4.2.1 * 2)) p0)) else (some (wr (s4.2.1 * 2))) : Option (Int)).bind fun (j18 : Int) => some (j12, j18) : Option (Int × Int)).bind fun (j9 : Int × Int) => some (Fl.nx (j9.1, j9.2, wr (Int.tdiv s4.2.2 2)))) else (some (Fl.ex s4.1))
noncomputable def F_spec_l01Times (p0 : Int) (p1 : UInt8) (p2 : UInt8) : Option (UInt8) :=
  (iter (L0_spec_l01Times p0) (0, bI p1, bI p2) : Option (Int)).bind fun (j1 : Int) => some (byteI j1)
set_option maxRecDepth 20000 in
set_option maxHeartbeats 400000 in
theorem c_spec_l01Times (w0 : World) (p0 : Int) (p1 : UInt8) (p2 : UInt8) (r : UInt8) (hF : F_spec_l01Times p0 p1 p2 = some r) :
    Calls Try.prog 121 [(vI p0), (vB p1), (vB p2)].toArray w0 (fun en w' => ∃ v, en = .returned v ∧ (v = (vB r) ∧ Kept (Old w0) w0 w')) := by
  refine c_enter (n := 33) Try.func121 rfl rfl (Nat.le_of_ble_eq_true rfl) rfl ?_
  intro a hE
  have hM := M.start w0
  unfold F_spec_l01Times at hF
  refine c_region ?_
  refine s_assign hE goes_none (by decide) rfl ?_; intro a hE
  refine c_fin ?_
  refine c_region ?_
  refine s_move hE goes_none (by decide) rfl ?_; intro a hE
  refine s_conv hE goes_none (by decide) rfl Try.underlying5 Try.underlying2 ?_; intro a hE
  rw [byte_wide] at hE
  refine s_assign hE goes_none (by decide) rfl ?_; intro a hE
  refine s_assign hE goes_none (by decide) rfl ?_; intro a hE
  refine c_fin ?_
  refine wp_seq ?_
  refine c_region ?_
  refine s_move hE goes_none (by decide) rfl ?_; intro a hE
  refine s_conv hE goes_none (by decide) rfl Try.underlying5 Try.underlying2 ?_; intro a hE
  rw [byte_wide] at hE
  refine s_assign hE goes_none (by decide) rfl ?_; intro a hE
  refine c_fin ?_
  obtain ⟨j1, hl2, hF3⟩ := bind_some hF
  refine c_cut (fun a w => Env 33 a [(7, (vI j1))] ∧ M (Old w0) w0 w []) ?_ ?_
  · skip
    refine wp_block ?_
    refine c_loop (fun (s4 : Int × Int × Int) a w => Env 33 a [(0, (vI p0)), (7, (vI s4.1)), (8, (vI s4.2.1)), (9, (vI s4.2.2))] ∧ M (Old w0) w0 w []) hl2 ⟨hE.sub ⟨rfl, rfl, rfl, rfl, trivial⟩, hM⟩ ?_
    rintro s4 a w ⟨hE, hM⟩ o7 hs5 hx6
    unfold L0_spec_l01Times at hs5
    refine wp_seq ?_
    refine c_region ?_
    refine s_move hE goes_none (by decide) rfl ?_; intro a hE
    refine s_int hE goes_none (by decide) rfl rfl rfl ?_; intro a hE
    refine c_fin ?_
    refine c_cond hE rfl ?_ ?_
    · intro hb8
      have hs5 := ite_t hs5 hb8
      refine wp_skip ?_
      refine c_nx ?_
      obtain ⟨j9, hl10, hF11⟩ := bind_some hs5
      refine c_join (fun a w => Env 33 a [(0, (vI p0)), (7, (vI j9.1)), (8, (vI j9.2)), (9, (vI s4.2.2))] ∧ M (Old w0) w0 w []) ?_ ?_
      · skip
        refine wp_block ?_
        obtain ⟨j12, hl13, hF14⟩ := bind_some hl10
        refine c_join (fun a w => Env 33 a [(0, (vI p0)), (7, (vI j12)), (8, (vI s4.2.1)), (9, (vI s4.2.2))] ∧ M (Old w0) w0 w []) ?_ ?_
        · skip
          refine c_region ?_
          refine s_move hE goes_none (by decide) rfl ?_; intro a hE
          refine s_int hE goes_none (by decide) rfl rfl (bI_rem _ _ (by decide)) ?_; intro a hE
          refine s_int hE goes_none (by decide) rfl rfl rfl ?_; intro a hE
          refine c_fin ?_
          refine c_cond hE rfl ?_ ?_
          · intro hb15
            have hl13 := ite_t hl13 hb15
            refine wp_region_lit ?_
            refine s_move hE goes_none (by decide) rfl ?_; intro a hE
            refine s_move hE goes_none (by decide) rfl ?_; intro a hE
            refine s_int hE goes_none (by decide) rfl rfl rfl ?_; intro a hE
            refine s_assign hE goes_none (by decide) rfl ?_; intro a hE
            refine c_fin0 ?_
            have ht16 := Option.some.inj hl13
            subst ht16
            refine c_mid ?_
            exact ⟨hE.sub ⟨rfl, rfl, rfl, rfl, trivial⟩, hM⟩
          · intro hb15
            have hl13 := ite_f hl13 hb15
            refine wp_skip ?_
            have ht17 := Option.some.inj hl13
            subst ht17
            refine c_mid ?_
            exact ⟨hE.sub ⟨rfl, rfl, rfl, rfl, trivial⟩, hM⟩
        · skip
          rintro a w ⟨hE, hM⟩
          refine c_region ?_
          refine s_move hE goes_none (by decide) rfl ?_; intro a hE
          refine s_int hE goes_none (by decide) rfl rfl rfl ?_; intro a hE
          refine s_assign hE goes_none (by decide) rfl ?_; intro a hE
          refine c_fin ?_
          refine c_region ?_
          refine s_move hE goes_none (by decide) rfl ?_; intro a hE
          refine s_int hE goes_none (by decide) rfl rfl rfl ?_; intro a hE
          refine c_fin ?_
          obtain ⟨j18, hl19, hF20⟩ := bind_some hF14
          refine c_cut (fun a w => Env 33 a [(0, (vI p0)), (7, (vI j12)), (8, (vI j18)), (9, (vI s4.2.2))] ∧ M (Old w0) w0 w []) ?_ ?_
          · skip
            refine c_cond hE rfl ?_ ?_
            · intro hb21
              have hl19 := ite_t hl19 hb21
              refine wp_region_lit ?_
              refine s_move hE goes_none (by decide) rfl ?_; intro a hE
              refine s_move hE goes_none (by decide) rfl ?_; intro a hE
              refine s_int hE goes_none (by decide) rfl rfl rfl ?_; intro a hE
              refine s_assign hE goes_none (by decide) rfl ?_; intro a hE
              refine c_fin0 ?_
              have ht22 := Option.some.inj hl19
              subst ht22
              refine c_mid ?_
              exact ⟨hE.sub ⟨rfl, rfl, rfl, rfl, trivial⟩, hM⟩
            · intro hb21
              have hl19 := ite_f hl19 hb21
              refine wp_skip ?_
              have ht23 := Option.some.inj hl19
              subst ht23
              refine c_mid ?_
              exact ⟨hE.sub ⟨rfl, rfl, rfl, rfl, trivial⟩, hM⟩
          · skip
            rintro a w ⟨hE, hM⟩
            refine c_nb ?_
            have ht24 := Option.some.inj hF20
            subst ht24
            refine c_mid ?_
            exact ⟨hE.sub ⟨rfl, rfl, rfl, rfl, trivial⟩, hM⟩
      · skip
        rintro a w ⟨hE, hM⟩
        refine wp_region_lit ?_
        refine s_move hE goes_none (by decide) rfl ?_; intro a hE
        refine s_int hE goes_none (by decide) rfl rfl (bI_quo _ _ (by decide)) ?_; intro a hE
        refine s_assign hE goes_none (by decide) rfl ?_; intro a hE
        refine c_fin0 ?_
        refine c_mid ?_
        exact ⟨_, (Option.some.inj hF11).symm, hE.sub ⟨rfl, rfl, rfl, rfl, trivial⟩, hM⟩
    · intro hb8
      have hs5 := ite_f hs5 hb8
      refine wp_exit (e_then (e_then (e_eq ?_)))
      have ht25 := hx6 _ (Option.some.inj hs5).symm
      subst ht25
      refine c_mid ?_
      exact ⟨hE.sub ⟨rfl, trivial⟩, hM⟩
  · skip
    rintro a w ⟨hE, hM⟩
    refine c_nx ?_
    refine c_region ?_
    refine s_move hE goes_none (by decide) rfl ?_; intro a hE
    refine s_conv hE goes_none (by decide) rfl Try.underlying2 Try.underlying5 ?_; intro a hE
    rw [byteI_val] at hE
    refine s_assign hE goes_none (by decide) rfl ?_; intro a hE
    refine c_fin ?_
    have hr := Option.some.inj hF3
    subst hr
    exact wp_ret (k_ret1 hE rfl (res_tmp hE rfl) ⟨_, rfl, rfl, hM.kept⟩)
noncomputable def L0_spec_l01Power (p0 : Int) (s4 : UInt8 × Int × UInt8) : Option (Fl (UInt8 × Int × UInt8) UInt8) :=
  if (decide (s4.2.1 > 0)) = true then (((if ((Int.tmod s4.2.1 2) == 1) = true then ((F_spec_l01Times p0 s4.2.2 s4.1).bind fun (r16 : UInt8) => some r16) else (some s4.2.2) : Option (UInt8)).bind fun (j12 : UInt8) => (F_spec_l01Times p0 s4.1 s4.1).bind fun (r20 : UInt8) => some (r20, j12) : Option (UInt8 × UInt8)).bind fun (j9 : UInt8 × UInt8) => some (Fl.nx (j9.1, wr (Int.tdiv s4.2.1 2), j9.2))) else (some (Fl.ex s4.2.2))
noncomputable def F_spec_l01Power (p0 : Int) (p1 : UInt8) (p2 : Int) : Option (UInt8) :=
  (iter (L0_spec_l01Power p0) (p1, p2, 1) : Option (UInt8)).bind fun (j1 : UInt8) => some j1
set_option maxRecDepth 20000 in
set_option maxHeartbeats 400000 in
theorem c_spec_l01Power (w0 : World) (p0 : Int) (p1 : UInt8) (p2 : Int) (r : UInt8) (hF : F_spec_l01Power p0 p1 p2 = some r) :
    Calls Try.prog 146 [(vI p0), (vB p1), (vI p2)].toArray w0 (fun en w' => ∃ v, en = .returned v ∧ (v = (vB r) ∧ Kept (Old w0) w0 w')) := by
  refine c_enter (n := 24) Try.func146 rfl rfl (Nat.le_of_ble_eq_true rfl) rfl ?_
  intro a hE
  have hM := M.start w0
  unfold F_spec_l01Power at hF
  refine c_region ?_
  refine s_assign hE goes_none (by decide) rfl ?_; intro a hE
  refine c_fin ?_
  refine c_region ?_
  refine s_assign hE goes_none (by decide) rfl ?_; intro a hE
  refine c_fin ?_
  obtain ⟨j1, hl2, hF3⟩ := bind_some hF
  refine c_join (fun a w => Env 24 a [(7, (vB j1))] ∧ M (Old w0) w0 w []) ?_ ?_
  · skip
    refine wp_block ?_
    refine c_loop (fun (s4 : UInt8 × Int × UInt8) a w => Env 24 a [(0, (vI p0)), (1, (vB s4.1)), (2, (vI s4.2.1)), (7, (vB s4.2.2))] ∧ M (Old w0) w0 w []) hl2 ⟨hE.sub ⟨rfl, rfl, rfl, rfl, trivial⟩, hM⟩ ?_
    rintro s4 a w ⟨hE, hM⟩ o7 hs5 hx6
    unfold L0_spec_l01Power at hs5
    refine wp_seq ?_
    refine c_region ?_
    refine s_move hE goes_none (by decide) rfl ?_; intro a hE
    refine s_int hE goes_none (by decide) rfl rfl rfl ?_; intro a hE
    refine c_fin ?_
    refine c_cond hE rfl ?_ ?_
    · intro hb8
      have hs5 := ite_t hs5 hb8
      refine wp_skip ?_
      refine c_nx ?_
      obtain ⟨j9, hl10, hF11⟩ := bind_some hs5
      refine c_join (fun a w => Env 24 a [(0, (vI p0)), (1, (vB j9.1)), (2, (vI s4.2.1)), (7, (vB j9.2))] ∧ M (Old w0) w0 w []) ?_ ?_
      · skip
        refine wp_block ?_
        obtain ⟨j12, hl13, hF14⟩ := bind_some hl10
        refine c_join (fun a w => Env 24 a [(0, (vI p0)), (1, (vB s4.1)), (2, (vI s4.2.1)), (7, (vB j12))] ∧ M (Old w0) w0 w []) ?_ ?_
        · skip
          refine c_region ?_
          refine s_move hE goes_none (by decide) rfl ?_; intro a hE
          refine s_int hE goes_none (by decide) rfl rfl (bI_rem _ _ (by decide)) ?_; intro a hE
          refine s_int hE goes_none (by decide) rfl rfl rfl ?_; intro a hE
          refine c_fin ?_
          refine c_cond hE rfl ?_ ?_
          · intro hb15
            have hl13 := ite_t hl13 hb15
            refine wp_region_lit ?_
            refine s_move hE goes_none (by decide) rfl ?_; intro a hE
            refine s_move hE goes_none (by decide) rfl ?_; intro a hE
            refine s_move hE goes_none (by decide) rfl ?_; intro a hE
            obtain ⟨r16, e17, hl13⟩ := bind_some hl13
            refine s_call (vs := [(vI p0), (vB s4.2.2), (vB s4.1)]) hE goes_none (by decide) rfl cb121 (c_spec_l01Times _ p0 s4.2.2 s4.1 r16 e17) ?_
            rintro v w a ⟨rfl, hK⟩ hE
            have hM := hM.keep hK
            refine s_assign hE goes_none (by decide) rfl ?_; intro a hE
            refine c_fin0 ?_
            have ht18 := Option.some.inj hl13
            subst ht18
            refine c_mid ?_
            exact ⟨hE.sub ⟨rfl, rfl, rfl, rfl, trivial⟩, hM⟩
          · intro hb15
            have hl13 := ite_f hl13 hb15
            refine wp_skip ?_
            have ht19 := Option.some.inj hl13
            subst ht19
            refine c_mid ?_
            exact ⟨hE.sub ⟨rfl, rfl, rfl, rfl, trivial⟩, hM⟩
        · skip
          rintro a w ⟨hE, hM⟩
          refine wp_region_lit ?_
          refine s_move hE goes_none (by decide) rfl ?_; intro a hE
          refine s_move hE goes_none (by decide) rfl ?_; intro a hE
          refine s_move hE goes_none (by decide) rfl ?_; intro a hE
          obtain ⟨r20, e21, hF14⟩ := bind_some hF14
          refine s_call (vs := [(vI p0), (vB s4.1), (vB s4.1)]) hE goes_none (by decide) rfl cb121 (c_spec_l01Times _ p0 s4.1 s4.1 r20 e21) ?_
          rintro v w a ⟨rfl, hK⟩ hE
          have hM := hM.keep hK
          refine s_assign hE goes_none (by decide) rfl ?_; intro a hE
          refine c_fin0 ?_
          refine c_nb ?_
          have ht22 := Option.some.inj hF14
          subst ht22
          refine c_mid ?_
          exact ⟨hE.sub ⟨rfl, rfl, rfl, rfl, trivial⟩, hM⟩
      · skip
        rintro a w ⟨hE, hM⟩
        refine wp_region_lit ?_
        refine s_move hE goes_none (by decide) rfl ?_; intro a hE
        refine s_int hE goes_none (by decide) rfl rfl (bI_quo _ _ (by decide)) ?_; intro a hE
        refine s_assign hE goes_none (by decide) rfl ?_; intro a hE
        refine c_fin0 ?_
        refine c_mid ?_
        exact ⟨_, (Option.some.inj hF11).symm, hE.sub ⟨rfl, rfl, rfl, rfl, trivial⟩, hM⟩
    · intro hb8
      have hs5 := ite_f hs5 hb8
      refine wp_exit (e_then (e_then (e_eq ?_)))
      have ht23 := hx6 _ (Option.some.inj hs5).symm
      subst ht23
      refine c_mid ?_
      exact ⟨hE.sub ⟨rfl, trivial⟩, hM⟩
  · skip
    rintro a w ⟨hE, hM⟩
    refine c_region ?_
    refine s_move hE goes_none (by decide) rfl ?_; intro a hE
    refine s_assign hE goes_none (by decide) rfl ?_; intro a hE
    refine c_fin ?_
    have hr := Option.some.inj hF3
    subst hr
    exact wp_ret (k_ret1 hE rfl (res_tmp hE rfl) ⟨_, rfl, rfl, hM.kept⟩)
noncomputable def F_spec_l01Inv (p0 : Int) (p1 : UInt8) : Option (UInt8) :=
  (F_spec_l01Power p0 p1 254).bind fun (r1 : UInt8) => some r1
set_option maxRecDepth 20000 in
set_option maxHeartbeats 400000 in
theorem c_spec_l01Inv (w0 : World) (p0 : Int) (p1 : UInt8) (r : UInt8) (hF : F_spec_l01Inv p0 p1 = some r) :
    Calls Try.prog 122 [(vI p0), (vB p1)].toArray w0 (fun en w' => ∃ v, en = .returned v ∧ (v = (vB r) ∧ Kept (Old w0) w0 w')) := by
  refine c_enter (n := 8) Try.func122 rfl rfl (Nat.le_of_ble_eq_true rfl) rfl ?_
  intro a hE
  have hM := M.start w0
  unfold F_spec_l01Inv at hF
  refine c_region ?_
  refine s_assign hE goes_none (by decide) rfl ?_; intro a hE
  refine c_fin ?_
  refine c_region ?_
  refine s_move hE goes_none (by decide) rfl ?_; intro a hE
  refine s_move hE goes_none (by decide) rfl ?_; intro a hE
  obtain ⟨r1, e2, hF⟩ := bind_some hF
  refine s_call (vs := [(vI p0), (vB p1), (vI 254)]) hE goes_none (by decide) rfl cb146 (c_spec_l01Power _ p0 p1 254 r1 e2) ?_
  rintro v w a ⟨rfl, hK⟩ hE
  have hM := hM.keep hK
  refine s_assign hE goes_none (by decide) rfl ?_; intro a hE
  refine c_fin ?_
  have hr := Option.some.inj hF
  subst hr
  exact wp_ret (k_ret1 hE rfl (res_tmp hE rfl) ⟨_, rfl, rfl, hM.kept⟩)
noncomputable def L1_spec_l10Weights (p0 : Int) (p1 : (List UInt8)) (s8 : (List UInt8) × Int) (s18 : UInt8 × Int) : Option (Fl (UInt8 × Int) UInt8) :=
  if (decide (s18.2 < (p1.length : Int))) = true then (((if (s18.2 != s8.2) = true then ((idx p1 s18.2).bind fun (x31 : UInt8) => (idx p1 s8.2).bind fun (x34 : UInt8) => (idx p1 s18.2).bind fun (x37 : UInt8) => (F_spec_l01Inv p0 (x34 ^^^ x37)).bind fun (r40 : UInt8) => (F_spec_l01Times p0 x31 r40).bind fun (r42 : UInt8) => (F_spec_l01Times p0 s18.1 r42).bind fun (r44 : UInt8) => some r44) else (some s18.1) : Option (UInt8)).bind fun (j26 : UInt8) => some j26 : Option (UInt8)).bind fun (j23 : UInt8) => some (Fl.nx (j23, wr (s18.2 + 1)))) else (some (Fl.ex s18.1))
noncomputable def L0_spec_l10Weights (p0 : Int) (p1 : (List UInt8)) (s8 : (List UInt8) × Int) : Option (Fl ((List UInt8) × Int) (List UInt8)) :=
  if (decide (s8.2 < (p1.length : Int))) = true then ((iter (L1_spec_l10Weights p0 p1 s8) (1, 0) : Option (UInt8)).bind fun (j15 : UInt8) => (app 1 s8.1 ([j15] : List UInt8)).bind fun (l52 : (List UInt8)) => some (Fl.nx ((s8.1 ++ ([j15] : List UInt8)), wr (s8.2 + 1)))) else (some (Fl.ex s8.1))
noncomputable def F_spec_l10Weights (p0 : Int) (p1 : (List UInt8)) : Option ((List UInt8)) :=
  (iter (L0_spec_l10Weights p0 p1) (([] : List UInt8), 0) : Option ((List UInt8))).bind fun (j3 : (List UInt8)) => some j3
set_option maxRecDepth 20000 in
set_option maxHeartbeats 400000 in
theorem c_spec_l10Weights (w0 : World) (p0 : Int) (p1 : (List UInt8)) (v1_1 : Value) (hv1_1 : Ro w0 p1 [v1_1]) (r : (List UInt8)) (hF : F_spec_l10Weights p0 p1 = some r) :
    Calls Try.prog 67 [(vI p0), v1_1].toArray w0 (fun en w' => ∃ v, en = .returned v ∧ (∃ (y1 : Value), v = y1 ∧ Fr w0 w' [osl NoB (r : List UInt8) y1] ∧ Kept (Old w0) w0 w')) := by
  refine c_enter (n := 50) Try.func67 rfl rfl (Nat.le_of_ble_eq_true rfl) rfl ?_
  intro a hE
  have hM := M.start w0
  unfold F_spec_l10Weights at hF
  refine c_region ?_
  refine s_assign hE goes_none (by decide) rfl ?_; intro a hE
  refine c_fin ?_
  refine c_region ?_
  refine s_buildF (xs := []) (l := ([] : List UInt8)) (vs := []) hE hM goes_none (by decide) rfl rfl Try.underlying29 ty5 rfl (by decide) rfl ?_; intro u1 w a hM hE
  refine s_assign hE goes_none (by decide) rfl ?_; intro a hE
  refine c_fin ?_
  refine wp_seq ?_
  refine c_region ?_
  refine s_assign hE goes_none (by decide) rfl ?_; intro a hE
  refine c_fin ?_
  obtain ⟨j3, hl4, hF5⟩ := bind_some hF
  refine c_cut (fun a w => ∃ (u6 : Value), Env 50 a [(5, u6)] ∧ M (Old w0) w0 w [osl NoB (j3 : List UInt8) u6]) ?_ ?_
  · skip
    refine wp_block ?_
    refine c_loop (fun (s8 : (List UInt8) × Int) a w => ∃ (u9 : Value), Env 50 a [(0, (vI p0)), (1, v1_1), (5, u9), (6, (vI s8.2))] ∧ M (Old w0) w0 w [osl NoB (s8.1 : List UInt8) u9]) hl4 ⟨u1, hE.sub ⟨rfl, rfl, rfl, rfl, trivial⟩, hM⟩ ?_
    rintro s8 a w ⟨u9, hE, hM⟩ o13 hs11 hx12
    unfold L0_spec_l10Weights at hs11
    refine wp_seq ?_
    refine c_region ?_
    refine s_move hE goes_none (by decide) rfl ?_; intro a hE
    refine s_move hE goes_none (by decide) rfl ?_; intro a hE
    refine s_len hE goes_none (by decide) rfl Try.underlying29 (hM.rd hv1_1) ?_; intro a hE
    refine s_int hE goes_none (by decide) rfl rfl rfl ?_; intro a hE
    refine c_fin ?_
    refine c_cond hE rfl ?_ ?_
    · intro hb14
      have hs11 := ite_t hs11 hb14
      refine wp_skip ?_
      refine c_nx ?_
      refine wp_seq ?_
      refine wp_block ?_
      refine c_region ?_
      refine s_assign hE goes_none (by decide) rfl ?_; intro a hE
      refine c_fin ?_
      refine wp_seq ?_
      refine c_region ?_
      refine s_assign hE goes_none (by decide) rfl ?_; intro a hE
      refine c_fin ?_
      obtain ⟨j15, hl16, hF17⟩ := bind_some hs11
      refine c_cut (fun a w => Env 50 a [(0, (vI p0)), (1, v1_1), (5, u9), (6, (vI s8.2)), (7, (vB j15))] ∧ M (Old w0) w0 w [osl NoB (s8.1 : List UInt8) u9]) ?_ ?_
      · skip
        refine wp_block ?_
        refine c_loop (fun (s18 : UInt8 × Int) a w => Env 50 a [(0, (vI p0)), (1, v1_1), (5, u9), (6, (vI s8.2)), (7, (vB s18.1)), (8, (vI s18.2))] ∧ M (Old w0) w0 w [osl NoB (s8.1 : List UInt8) u9]) hl16 ⟨hE.sub ⟨rfl, rfl, rfl, rfl, rfl, rfl, trivial⟩, hM⟩ ?_
        rintro s18 a w ⟨hE, hM⟩ o21 hs19 hx20
        unfold L1_spec_l10Weights at hs19
        refine wp_seq ?_
        refine c_region ?_
        refine s_move hE goes_none (by decide) rfl ?_; intro a hE
        refine s_move hE goes_none (by decide) rfl ?_; intro a hE
        refine s_len hE goes_none (by decide) rfl Try.underlying29 (hM.rd hv1_1) ?_; intro a hE
        refine s_int hE goes_none (by decide) rfl rfl rfl ?_; intro a hE
        refine c_fin ?_
        refine c_cond hE rfl ?_ ?_
        · intro hb22
          have hs19 := ite_t hs19 hb22
          refine wp_skip ?_
          refine c_nx ?_
          obtain ⟨j23, hl24, hF25⟩ := bind_some hs19
          refine c_join (fun a w => Env 50 a [(0, (vI p0)), (1, v1_1), (5, u9), (6, (vI s8.2)), (7, (vB j23)), (8, (vI s18.2))] ∧ M (Old w0) w0 w [osl NoB (s8.1 : List UInt8) u9]) ?_ ?_
          · skip
            refine wp_block ?_
            refine c_region ?_
            refine s_move hE goes_none (by decide) rfl ?_; intro a hE
            refine s_move hE goes_none (by decide) rfl ?_; intro a hE
            refine s_int hE goes_none (by decide) rfl rfl rfl ?_; intro a hE
            refine c_fin ?_
            obtain ⟨j26, hl27, hF28⟩ := bind_some hl24
            refine c_cut (fun a w => Env 50 a [(0, (vI p0)), (1, v1_1), (5, u9), (6, (vI s8.2)), (7, (vB j26)), (8, (vI s18.2))] ∧ M (Old w0) w0 w [osl NoB (s8.1 : List UInt8) u9]) ?_ ?_
            · skip
              refine c_cond hE rfl ?_ ?_
              · intro hb29
                have hl27 := ite_t hl27 hb29
                obtain ⟨x31, e32, hl27⟩ := bind_some hl27
                have hi33 := idx_some e32
                obtain ⟨x34, e35, hl27⟩ := bind_some hl27
                have hi36 := idx_some e35
                obtain ⟨x37, e38, hl27⟩ := bind_some hl27
                have hi39 := idx_some e38
                obtain ⟨r40, e41, hl27⟩ := bind_some hl27
                obtain ⟨r42, e43, hl27⟩ := bind_some hl27
                obtain ⟨r44, e45, hl27⟩ := bind_some hl27
                refine c_draw (n := 50) (hd := [_, _, _, _, _, _, _, _, _, _, _, _, _, _, _, _, _, _, _, _]) (tl := [_]) hmix rfl rfl [25, 26, 27, 28, 29, 30, 31, 32, 33, 34, 35, 36, 37, 38, 39, 40, 41, 42, 43, 44] (by decide) (fun w => M (Old w0) w0 w [osl NoB (s8.1 : List UInt8) u9]) (fun j => ([fun v _ => v = (vI p0), fun v _ => v = (vB s18.1), fun v _ => v = (vI p0), fun v _ => v = v1_1, fun v _ => v = (vI s18.2), fun v _ => v = (ptr (sb v1_1) (so v1_1 + (s18.2).toNat * 1)), fun v _ => v = (vB x31), fun v _ => v = (vI p0), fun v _ => v = v1_1, fun v _ => v = (vI s8.2), fun v _ => v = (ptr (sb v1_1) (so v1_1 + (s8.2).toNat * 1)), fun v _ => v = (vB x34), fun v _ => v = v1_1, fun v _ => v = (vI s18.2), fun v _ => v = (ptr (sb v1_1) (so v1_1 + (s18.2).toNat * 1)), fun v _ => v = (vB x37), fun v _ => v = (vB (x34 ^^^ x37)), fun v _ => v = (vB r40), fun v _ => v = (vB r42), fun v _ => v = (vB r44)] : List (Value → World → Prop)).getD j (fun _ _ => True)) (fun _ _ h hk => h.keep hk) (gup (gupE (gupE (gupE (gupE (gupE (gupE (gupE (gupE (gupE (gupE (gupE (gupE (gupE (gupE (gupE (gupE (gupE (gupE (gupE (gupE gupN))))))))))))))))))))) hE hM.drew (steps_of (steps_cons ?_ (steps_cons ?_ (steps_cons ?_ (steps_cons ?_ (steps_cons ?_ (steps_cons ?_ (steps_cons ?_ (steps_cons ?_ (steps_cons ?_ (steps_cons ?_ (steps_cons ?_ (steps_cons ?_ (steps_cons ?_ (steps_cons ?_ (steps_cons ?_ (steps_cons ?_ (steps_cons ?_ (steps_cons ?_ (steps_cons ?_ (steps_cons ?_ steps_nil))))))))))))))))))))) ?_
                · intro a w ux30 hE hM hp
                  refine s_move hE goes_none (by decide) rfl ?_; intro a hE
                  exact ⟨Kept.refl _ _, _, _, rfl, hE, rfl⟩
                · intro a w ux30 hE hM hp
                  refine s_move hE goes_none (by decide) rfl ?_; intro a hE
                  exact ⟨Kept.refl _ _, _, _, rfl, hE, rfl⟩
                · intro a w ux30 hE hM hp
                  refine s_move hE goes_none (by decide) rfl ?_; intro a hE
                  exact ⟨Kept.refl _ _, _, _, rfl, hE, rfl⟩
                · intro a w ux30 hE hM hp
                  refine s_move hE goes_none (by decide) rfl ?_; intro a hE
                  exact ⟨Kept.refl _ _, _, _, rfl, hE, rfl⟩
                · intro a w ux30 hE hM hp
                  refine s_move hE goes_none (by decide) rfl ?_; intro a hE
                  exact ⟨Kept.refl _ _, _, _, rfl, hE, rfl⟩
                · intro a w ux30 hE hM hp
                  have f3 : ux30 3 = v1_1 := hp 0 _ rfl rfl
                  have f4 : ux30 4 = (vI s18.2) := hp 1 _ rfl rfl
                  refine s_indexS hE goes_none (by decide) (lk rfl f3) (lk rfl f4) Try.underlying29 ty5 (hM.rd hv1_1) hi33.1 ?_; intro a hE
                  exact ⟨Kept.refl _ _, _, _, rfl, hE, rfl⟩
                · intro a w ux30 hE hM hp
                  have f5 : ux30 5 = (ptr (sb v1_1) (so v1_1 + (s18.2).toNat * 1)) := hp 0 _ rfl rfl
                  refine s_load (v := (vB x31)) hE goes_none (by decide) (lk rfl f5) ty5 rfl (sl_atF (hM.rd hv1_1) hi33.2) ?_; intro a hE
                  exact ⟨Kept.refl _ _, _, _, rfl, hE, rfl⟩
                · intro a w ux30 hE hM hp
                  refine s_move hE goes_none (by decide) rfl ?_; intro a hE
                  exact ⟨Kept.refl _ _, _, _, rfl, hE, rfl⟩
                · intro a w ux30 hE hM hp
                  refine s_move hE goes_none (by decide) rfl ?_; intro a hE
                  exact ⟨Kept.refl _ _, _, _, rfl, hE, rfl⟩
                · intro a w ux30 hE hM hp
                  refine s_move hE goes_none (by decide) rfl ?_; intro a hE
                  exact ⟨Kept.refl _ _, _, _, rfl, hE, rfl⟩
                · intro a w ux30 hE hM hp
                  have f8 : ux30 8 = v1_1 := hp 0 _ rfl rfl
                  have f9 : ux30 9 = (vI s8.2) := hp 1 _ rfl rfl
                  refine s_indexS hE goes_none (by decide) (lk rfl f8) (lk rfl f9) Try.underlying29 ty5 (hM.rd hv1_1) hi36.1 ?_; intro a hE
                  exact ⟨Kept.refl _ _, _, _, rfl, hE, rfl⟩
                · intro a w ux30 hE hM hp
                  have f10 : ux30 10 = (ptr (sb v1_1) (so v1_1 + (s8.2).toNat * 1)) := hp 0 _ rfl rfl
                  refine s_load (v := (vB x34)) hE goes_none (by decide) (lk rfl f10) ty5 rfl (sl_atF (hM.rd hv1_1) hi36.2) ?_; intro a hE
                  exact ⟨Kept.refl _ _, _, _, rfl, hE, rfl⟩
                · intro a w ux30 hE hM hp
                  refine s_move hE goes_none (by decide) rfl ?_; intro a hE
                  exact ⟨Kept.refl _ _, _, _, rfl, hE, rfl⟩
                · intro a w ux30 hE hM hp
                  refine s_move hE goes_none (by decide) rfl ?_; intro a hE
                  exact ⟨Kept.refl _ _, _, _, rfl, hE, rfl⟩
                · intro a w ux30 hE hM hp
                  have f12 : ux30 12 = v1_1 := hp 0 _ rfl rfl
                  have f13 : ux30 13 = (vI s18.2) := hp 1 _ rfl rfl
                  refine s_indexS hE goes_none (by decide) (lk rfl f12) (lk rfl f13) Try.underlying29 ty5 (hM.rd hv1_1) hi39.1 ?_; intro a hE
                  exact ⟨Kept.refl _ _, _, _, rfl, hE, rfl⟩
                · intro a w ux30 hE hM hp
                  have f14 : ux30 14 = (ptr (sb v1_1) (so v1_1 + (s18.2).toNat * 1)) := hp 0 _ rfl rfl
                  refine s_load (v := (vB x37)) hE goes_none (by decide) (lk rfl f14) ty5 rfl (sl_atF (hM.rd hv1_1) hi39.2) ?_; intro a hE
                  exact ⟨Kept.refl _ _, _, _, rfl, hE, rfl⟩
                · intro a w ux30 hE hM hp
                  have f11 : ux30 11 = (vB x34) := hp 0 _ rfl rfl
                  have f15 : ux30 15 = (vB x37) := hp 1 _ rfl rfl
                  refine s_int hE goes_none (by decide) (lk rfl f11) (lk rfl f15) (bB_xor x34 x37) ?_; intro a hE
                  exact ⟨Kept.refl _ _, _, _, rfl, hE, rfl⟩
                · intro a w ux30 hE hM hp
                  have f7 : ux30 7 = (vI p0) := hp 0 _ rfl rfl
                  have f16 : ux30 16 = (vB (x34 ^^^ x37)) := hp 1 _ rfl rfl
                  refine s_call (vs := [(vI p0), (vB (x34 ^^^ x37))]) hE goes_none (by decide) (evs_of (evsC (lk rfl f7) (evsC (lk rfl f16) evsN))) cb122 (c_spec_l01Inv _ p0 (x34 ^^^ x37) r40 e41) ?_
                  rintro v w a ⟨rfl, hK⟩ hE
                  exact ⟨hK, _, _, rfl, hE, rfl⟩
                · intro a w ux30 hE hM hp
                  have f2 : ux30 2 = (vI p0) := hp 0 _ rfl rfl
                  have f6 : ux30 6 = (vB x31) := hp 1 _ rfl rfl
                  have f17 : ux30 17 = (vB r40) := hp 2 _ rfl rfl
                  refine s_call (vs := [(vI p0), (vB x31), (vB r40)]) hE goes_none (by decide) (evs_of (evsC (lk rfl f2) (evsC (lk rfl f6) (evsC (lk rfl f17) evsN)))) cb121 (c_spec_l01Times _ p0 x31 r40 r42 e43) ?_
                  rintro v w a ⟨rfl, hK⟩ hE
                  exact ⟨hK, _, _, rfl, hE, rfl⟩
                · intro a w ux30 hE hM hp
                  have f0 : ux30 0 = (vI p0) := hp 0 _ rfl rfl
                  have f1 : ux30 1 = (vB s18.1) := hp 1 _ rfl rfl
                  have f18 : ux30 18 = (vB r42) := hp 2 _ rfl rfl
                  refine s_call (vs := [(vI p0), (vB s18.1), (vB r42)]) hE goes_none (by decide) (evs_of (evsC (lk rfl f0) (evsC (lk rfl f1) (evsC (lk rfl f18) evsN)))) cb121 (c_spec_l01Times _ p0 s18.1 r42 r44 e45) ?_
                  rintro v w a ⟨rfl, hK⟩ hE
                  exact ⟨hK, _, _, rfl, hE, rfl⟩
                · intro a w ux30 hE hM hg
                  have f0 : ux30 0 = (vI p0) := hg 0 (by decide)
                  have f1 : ux30 1 = (vB s18.1) := hg 1 (by decide)
                  have f2 : ux30 2 = (vI p0) := hg 2 (by decide)
                  have f3 : ux30 3 = v1_1 := hg 3 (by decide)
                  have f4 : ux30 4 = (vI s18.2) := hg 4 (by decide)
                  have f5 : ux30 5 = (ptr (sb v1_1) (so v1_1 + (s18.2).toNat * 1)) := hg 5 (by decide)
                  have f6 : ux30 6 = (vB x31) := hg 6 (by decide)
                  have f7 : ux30 7 = (vI p0) := hg 7 (by decide)
                  have f8 : ux30 8 = v1_1 := hg 8 (by decide)
                  have f9 : ux30 9 = (vI s8.2) := hg 9 (by decide)
                  have f10 : ux30 10 = (ptr (sb v1_1) (so v1_1 + (s8.2).toNat * 1)) := hg 10 (by decide)
                  have f11 : ux30 11 = (vB x34) := hg 11 (by decide)
                  have f12 : ux30 12 = v1_1 := hg 12 (by decide)
                  have f13 : ux30 13 = (vI s18.2) := hg 13 (by decide)
                  have f14 : ux30 14 = (ptr (sb v1_1) (so v1_1 + (s18.2).toNat * 1)) := hg 14 (by decide)
                  have f15 : ux30 15 = (vB x37) := hg 15 (by decide)
                  have f16 : ux30 16 = (vB (x34 ^^^ x37)) := hg 16 (by decide)
                  have f17 : ux30 17 = (vB r40) := hg 17 (by decide)
                  have f18 : ux30 18 = (vB r42) := hg 18 (by decide)
                  have f19 : ux30 19 = (vB r44) := hg 19 (by decide)
                  have hE := hE.sub (e' := [(25, (vI p0)), (26, (vB s18.1)), (27, (vI p0)), (28, v1_1), (29, (vI s18.2)), (30, (ptr (sb v1_1) (so v1_1 + (s18.2).toNat * 1))), (31, (vB x31)), (32, (vI p0)), (33, v1_1), (34, (vI s8.2)), (35, (ptr (sb v1_1) (so v1_1 + (s8.2).toNat * 1))), (36, (vB x34)), (37, v1_1), (38, (vI s18.2)), (39, (ptr (sb v1_1) (so v1_1 + (s18.2).toNat * 1))), (40, (vB x37)), (41, (vB (x34 ^^^ x37))), (42, (vB r40)), (43, (vB r42)), (44, (vB r44)), (0, (vI p0)), (1, v1_1), (5, u9), (6, (vI s8.2)), (7, (vB s18.1)), (8, (vI s18.2)), (16, (vI s18.2)), (17, v1_1), (18, (vI (p1.length : Int))), (19, (vT (decide (s18.2 < (p1.length : Int))))), (22, (vI s18.2)), (23, (vI s8.2)), (24, (vT (s18.2 != s8.2)))]) ⟨lk rfl f0, lk rfl f1, lk rfl f2, lk rfl f3, lk rfl f4, lk rfl f5, lk rfl f6, lk rfl f7, lk rfl f8, lk rfl f9, lk rfl f10, lk rfl f11, lk rfl f12, lk rfl f13, lk rfl f14, lk rfl f15, lk rfl f16, lk rfl f17, lk rfl f18, lk rfl f19, rfl, rfl, rfl, rfl, rfl, rfl, rfl, rfl, rfl, rfl, rfl, rfl, rfl, trivial⟩
                  refine s_assign hE goes_none (by decide) rfl ?_; intro a hE
                  refine c_fin0 ?_
                  have ht46 := Option.some.inj hl27
                  subst ht46
                  refine c_mid ?_
                  exact ⟨hE.sub ⟨rfl, rfl, rfl, rfl, rfl, rfl, trivial⟩, hM⟩
              · intro hb29
                have hl27 := ite_f hl27 hb29
                refine wp_skip ?_
                have ht47 := Option.some.inj hl27
                subst ht47
                refine c_mid ?_
                exact ⟨hE.sub ⟨rfl, rfl, rfl, rfl, rfl, rfl, trivial⟩, hM⟩
            · skip
              rintro a w ⟨hE, hM⟩
              refine c_nb ?_
              have ht48 := Option.some.inj hF28
              subst ht48
              refine c_mid ?_
              exact ⟨hE.sub ⟨rfl, rfl, rfl, rfl, rfl, rfl, trivial⟩, hM⟩
          · skip
            rintro a w ⟨hE, hM⟩
            refine wp_region_lit ?_
            refine s_move hE goes_none (by decide) rfl ?_; intro a hE
            refine s_int hE goes_none (by decide) rfl rfl rfl ?_; intro a hE
            refine s_assign hE goes_none (by decide) rfl ?_; intro a hE
            refine c_fin0 ?_
            refine c_mid ?_
            exact ⟨_, (Option.some.inj hF25).symm, hE.sub ⟨rfl, rfl, rfl, rfl, rfl, rfl, trivial⟩, hM⟩
        · intro hb22
          have hs19 := ite_f hs19 hb22
          refine wp_exit (e_then (e_then (e_eq ?_)))
          have ht49 := hx20 _ (Option.some.inj hs19).symm
          subst ht49
          refine c_mid ?_
          exact ⟨hE.sub ⟨rfl, rfl, rfl, rfl, rfl, trivial⟩, hM⟩
      · skip
        rintro a w ⟨hE, hM⟩
        refine c_nx ?_
        refine wp_region_lit ?_
        refine s_move hE goes_none (by decide) rfl ?_; intro a hE
        refine s_move hE goes_none (by decide) rfl ?_; intro a hE
        refine s_buildF (xs := [.tmp 46]) (l := ([j15] : List UInt8)) (vs := [(vB j15)]) hE hM goes_none (by decide) rfl rfl Try.underlying29 ty5 rfl (by decide) rfl ?_; intro u50 w a hM hE
        obtain ⟨l52, e53, hF17⟩ := bind_some hF17
        obtain ⟨e56, rfl⟩ := app_some e53
        have hM := hM.pull (pre := [_])
        refine s_appendF hE hM goes_none (by decide) rfl rfl (hM.sl (pre := [_]) noB) Try.underlying29 ty5 rfl (by decide) e56 ?_; intro u54 w a hM hE
        refine s_assign hE goes_none (by decide) rfl ?_; intro a hE
        refine c_fin0 ?_
        refine c_nb ?_
        refine c_nx ?_
        refine wp_region_lit ?_
        refine s_move hE goes_none (by decide) rfl ?_; intro a hE
        refine s_int hE goes_none (by decide) rfl rfl rfl ?_; intro a hE
        refine s_assign hE goes_none (by decide) rfl ?_; intro a hE
        refine c_fin0 ?_
        refine c_mid ?_
        have hM := M.fst (l := [_]) hM
        exact ⟨_, (Option.some.inj hF17).symm, u54, hE.sub ⟨rfl, rfl, rfl, rfl, trivial⟩, hM⟩
    · intro hb14
      have hs11 := ite_f hs11 hb14
      refine wp_exit (e_then (e_then (e_eq ?_)))
      have ht57 := hx12 _ (Option.some.inj hs11).symm
      subst ht57
      refine c_mid ?_
      exact ⟨u9, hE.sub ⟨rfl, trivial⟩, hM⟩
  · skip
    rintro a w ⟨u6, hE, hM⟩
    refine c_nx ?_
    refine c_region ?_
    refine s_move hE goes_none (by decide) rfl ?_; intro a hE
    refine s_assign hE goes_none (by decide) rfl ?_; intro a hE
    refine c_fin ?_
    have hr := Option.some.inj hF5
    subst hr
    exact wp_ret (k_ret1 hE rfl (res_tmp hE rfl) ⟨_, rfl, u6, rfl, hM.outF (locN1 locN0), hM.kept⟩)
noncomputable def F_spec_WeightsOf (p0 : Int) (p1 : (List UInt8)) : Option ((List UInt8) × Int) :=
  (F_spec_l01Field p0).bind fun (r1 : Bool) => if (!r1) = true then (some ([], 1)) else ((if (decide ((p1.length : Int) < 1)) = true then (some true) else (some (decide ((p1.length : Int) > 12))) : Option (Bool)).bind fun (j5 : Bool) => if j5 = true then (some ([], 2)) else ((F_spec_l10Wrong p1).bind fun (r13 : Bool) => if r13 = true then (some ([], 5)) else ((F_spec_l10Weights p0 p1).bind fun (r17 : (List UInt8)) => some (r17, 0))))
set_option maxRecDepth 20000 in
set_option maxHeartbeats 400000 in
theorem c_spec_WeightsOf (w0 : World) (p0 : Int) (p1 : (List UInt8)) (v1_1 : Value) (hv1_1 : Ro w0 p1 [v1_1]) (r : (List UInt8) × Int) (hF : F_spec_WeightsOf p0 p1 = some r) :
    Calls Try.prog 18 [(vI p0), v1_1].toArray w0 (fun en w' => ∃ v, en = .returned v ∧ (∃ (y1 : Value), v = (Value.tuple [y1, (vI r.2)].toArray) ∧ Fr w0 w' [osl NoB (r.1 : List UInt8) y1] ∧ Kept (Old w0) w0 w')) := by
  refine c_enter (n := 25) Try.func18 rfl rfl (Nat.le_of_ble_eq_true rfl) rfl ?_
  intro a hE
  have hM := M.start w0
  unfold F_spec_WeightsOf at hF
  refine c_region ?_
  refine s_assign hE goes_none (by decide) rfl ?_; intro a hE
  refine s_assign hE goes_none (by decide) rfl ?_; intro a hE
  refine c_fin ?_
  refine wp_seq ?_
  refine wp_block ?_
  refine c_region ?_
  refine s_move hE goes_none (by decide) rfl ?_; intro a hE
  obtain ⟨r1, e2, hF⟩ := bind_some hF
  refine s_call (vs := [(vI p0)]) hE goes_none (by decide) rfl cb65 (c_spec_l01Field _ p0 r1 e2) ?_
  rintro v w a ⟨rfl, hK⟩ hE
  have hM := hM.keep hK
  refine s_not hE goes_none (by decide) rfl ?_; intro a hE
  refine s_assign hE goes_none (by decide) rfl ?_; intro a hE
  refine c_fin ?_
  refine c_cond hE rfl ?_ ?_
  · intro hb3
    have hF := ite_t hF hb3
    refine c_region ?_
    refine s_assign hE goes_none (by decide) rfl ?_; intro a hE
    refine s_assign hE goes_none (by decide) rfl ?_; intro a hE
    refine c_fin ?_
    have hM := M.nilS (α := UInt8) NoB noB hM
    have hr := Option.some.inj hF
    subst hr
    exact wp_ret (r_inb (r_then (k_ret2 hE rfl (res_tmp hE rfl) (res_tmp hE rfl) ⟨_, rfl, (Value.slice none 0 0), rfl, hM.outF (locN1 locN0), hM.kept⟩)))
  · intro hb3
    have hF := ite_f hF hb3
    obtain ⟨j5, hl6, hF7⟩ := bind_some hF
    refine c_join (fun a w => Env 25 a [(0, (vI p0)), (1, v1_1), (10, (vT j5))] ∧ M (Old w0) w0 w []) ?_ ?_
    · skip
      refine wp_region_lit ?_
      refine s_move hE goes_none (by decide) rfl ?_; intro a hE
      refine s_len hE goes_none (by decide) rfl Try.underlying29 (hM.rd hv1_1) ?_; intro a hE
      refine s_int hE goes_none (by decide) rfl rfl rfl ?_; intro a hE
      refine s_move hE goes_none (by decide) rfl ?_; intro a hE
      refine splitB (decide ((p1.length : Int) < 1)) (fun hb8 => ?_) (fun hb8 => ?_)
      · have hl6 := ite_t hl6 hb8
        refine s_skip hE rfl (lkb rfl hb8) rfl (by decide) ?_; intro a hE
        refine s_skip hE rfl (lkb rfl hb8) rfl (by decide) ?_; intro a hE
        refine s_skip hE rfl (lkb rfl hb8) rfl (by decide) ?_; intro a hE
        refine s_pickT hE goes_none (by decide) (lkb rfl hb8) rfl ?_; intro a hE
        refine s_assign hE goes_none (by decide) rfl ?_; intro a hE
        refine c_fin0 ?_
        have ht9 := Option.some.inj hl6
        subst ht9
        refine c_mid ?_
        exact ⟨hE.sub ⟨rfl, rfl, rfl, trivial⟩, hM⟩
      · have hl6 := ite_f hl6 hb8
        refine s_move hE (goes_yes hE rfl (lkb rfl hb8)) (by decide) rfl ?_; intro a hE
        refine s_len hE (goes_yes hE rfl (lkb rfl hb8)) (by decide) rfl Try.underlying29 (hM.rd hv1_1) ?_; intro a hE
        refine s_int hE (goes_yes hE rfl (lkb rfl hb8)) (by decide) rfl rfl rfl ?_; intro a hE
        refine s_pickF hE goes_none (by decide) (lkb rfl hb8) rfl ?_; intro a hE
        refine s_assign hE goes_none (by decide) rfl ?_; intro a hE
        refine c_fin0 ?_
        have ht10 := Option.some.inj hl6
        subst ht10
        refine c_mid ?_
        exact ⟨hE.sub ⟨rfl, rfl, rfl, trivial⟩, hM⟩
    · skip
      rintro a w ⟨hE, hM⟩
      refine c_cond hE rfl ?_ ?_
      · intro hb11
        have hF7 := ite_t hF7 hb11
        refine c_region ?_
        refine s_assign hE goes_none (by decide) rfl ?_; intro a hE
        refine s_assign hE goes_none (by decide) rfl ?_; intro a hE
        refine c_fin ?_
        have hM := M.nilS (α := UInt8) NoB noB hM
        have hr := Option.some.inj hF7
        subst hr
        exact wp_ret (r_inb (r_then (k_ret2 hE rfl (res_tmp hE rfl) (res_tmp hE rfl) ⟨_, rfl, (Value.slice none 0 0), rfl, hM.outF (locN1 locN0), hM.kept⟩)))
      · intro hb11
        have hF7 := ite_f hF7 hb11
        refine c_region ?_
        refine s_move hE goes_none (by decide) rfl ?_; intro a hE
        obtain ⟨r13, e14, hF7⟩ := bind_some hF7
        refine s_call (vs := [v1_1]) hE goes_none (by decide) rfl cb66 (c_spec_l10Wrong _ p1 v1_1 (hM.rdo hv1_1) r13 e14) ?_
        rintro v w a ⟨rfl, hK⟩ hE
        have hM := hM.keep hK
        refine s_assign hE goes_none (by decide) rfl ?_; intro a hE
        refine c_fin ?_
        refine c_cond hE rfl ?_ ?_
        · intro hb15
          have hF7 := ite_t hF7 hb15
          refine c_region ?_
          refine s_assign hE goes_none (by decide) rfl ?_; intro a hE
          refine s_assign hE goes_none (by decide) rfl ?_; intro a hE
          refine c_fin ?_
          have hM := M.nilS (α := UInt8) NoB noB hM
          have hr := Option.some.inj hF7
          subst hr
          exact wp_ret (r_inb (r_then (k_ret2 hE rfl (res_tmp hE rfl) (res_tmp hE rfl) ⟨_, rfl, (Value.slice none 0 0), rfl, hM.outF (locN1 locN0), hM.kept⟩)))
        · intro hb15
          have hF7 := ite_f hF7 hb15
          refine wp_skip ?_
          refine c_nb ?_
          refine c_nx ?_
          refine c_region ?_
          refine s_move hE goes_none (by decide) rfl ?_; intro a hE
          refine s_move hE goes_none (by decide) rfl ?_; intro a hE
          obtain ⟨r17, e18, hF7⟩ := bind_some hF7
          refine s_call (vs := [(vI p0), v1_1]) hE goes_none (by decide) rfl cb67 (c_spec_l10Weights _ p0 p1 v1_1 (hM.rdo hv1_1) r17 e18) ?_
          rintro u19 w a ⟨_, rfl, hFr, hK⟩ hE
          have hM := hM.add hK hFr
          refine s_assign hE goes_none (by decide) rfl ?_; intro a hE
          refine s_assign hE goes_none (by decide) rfl ?_; intro a hE
          refine c_fin ?_
          have hr := Option.some.inj hF7
          subst hr
          exact wp_ret (k_ret2 hE rfl (res_tmp hE rfl) (res_tmp hE rfl) ⟨_, rfl, u19, rfl, hM.outF (locN1 locN0), hM.kept⟩)
noncomputable def F_impl_inRange (p0 : Int) (p1 : Int) (p2 : Int) : Option (Bool) :=
  (if (decide (p1 ≤ p0)) = true then (some (decide (p0 ≤ p2))) else (some false) : Option (Bool)).bind fun (j1 : Bool) => some j1
set_option maxRecDepth 20000 in
set_option maxHeartbeats 400000 in
theorem c_impl_inRange (w0 : World) (p0 : Int) (p1 : Int) (p2 : Int) (r : Bool) (hF : F_impl_inRange p0 p1 p2 = some r) :
    Calls Try.prog 56 [(vI p0), (vI p1), (vI p2)].toArray w0 (fun en w' => ∃ v, en = .returned v ∧ (v = (vT r) ∧ Kept (Old w0) w0 w')) := by
  refine c_enter (n := 15) Try.func56 rfl rfl (Nat.le_of_ble_eq_true rfl) rfl ?_
  intro a hE
  have hM := M.start w0
  unfold F_impl_inRange at hF
  refine c_region ?_
  refine s_assign hE goes_none (by decide) rfl ?_; intro a hE
  refine c_fin ?_
  obtain ⟨j1, hl2, hF3⟩ := bind_some hF
  refine c_join (fun a w => Env 15 a [(6, (vT j1))] ∧ M (Old w0) w0 w []) ?_ ?_
  · skip
    refine wp_region_lit ?_
    refine s_move hE goes_none (by decide) rfl ?_; intro a hE
    refine s_move hE goes_none (by decide) rfl ?_; intro a hE
    refine s_int hE goes_none (by decide) rfl rfl rfl ?_; intro a hE
    refine s_move hE goes_none (by decide) rfl ?_; intro a hE
    refine splitB (decide (p1 ≤ p0)) (fun hb4 => ?_) (fun hb4 => ?_)
    · have hl2 := ite_t hl2 hb4
      refine s_move hE (goes_yes hE rfl (lkb rfl hb4)) (by decide) rfl ?_; intro a hE
      refine s_move hE (goes_yes hE rfl (lkb rfl hb4)) (by decide) rfl ?_; intro a hE
      refine s_int hE (goes_yes hE rfl (lkb rfl hb4)) (by decide) rfl rfl rfl ?_; intro a hE
      refine s_pickT hE goes_none (by decide) (lkb rfl hb4) rfl ?_; intro a hE
      refine s_assign hE goes_none (by decide) rfl ?_; intro a hE
      refine c_fin0 ?_
      have ht5 := Option.some.inj hl2
      subst ht5
      refine c_mid ?_
      exact ⟨hE.sub ⟨rfl, trivial⟩, hM⟩
    · have hl2 := ite_f hl2 hb4
      refine s_skip hE rfl (lkb rfl hb4) rfl (by decide) ?_; intro a hE
      refine s_skip hE rfl (lkb rfl hb4) rfl (by decide) ?_; intro a hE
      refine s_skip hE rfl (lkb rfl hb4) rfl (by decide) ?_; intro a hE
      refine s_pickF hE goes_none (by decide) (lkb rfl hb4) rfl ?_; intro a hE
      refine s_assign hE goes_none (by decide) rfl ?_; intro a hE
      refine c_fin0 ?_
      have ht6 := Option.some.inj hl2
      subst ht6
      refine c_mid ?_
      exact ⟨hE.sub ⟨rfl, trivial⟩, hM⟩
  · skip
    rintro a w ⟨hE, hM⟩
    have hr := Option.some.inj hF3
    subst hr
    exact wp_ret (k_ret1 hE rfl (res_tmp hE rfl) ⟨_, rfl, rfl, hM.kept⟩)
noncomputable def L0_impl_rest (p1 : Int) (p2 : Int) (s4 : Int × Int) : Option (Fl (Int × Int) Int) :=
  if (decide (s4.2 ≥ p2)) = true then (((nonneg s4.2).bind fun _ => (if ((andI (shrI s4.1 s4.2) 1) == 1) = true then ((nonneg (wr (s4.2 - p2))).bind fun _ => some (xorI s4.1 (shlI p1 (wr (s4.2 - p2))))) else (some s4.1) : Option (Int)).bind fun (j13 : Int) => some j13 : Option (Int)).bind fun (j9 : Int) => some (Fl.nx (j9, wr (s4.2 - 1)))) else (some (Fl.ex s4.1))
noncomputable def F_impl_rest (p0 : Int) (p1 : Int) (p2 : Int) : Option (Int) :=
  (iter (L0_impl_rest p1 p2) (p0, 15) : Option (Int)).bind fun (j1 : Int) => some j1
set_option maxRecDepth 20000 in
set_option maxHeartbeats 400000 in
theorem c_impl_rest (w0 : World) (p0 : Int) (p1 : Int) (p2 : Int) (r : Int) (hF : F_impl_rest p0 p1 p2 = some r) :
    Calls Try.prog 123 [(vI p0), (vI p1), (vI p2)].toArray w0 (fun en w' => ∃ v, en = .returned v ∧ (v = (vI r) ∧ Kept (Old w0) w0 w')) := by
  refine c_enter (n := 26) Try.func123 rfl rfl (Nat.le_of_ble_eq_true rfl) rfl ?_
  intro a hE
  have hM := M.start w0
  unfold F_impl_rest at hF
  refine c_region ?_
  refine s_assign hE goes_none (by decide) rfl ?_; intro a hE
  refine c_fin ?_
  refine wp_seq ?_
  refine c_region ?_
  refine s_assign hE goes_none (by decide) rfl ?_; intro a hE
  refine c_fin ?_
  obtain ⟨j1, hl2, hF3⟩ := bind_some hF
  refine c_cut (fun a w => Env 26 a [(0, (vI j1))] ∧ M (Old w0) w0 w []) ?_ ?_
  · skip
    refine wp_block ?_
    refine c_loop (fun (s4 : Int × Int) a w => Env 26 a [(0, (vI s4.1)), (1, (vI p1)), (2, (vI p2)), (7, (vI s4.2))] ∧ M (Old w0) w0 w []) hl2 ⟨hE.sub ⟨rfl, rfl, rfl, rfl, trivial⟩, hM⟩ ?_
    rintro s4 a w ⟨hE, hM⟩ o7 hs5 hx6
    unfold L0_impl_rest at hs5
    refine wp_seq ?_
    refine c_region ?_
    refine s_move hE goes_none (by decide) rfl ?_; intro a hE
    refine s_move hE goes_none (by decide) rfl ?_; intro a hE
    refine s_int hE goes_none (by decide) rfl rfl rfl ?_; intro a hE
    refine c_fin ?_
    refine c_cond hE rfl ?_ ?_
    · intro hb8
      have hs5 := ite_t hs5 hb8
      refine wp_skip ?_
      refine c_nx ?_
      obtain ⟨j9, hl10, hF11⟩ := bind_some hs5
      refine c_join (fun a w => Env 26 a [(0, (vI j9)), (1, (vI p1)), (2, (vI p2)), (7, (vI s4.2))] ∧ M (Old w0) w0 w []) ?_ ?_
      · skip
        refine wp_block ?_
        refine c_region ?_
        refine s_move hE goes_none (by decide) rfl ?_; intro a hE
        refine s_move hE goes_none (by decide) rfl ?_; intro a hE
        obtain ⟨_, e12, hl10⟩ := bind_some hl10
        have e12 := nonneg_some e12
        refine s_sh hE goes_none (by decide) rfl rfl (bI_shr _ _ e12) ?_; intro a hE
        refine s_int hE goes_none (by decide) rfl rfl rfl ?_; intro a hE
        refine s_int hE goes_none (by decide) rfl rfl rfl ?_; intro a hE
        refine c_fin ?_
        obtain ⟨j13, hl14, hF15⟩ := bind_some hl10
        refine c_cut (fun a w => Env 26 a [(0, (vI j13)), (1, (vI p1)), (2, (vI p2)), (7, (vI s4.2))] ∧ M (Old w0) w0 w []) ?_ ?_
        · skip
          refine c_cond hE rfl ?_ ?_
          · intro hb16
            have hl14 := ite_t hl14 hb16
            refine wp_region_lit ?_
            refine s_move hE goes_none (by decide) rfl ?_; intro a hE
            refine s_move hE goes_none (by decide) rfl ?_; intro a hE
            refine s_move hE goes_none (by decide) rfl ?_; intro a hE
            refine s_move hE goes_none (by decide) rfl ?_; intro a hE
            refine s_int hE goes_none (by decide) rfl rfl rfl ?_; intro a hE
            obtain ⟨_, e17, hl14⟩ := bind_some hl14
            have e17 := nonneg_some e17
            refine s_sh hE goes_none (by decide) rfl rfl (bI_shl _ _ e17) ?_; intro a hE
            refine s_int hE goes_none (by decide) rfl rfl rfl ?_; intro a hE
            refine s_assign hE goes_none (by decide) rfl ?_; intro a hE
            refine c_fin0 ?_
            have ht18 := Option.some.inj hl14
            subst ht18
            refine c_mid ?_
            exact ⟨hE.sub ⟨rfl, rfl, rfl, rfl, trivial⟩, hM⟩
          · intro hb16
            have hl14 := ite_f hl14 hb16
            refine wp_skip ?_
            have ht19 := Option.some.inj hl14
            subst ht19
            refine c_mid ?_
            exact ⟨hE.sub ⟨rfl, rfl, rfl, rfl, trivial⟩, hM⟩
        · skip
          rintro a w ⟨hE, hM⟩
          refine c_nb ?_
          have ht20 := Option.some.inj hF15
          subst ht20
          refine c_mid ?_
          exact ⟨hE.sub ⟨rfl, rfl, rfl, rfl, trivial⟩, hM⟩
      · skip
        rintro a w ⟨hE, hM⟩
        refine wp_region_lit ?_
        refine s_move hE goes_none (by decide) rfl ?_; intro a hE
        refine s_int hE goes_none (by decide) rfl rfl rfl ?_; intro a hE
        refine s_assign hE goes_none (by decide) rfl ?_; intro a hE
        refine c_fin0 ?_
        refine c_mid ?_
        exact ⟨_, (Option.some.inj hF11).symm, hE.sub ⟨rfl, rfl, rfl, rfl, trivial⟩, hM⟩
    · intro hb8
      have hs5 := ite_f hs5 hb8
      refine wp_exit (e_then (e_then (e_eq ?_)))
      have ht21 := hx6 _ (Option.some.inj hs5).symm
      subst ht21
      refine c_mid ?_
      exact ⟨hE.sub ⟨rfl, trivial⟩, hM⟩
  · skip
    rintro a w ⟨hE, hM⟩
    refine c_nx ?_
    refine c_region ?_
    refine s_move hE goes_none (by decide) rfl ?_; intro a hE
    refine s_assign hE goes_none (by decide) rfl ?_; intro a hE
    refine c_fin ?_
    have hr := Option.some.inj hF3
    subst hr
    exact wp_ret (k_ret1 hE rfl (res_tmp hE rfl) ⟨_, rfl, rfl, hM.kept⟩)
noncomputable def L1_impl_IsField (p0 : Int) (s8 : Int) (s18 : Int) : Option (Fl Int (Fl Unit Bool)) :=
  (nonneg s8).bind fun _ => if (decide (s18 < (shlI 2 s8))) = true then ((F_impl_rest p0 s18 s8).bind fun (r24 : Int) => if (r24 == 0) = true then (some (Fl.ex (Fl.ex false))) else (some (Fl.nx (wr (s18 + 1))))) else (some (Fl.ex (Fl.nx ())))
noncomputable def L0_impl_IsField (p0 : Int) (s8 : Int) : Option (Fl Int (Fl Unit Bool)) :=
  if (decide (s8 ≤ 4)) = true then ((nonneg s8).bind fun _ => (iter (L1_impl_IsField p0 s8) (shlI 1 s8) : Option (Fl Unit Bool)).bind fun (j14 : Fl Unit Bool) => j14.el (fun (s17 : Unit) => some (Fl.nx (wr (s8 + 1)))) (fun r => some (Fl.ex (Fl.ex r)))) else (some (Fl.ex (Fl.nx ())))
noncomputable def F_impl_IsField (p0 : Int) : Option (Bool) :=
  (F_impl_inRange p0 256 511).bind fun (r1 : Bool) => if (!r1) = true then (some false) else ((iter (L0_impl_IsField p0) 1 : Option (Fl Unit Bool)).bind fun (j4 : Fl Unit Bool) => j4.el (fun (s7 : Unit) => some true) (fun r => some r))
set_option maxRecDepth 20000 in
set_option maxHeartbeats 400000 in
theorem c_impl_IsField (w0 : World) (p0 : Int) (r : Bool) (hF : F_impl_IsField p0 = some r) :
    Calls Try.prog 68 [(vI p0)].toArray w0 (fun en w' => ∃ v, en = .returned v ∧ (v = (vT r) ∧ Kept (Old w0) w0 w')) := by
  refine c_enter (n := 25) Try.func68 rfl rfl (Nat.le_of_ble_eq_true rfl) rfl ?_
  intro a hE
  have hM := M.start w0
  unfold F_impl_IsField at hF
  refine c_region ?_
  refine s_assign hE goes_none (by decide) rfl ?_; intro a hE
  refine c_fin ?_
  refine wp_seq ?_
  refine c_region ?_
  refine s_move hE goes_none (by decide) rfl ?_; intro a hE
  obtain ⟨r1, e2, hF⟩ := bind_some hF
  refine s_call (vs := [(vI p0), (vI 256), (vI 511)]) hE goes_none (by decide) rfl cb56 (c_impl_inRange _ p0 256 511 r1 e2) ?_
  rintro v w a ⟨rfl, hK⟩ hE
  have hM := hM.keep hK
  refine s_not hE goes_none (by decide) rfl ?_; intro a hE
  refine c_fin ?_
  refine c_cond hE rfl ?_ ?_
  · intro hb3
    have hF := ite_t hF hb3
    refine c_region ?_
    refine s_assign hE goes_none (by decide) rfl ?_; intro a hE
    refine c_fin ?_
    have hr := Option.some.inj hF
    subst hr
    exact wp_ret (r_then (k_ret1 hE rfl (res_tmp hE rfl) ⟨_, rfl, rfl, hM.kept⟩))
  · intro hb3
    have hF := ite_f hF hb3
    refine wp_skip ?_
    refine c_nx ?_
    refine wp_seq ?_
    refine c_region ?_
    refine s_assign hE goes_none (by decide) rfl ?_; intro a hE
    refine c_fin ?_
    obtain ⟨j4, hl5, hF6⟩ := bind_some hF
    refine c_cut (fun a w => ∃ s7 : Unit, j4 = Fl.nx s7 ∧ Env 25 a [] ∧ M (Old w0) w0 w []) ?_ ?_
    · skip
      refine wp_block ?_
      refine c_loop (fun (s8 : Int) a w => Env 25 a [(0, (vI p0)), (3, (vI s8))] ∧ M (Old w0) w0 w []) hl5 ⟨hE.sub ⟨rfl, rfl, trivial⟩, hM⟩ ?_
      rintro s8 a w ⟨hE, hM⟩ o11 hs9 hx10
      unfold L0_impl_IsField at hs9
      refine wp_seq ?_
      refine c_region ?_
      refine s_move hE goes_none (by decide) rfl ?_; intro a hE
      refine s_int hE goes_none (by decide) rfl rfl rfl ?_; intro a hE
      refine c_fin ?_
      refine c_cond hE rfl ?_ ?_
      · intro hb12
        have hs9 := ite_t hs9 hb12
        refine wp_skip ?_
        refine c_nx ?_
        refine wp_seq ?_
        refine wp_block ?_
        refine c_region ?_
        refine s_move hE goes_none (by decide) rfl ?_; intro a hE
        obtain ⟨_, e13, hs9⟩ := bind_some hs9
        have e13 := nonneg_some e13
        refine s_sh hE goes_none (by decide) rfl rfl (bI_shl _ _ e13) ?_; intro a hE
        refine s_assign hE goes_none (by decide) rfl ?_; intro a hE
        refine c_fin ?_
        obtain ⟨j14, hl15, hF16⟩ := bind_some hs9
        refine c_cut (fun a w => ∃ s17 : Unit, j14 = Fl.nx s17 ∧ Env 25 a [(0, (vI p0)), (3, (vI s8))] ∧ M (Old w0) w0 w []) ?_ ?_
        · skip
          refine wp_block ?_
          refine c_loop (fun (s18 : Int) a w => Env 25 a [(0, (vI p0)), (3, (vI s8)), (4, (vI s18))] ∧ M (Old w0) w0 w []) hl15 ⟨hE.sub ⟨rfl, rfl, rfl, trivial⟩, hM⟩ ?_
          rintro s18 a w ⟨hE, hM⟩ o21 hs19 hx20
          unfold L1_impl_IsField at hs19
          refine wp_seq ?_
          refine c_region ?_
          refine s_move hE goes_none (by decide) rfl ?_; intro a hE
          refine s_move hE goes_none (by decide) rfl ?_; intro a hE
          obtain ⟨_, e22, hs19⟩ := bind_some hs19
          have e22 := nonneg_some e22
          refine s_sh hE goes_none (by decide) rfl rfl (bI_shl _ _ e22) ?_; intro a hE
          refine s_int hE goes_none (by decide) rfl rfl rfl ?_; intro a hE
          refine c_fin ?_
          refine c_cond hE rfl ?_ ?_
          · intro hb23
            have hs19 := ite_t hs19 hb23
            refine wp_skip ?_
            refine c_nx ?_
            refine wp_seq ?_
            refine wp_block ?_
            refine c_region ?_
            refine s_move hE goes_none (by decide) rfl ?_; intro a hE
            refine s_move hE goes_none (by decide) rfl ?_; intro a hE
            refine s_move hE goes_none (by decide) rfl ?_; intro a hE
            obtain ⟨r24, e25, hs19⟩ := bind_some hs19
            refine s_call (vs := [(vI p0), (vI s18), (vI s8)]) hE goes_none (by decide) rfl cb123 (c_impl_rest _ p0 s18 s8 r24 e25) ?_
            rintro v w a ⟨rfl, hK⟩ hE
            have hM := hM.keep hK
            refine s_int hE goes_none (by decide) rfl rfl rfl ?_; intro a hE
            refine c_fin ?_
            refine c_cond hE rfl ?_ ?_
            · intro hb26
              have hs19 := ite_t hs19 hb26
              refine c_region ?_
              refine s_assign hE goes_none (by decide) rfl ?_; intro a hE
              refine c_fin ?_
              have ht27 := hx20 _ (Option.some.inj hs19).symm
              subst ht27
              have ht28 := hx10 _ (Option.some.inj hF16).symm
              subst ht28
              have hr := Option.some.inj hF6
              subst hr
              exact wp_ret (r_inb (r_then (r_then (r_inb (r_then (r_inb (r_then (r_then (r_inb (r_then (r_then (k_ret1 hE rfl (res_tmp hE rfl) ⟨_, rfl, rfl, hM.kept⟩))))))))))))
            · intro hb26
              have hs19 := ite_f hs19 hb26
              refine wp_skip ?_
              refine c_nb ?_
              refine c_nx ?_
              refine wp_region_lit ?_
              refine s_move hE goes_none (by decide) rfl ?_; intro a hE
              refine s_int hE goes_none (by decide) rfl rfl rfl ?_; intro a hE
              refine s_assign hE goes_none (by decide) rfl ?_; intro a hE
              refine c_fin0 ?_
              refine c_mid ?_
              exact ⟨_, (Option.some.inj hs19).symm, hE.sub ⟨rfl, rfl, rfl, trivial⟩, hM⟩
          · intro hb23
            have hs19 := ite_f hs19 hb23
            refine wp_exit (e_then (e_then (e_eq ?_)))
            have ht29 := hx20 _ (Option.some.inj hs19).symm
            subst ht29
            refine c_mid ?_
            exact ⟨(), rfl, hE.sub ⟨rfl, rfl, trivial⟩, hM⟩
        · skip
          rintro a w ⟨s17, ht, hE, hM⟩
          subst ht
          refine c_nb ?_
          refine c_nx ?_
          refine wp_region_lit ?_
          refine s_move hE goes_none (by decide) rfl ?_; intro a hE
          refine s_int hE goes_none (by decide) rfl rfl rfl ?_; intro a hE
          refine s_assign hE goes_none (by decide) rfl ?_; intro a hE
          refine c_fin0 ?_
          refine c_mid ?_
          exact ⟨_, (Option.some.inj hF16).symm, hE.sub ⟨rfl, rfl, trivial⟩, hM⟩
      · intro hb12
        have hs9 := ite_f hs9 hb12
        refine wp_exit (e_then (e_then (e_eq ?_)))
        have ht30 := hx10 _ (Option.some.inj hs9).symm
        subst ht30
        refine c_mid ?_
        exact ⟨(), rfl, hE.sub trivial, hM⟩
    · skip
      rintro a w ⟨s7, ht, hE, hM⟩
      subst ht
      refine c_nx ?_
      refine c_region ?_
      refine s_assign hE goes_none (by decide) rfl ?_; intro a hE
      refine c_fin ?_
      have hr := Option.some.inj hF6
      subst hr
      exact wp_ret (k_ret1 hE rfl (res_tmp hE rfl) ⟨_, rfl, rfl, hM.kept⟩)
noncomputable def F_impl_length_byte (p0 : (List UInt8)) : Option (Int) :=
  some (p0.length : Int)
set_option maxRecDepth 20000 in
set_option maxHeartbeats 400000 in
theorem c_impl_length_byte (w0 : World) (p0 : (List UInt8)) (v0_1 : Value) (hv0_1 : Ro w0 p0 [v0_1]) (r : Int) (hF : F_impl_length_byte p0 = some r) :
    Calls Try.prog 69 [v0_1].toArray w0 (fun en w' => ∃ v, en = .returned v ∧ (v = (vI r) ∧ Kept (Old w0) w0 w')) := by
  refine c_enter (n := 5) Try.func69 rfl rfl (Nat.le_of_ble_eq_true rfl) rfl ?_
  intro a hE
  have hM := M.start w0
  unfold F_impl_length_byte at hF
  refine c_region ?_
  refine s_assign hE goes_none (by decide) rfl ?_; intro a hE
  refine c_fin ?_
  refine c_region ?_
  refine s_move hE goes_none (by decide) rfl ?_; intro a hE
  refine s_len hE goes_none (by decide) rfl Try.underlying29 (hM.rd hv0_1) ?_; intro a hE
  refine s_assign hE goes_none (by decide) rfl ?_; intro a hE
  refine c_fin ?_
  have hr := Option.some.inj hF
  subst hr
  exact wp_ret (k_ret1 hE rfl (res_tmp hE rfl) ⟨_, rfl, rfl, hM.kept⟩)
noncomputable def F_bytes_IndexByte (p0 : (List UInt8)) (p1 : UInt8) : Option (Int) :=
  some (indexByte p0 p1)
set_option maxRecDepth 20000 in
set_option maxHeartbeats 400000 in
theorem c_bytes_IndexByte (w0 : World) (p0 : (List UInt8)) (v0_1 : Value) (hv0_1 : Ro w0 p0 [v0_1]) (p1 : UInt8) (r : Int) (hF : F_bytes_IndexByte p0 p1 = some r) :
    Calls Try.prog 116 [v0_1, (vB p1)].toArray w0 (fun en w' => ∃ v, en = .returned v ∧ (v = (vI r) ∧ Kept (Old w0) w0 w')) := by
  refine c_enter (n := 8) Try.func116 rfl rfl (Nat.le_of_ble_eq_true rfl) rfl ?_
  intro a hE
  have hM := M.start w0
  unfold F_bytes_IndexByte at hF
  refine c_region ?_
  refine s_assign hE goes_none (by decide) rfl ?_; intro a hE
  refine c_fin ?_
  refine c_region ?_
  refine s_move hE goes_none (by decide) rfl ?_; intro a hE
  refine s_move hE goes_none (by decide) rfl ?_; intro a hE
  refine s_indexByte hE goes_none (by decide) rfl Try.func144 rfl (by decide) (by kernel_rfl) (by kernel_rfl) (hM.rd hv0_1) ?_; intro a hE
  refine s_assign hE goes_none (by decide) rfl ?_; intro a hE
  refine c_fin ?_
  have hr := Option.some.inj hF
  subst hr
  exact wp_ret (k_ret1 hE rfl (res_tmp hE rfl) ⟨_, rfl, rfl, hM.kept⟩)
noncomputable def L0_impl_areDifferent (p0 : (List UInt8)) (s5 : Int) : Option (Fl Int (Fl Unit Bool)) :=
  if (decide (s5 < (p0.length : Int))) = true then ((idx p0 s5).bind fun (x10 : UInt8) => (slc p0 (0 : Int) s5).bind fun (l13 : (List UInt8)) => (F_bytes_IndexByte l13 x10).bind fun (r16 : Int) => if (decide (r16 ≥ 0)) = true then (some (Fl.ex (Fl.ex false))) else (some (Fl.nx (wr (s5 + 1))))) else (some (Fl.ex (Fl.nx ())))
noncomputable def F_impl_areDifferent (p0 : (List UInt8)) : Option (Bool) :=
  (iter (L0_impl_areDifferent p0) 0 : Option (Fl Unit Bool)).bind fun (j1 : Fl Unit Bool) => j1.el (fun (s4 : Unit) => some true) (fun r => some r)
set_option maxRecDepth 20000 in
set_option maxHeartbeats 400000 in
theorem c_impl_areDifferent (w0 : World) (p0 : (List UInt8)) (v0_1 : Value) (hv0_1 : Ro w0 p0 [v0_1]) (r : Bool) (hF : F_impl_areDifferent p0 = some r) :
    Calls Try.prog 61 [v0_1].toArray w0 (fun en w' => ∃ v, en = .returned v ∧ (v = (vT r) ∧ Kept (Old w0) w0 w')) := by
  refine c_enter (n := 19) Try.func61 rfl rfl (Nat.le_of_ble_eq_true rfl) rfl ?_
  intro a hE
  have hM := M.start w0
  unfold F_impl_areDifferent at hF
  refine c_region ?_
  refine s_assign hE goes_none (by decide) rfl ?_; intro a hE
  refine c_fin ?_
  refine wp_seq ?_
  refine c_region ?_
  refine s_move hE goes_none (by decide) rfl ?_; intro a hE
  refine s_len hE goes_none (by decide) rfl Try.underlying29 (hM.rd hv0_1) ?_; intro a hE
  refine s_move hE goes_none (by decide) rfl ?_; intro a hE
  refine c_fin ?_
  obtain ⟨j1, hl2, hF3⟩ := bind_some hF
  refine c_cut (fun a w => ∃ s4 : Unit, j1 = Fl.nx s4 ∧ Env 19 a [] ∧ M (Old w0) w0 w []) ?_ ?_
  · skip
    refine wp_block ?_
    refine c_loop (fun (s5 : Int) a w => Env 19 a [(0, v0_1), (5, v0_1), (6, (vI (p0.length : Int))), (7, (vI s5))] ∧ M (Old w0) w0 w []) hl2 ⟨hE.sub ⟨rfl, rfl, rfl, rfl, trivial⟩, hM⟩ ?_
    rintro s5 a w ⟨hE, hM⟩ o8 hs6 hx7
    unfold L0_impl_areDifferent at hs6
    refine c_region ?_
    refine s_int hE goes_none (by decide) rfl rfl rfl ?_; intro a hE
    refine c_fin ?_
    refine wp_seq ?_
    refine c_cond hE rfl ?_ ?_
    · intro hb9
      have hs6 := ite_t hs6 hb9
      refine wp_skip ?_
      refine c_nx ?_
      refine wp_seq ?_
      refine wp_block ?_
      refine c_region ?_
      refine s_move hE goes_none (by decide) rfl ?_; intro a hE
      obtain ⟨x10, e11, hs6⟩ := bind_some hs6
      have hi12 := idx_some e11
      refine s_indexS hE goes_none (by decide) rfl rfl Try.underlying29 ty5 (hM.rd hv0_1) hi12.1 ?_; intro a hE
      refine s_load (v := (vB x10)) hE goes_none (by decide) rfl ty5 rfl (sl_atF (hM.rd hv0_1) hi12.2) ?_; intro a hE
      refine s_assign hE goes_none (by decide) rfl ?_; intro a hE
      refine s_assign hE goes_none (by decide) rfl ?_; intro a hE
      refine c_fin ?_
      refine c_region ?_
      refine s_move hE goes_none (by decide) rfl ?_; intro a hE
      refine s_move hE goes_none (by decide) rfl ?_; intro a hE
      obtain ⟨l13, e14, hs6⟩ := bind_some hs6
      refine s_slice hE goes_none (by decide) rfl rfl rfl rfl rfl Try.underlying29 ty5 (hM.rd hv0_1) e14 ?_; intro a hE
      have h15 : Rep.sat (Old w0) w0 l13 [(sliceV v0_1 ((0 : Int)).toNat (s5).toNat 1)] [] := ro_slice hv0_1 e14 -- ^
      refine s_move hE goes_none (by decide) rfl ?_; intro a hE
      obtain ⟨r16, e17, hs6⟩ := bind_some hs6
      refine s_call (vs := [(sliceV v0_1 ((0 : Int)).toNat (s5).toNat 1), (vB x10)]) hE goes_none (by decide) rfl cb116 (c_bytes_IndexByte _ l13 (sliceV v0_1 ((0 : Int)).toNat (s5).toNat 1) (hM.rdo h15) x10 r16 e17) ?_
      rintro v w a ⟨rfl, hK⟩ hE
      have hM := hM.keep hK
      refine s_int hE goes_none (by decide) rfl rfl rfl ?_; intro a hE
      refine c_fin ?_
      refine c_cond hE rfl ?_ ?_
      · intro hb18
        have hs6 := ite_t hs6 hb18
        refine c_region ?_
        refine s_assign hE goes_none (by decide) rfl ?_; intro a hE
        refine c_fin ?_
        have ht19 := hx7 _ (Option.some.inj hs6).symm
        subst ht19
        have hr := Option.some.inj hF3
        subst hr
        exact wp_ret (r_inb (r_then (r_then (r_inb (r_then (r_then (k_ret1 hE rfl (res_tmp hE rfl) ⟨_, rfl, rfl, hM.kept⟩)))))))
      · intro hb18
        have hs6 := ite_f hs6 hb18
        refine wp_skip ?_
        refine c_nb ?_
        refine c_nx ?_
        refine wp_region_lit ?_
        refine s_int hE goes_none (by decide) rfl rfl rfl ?_; intro a hE
        refine s_move hE goes_none (by decide) rfl ?_; intro a hE
        refine c_fin0 ?_
        refine c_mid ?_
        exact ⟨_, (Option.some.inj hs6).symm, hE.sub ⟨rfl, rfl, rfl, rfl, trivial⟩, hM⟩
    · intro hb9
      have hs6 := ite_f hs6 hb9
      refine wp_exit (e_then (e_then (e_eq ?_)))
      have ht20 := hx7 _ (Option.some.inj hs6).symm
      subst ht20
      refine c_mid ?_
      exact ⟨(), rfl, hE.sub trivial, hM⟩
  · skip
    rintro a w ⟨s4, ht, hE, hM⟩
    subst ht
    refine c_nx ?_
    refine c_region ?_
    refine s_assign hE goes_none (by decide) rfl ?_; intro a hE
    refine c_fin ?_
    have hr := Option.some.inj hF3
    subst hr
    exact wp_ret (k_ret1 hE rfl (res_tmp hE rfl) ⟨_, rfl, rfl, hM.kept⟩)
noncomputable def F_impl_arePlacesOf (p0 : (List UInt8)) : Option (Bool) :=
  ((F_impl_areDifferent p0).bind fun (r4 : Bool) => if r4 = true then ((F_bytes_IndexByte p0 0).bind fun (r7 : Int) => some (decide (r7 < 0))) else (some false) : Option (Bool)).bind fun (j1 : Bool) => some j1
set_option maxRecDepth 20000 in
set_option maxHeartbeats 400000 in
theorem c_impl_arePlacesOf (w0 : World) (p0 : (List UInt8)) (v0_1 : Value) (hv0_1 : Ro w0 p0 [v0_1]) (r : Bool) (hF : F_impl_arePlacesOf p0 = some r) :
    Calls Try.prog 70 [v0_1].toArray w0 (fun en w' => ∃ v, en = .returned v ∧ (v = (vT r) ∧ Kept (Old w0) w0 w')) := by
  refine c_enter (n := 10) Try.func70 rfl rfl (Nat.le_of_ble_eq_true rfl) rfl ?_
  intro a hE
  have hM := M.start w0
  unfold F_impl_arePlacesOf at hF
  refine c_region ?_
  refine s_assign hE goes_none (by decide) rfl ?_; intro a hE
  refine c_fin ?_
  obtain ⟨j1, hl2, hF3⟩ := bind_some hF
  refine c_join (fun a w => Env 10 a [(2, (vT j1))] ∧ M (Old w0) w0 w []) ?_ ?_
  · skip
    refine wp_region_lit ?_
    refine s_move hE goes_none (by decide) rfl ?_; intro a hE
    obtain ⟨r4, e5, hl2⟩ := bind_some hl2
    refine s_call (vs := [v0_1]) hE goes_none (by decide) rfl cb61 (c_impl_areDifferent _ p0 v0_1 (hM.rdo hv0_1) r4 e5) ?_
    rintro v w a ⟨rfl, hK⟩ hE
    have hM := hM.keep hK
    refine s_move hE goes_none (by decide) rfl ?_; intro a hE
    refine splitB r4 (fun hb6 => ?_) (fun hb6 => ?_)
    · have hl2 := ite_t hl2 hb6
      refine s_move hE (goes_yes hE rfl (lkb rfl hb6)) (by decide) rfl ?_; intro a hE
      obtain ⟨r7, e8, hl2⟩ := bind_some hl2
      refine s_call (vs := [v0_1, (vB 0)]) hE (goes_yes hE rfl (lkb rfl hb6)) (by decide) rfl cb116 (c_bytes_IndexByte _ p0 v0_1 (hM.rdo hv0_1) 0 r7 e8) ?_
      rintro v w a ⟨rfl, hK⟩ hE
      have hM := hM.keep hK
      refine s_int hE (goes_yes hE rfl (lkb rfl hb6)) (by decide) rfl rfl rfl ?_; intro a hE
      refine s_pickT hE goes_none (by decide) (lkb rfl hb6) rfl ?_; intro a hE
      refine s_assign hE goes_none (by decide) rfl ?_; intro a hE
      refine c_fin0 ?_
      have ht9 := Option.some.inj hl2
      subst ht9
      refine c_mid ?_
      exact ⟨hE.sub ⟨rfl, trivial⟩, hM⟩
    · have hl2 := ite_f hl2 hb6
      refine s_skip hE rfl (lkb rfl hb6) rfl (by decide) ?_; intro a hE
      refine s_skip hE rfl (lkb rfl hb6) rfl (by decide) ?_; intro a hE
      refine s_skip hE rfl (lkb rfl hb6) rfl (by decide) ?_; intro a hE
      refine s_pickF hE goes_none (by decide) (lkb rfl hb6) rfl ?_; intro a hE
      refine s_assign hE goes_none (by decide) rfl ?_; intro a hE
      refine c_fin0 ?_
      have ht10 := Option.some.inj hl2
      subst ht10
      refine c_mid ?_
      exact ⟨hE.sub ⟨rfl, trivial⟩, hM⟩
  · skip
    rintro a w ⟨hE, hM⟩
    have hr := Option.some.inj hF3
    subst hr
    exact wp_ret (k_ret1 hE rfl (res_tmp hE rfl) ⟨_, rfl, rfl, hM.kept⟩)
noncomputable def L0_impl_field_times (p1 : UInt8) (p2 : UInt8) (s4 : Int × Int) : Option (Fl (Int × Int) Int) :=
  if (decide (s4.2 < 8)) = true then (((nonneg s4.2).bind fun _ => (if (((shrB p2 s4.2) &&& 1) == 1) = true then ((nonneg s4.2).bind fun _ => some (xorI s4.1 (shlI (bI p1) s4.2))) else (some s4.1) : Option (Int)).bind fun (j13 : Int) => some j13 : Option (Int)).bind fun (j9 : Int) => some (Fl.nx (j9, wr (s4.2 + 1)))) else (some (Fl.ex s4.1))
noncomputable def F_impl_field_times (p0 : Int) (p1 : UInt8) (p2 : UInt8) : Option (UInt8) :=
  (iter (L0_impl_field_times p1 p2) (0, 0) : Option (Int)).bind fun (j1 : Int) => (F_impl_rest j1 p0 8).bind fun (r22 : Int) => some (byteI r22)
set_option maxRecDepth 20000 in
set_option maxHeartbeats 400000 in
theorem c_impl_field_times (w0 : World) (p0 : Int) (p1 : UInt8) (p2 : UInt8) (r : UInt8) (hF : F_impl_field_times p0 p1 p2 = some r) :
    Calls Try.prog 71 [(vI p0), (vB p1), (vB p2)].toArray w0 (fun en w' => ∃ v, en = .returned v ∧ (v = (vB r) ∧ Kept (Old w0) w0 w')) := by
  refine c_enter (n := 28) Try.func71 rfl rfl (Nat.le_of_ble_eq_true rfl) rfl ?_
  intro a hE
  have hM := M.start w0
  unfold F_impl_field_times at hF
  refine c_region ?_
  refine s_assign hE goes_none (by decide) rfl ?_; intro a hE
  refine c_fin ?_
  refine c_region ?_
  refine s_assign hE goes_none (by decide) rfl ?_; intro a hE
  refine c_fin ?_
  refine wp_seq ?_
  refine c_region ?_
  refine s_move hE goes_none (by decide) rfl ?_; intro a hE
  refine c_fin ?_
  obtain ⟨j1, hl2, hF3⟩ := bind_some hF
  refine c_cut (fun a w => Env 28 a [(0, (vI p0)), (7, (vI j1))] ∧ M (Old w0) w0 w []) ?_ ?_
  · skip
    refine wp_block ?_
    refine c_loop (fun (s4 : Int × Int) a w => Env 28 a [(0, (vI p0)), (1, (vB p1)), (2, (vB p2)), (7, (vI s4.1)), (9, (vI s4.2))] ∧ M (Old w0) w0 w []) hl2 ⟨hE.sub ⟨rfl, rfl, rfl, rfl, rfl, trivial⟩, hM⟩ ?_
    rintro s4 a w ⟨hE, hM⟩ o7 hs5 hx6
    unfold L0_impl_field_times at hs5
    refine c_region ?_
    refine s_int hE goes_none (by decide) rfl rfl rfl ?_; intro a hE
    refine c_fin ?_
    refine wp_seq ?_
    refine c_cond hE rfl ?_ ?_
    · intro hb8
      have hs5 := ite_t hs5 hb8
      refine wp_skip ?_
      refine c_nx ?_
      obtain ⟨j9, hl10, hF11⟩ := bind_some hs5
      refine c_join (fun a w => Env 28 a [(0, (vI p0)), (1, (vB p1)), (2, (vB p2)), (7, (vI j9)), (9, (vI s4.2))] ∧ M (Old w0) w0 w []) ?_ ?_
      · skip
        refine wp_block ?_
        refine c_region ?_
        refine s_move hE goes_none (by decide) rfl ?_; intro a hE
        refine s_assign hE goes_none (by decide) rfl ?_; intro a hE
        refine c_fin ?_
        refine c_region ?_
        refine s_move hE goes_none (by decide) rfl ?_; intro a hE
        refine s_move hE goes_none (by decide) rfl ?_; intro a hE
        obtain ⟨_, e12, hl10⟩ := bind_some hl10
        have e12 := nonneg_some e12
        refine s_sh hE goes_none (by decide) rfl rfl (bB_shr _ _ e12) ?_; intro a hE
        refine s_int hE goes_none (by decide) rfl rfl (bB_and (shrB p2 s4.2) 1) ?_; intro a hE
        refine s_int hE goes_none (by decide) rfl rfl (bB_eql ((shrB p2 s4.2) &&& 1) 1) ?_; intro a hE
        refine c_fin ?_
        obtain ⟨j13, hl14, hF15⟩ := bind_some hl10
        refine c_cut (fun a w => Env 28 a [(0, (vI p0)), (1, (vB p1)), (2, (vB p2)), (7, (vI j13)), (9, (vI s4.2))] ∧ M (Old w0) w0 w []) ?_ ?_
        · skip
          refine c_cond hE rfl ?_ ?_
          · intro hb16
            have hl14 := ite_t hl14 hb16
            refine wp_region_lit ?_
            refine s_move hE goes_none (by decide) rfl ?_; intro a hE
            refine s_move hE goes_none (by decide) rfl ?_; intro a hE
            refine s_conv hE goes_none (by decide) rfl Try.underlying5 Try.underlying2 ?_; intro a hE
            rw [byte_wide] at hE
            refine s_move hE goes_none (by decide) rfl ?_; intro a hE
            obtain ⟨_, e17, hl14⟩ := bind_some hl14
            have e17 := nonneg_some e17
            refine s_sh hE goes_none (by decide) rfl rfl (bI_shl _ _ e17) ?_; intro a hE
            refine s_int hE goes_none (by decide) rfl rfl rfl ?_; intro a hE
            refine s_assign hE goes_none (by decide) rfl ?_; intro a hE
            refine c_fin0 ?_
            have ht18 := Option.some.inj hl14
            subst ht18
            refine c_mid ?_
            exact ⟨hE.sub ⟨rfl, rfl, rfl, rfl, rfl, trivial⟩, hM⟩
          · intro hb16
            have hl14 := ite_f hl14 hb16
            refine wp_skip ?_
            have ht19 := Option.some.inj hl14
            subst ht19
            refine c_mid ?_
            exact ⟨hE.sub ⟨rfl, rfl, rfl, rfl, rfl, trivial⟩, hM⟩
        · skip
          rintro a w ⟨hE, hM⟩
          refine c_nb ?_
          have ht20 := Option.some.inj hF15
          subst ht20
          refine c_mid ?_
          exact ⟨hE.sub ⟨rfl, rfl, rfl, rfl, rfl, trivial⟩, hM⟩
      · skip
        rintro a w ⟨hE, hM⟩
        refine wp_region_lit ?_
        refine s_int hE goes_none (by decide) rfl rfl rfl ?_; intro a hE
        refine s_move hE goes_none (by decide) rfl ?_; intro a hE
        refine c_fin0 ?_
        refine c_mid ?_
        exact ⟨_, (Option.some.inj hF11).symm, hE.sub ⟨rfl, rfl, rfl, rfl, rfl, trivial⟩, hM⟩
    · intro hb8
      have hs5 := ite_f hs5 hb8
      refine wp_exit (e_then (e_then (e_eq ?_)))
      have ht21 := hx6 _ (Option.some.inj hs5).symm
      subst ht21
      refine c_mid ?_
      exact ⟨hE.sub ⟨rfl, rfl, trivial⟩, hM⟩
  · skip
    rintro a w ⟨hE, hM⟩
    refine c_nx ?_
    refine c_region ?_
    refine s_move hE goes_none (by decide) rfl ?_; intro a hE
    refine s_move hE goes_none (by decide) rfl ?_; intro a hE
    obtain ⟨r22, e23, hF3⟩ := bind_some hF3
    refine s_call (vs := [(vI j1), (vI p0), (vI 8)]) hE goes_none (by decide) rfl cb123 (c_impl_rest _ j1 p0 8 r22 e23) ?_
    rintro v w a ⟨rfl, hK⟩ hE
    have hM := hM.keep hK
    refine s_conv hE goes_none (by decide) rfl Try.underlying2 Try.underlying5 ?_; intro a hE
    rw [byteI_val] at hE
    refine s_assign hE goes_none (by decide) rfl ?_; intro a hE
    refine c_fin ?_
    have hr := Option.some.inj hF3
    subst hr
    exact wp_ret (k_ret1 hE rfl (res_tmp hE rfl) ⟨_, rfl, rfl, hM.kept⟩)
noncomputable def L0_impl_field_power (p0 : Int) (s4 : UInt8 × Int × UInt8) : Option (Fl (UInt8 × Int × UInt8) UInt8) :=
  if (decide (s4.2.1 > 0)) = true then (((if ((Int.tmod s4.2.1 2) == 1) = true then ((F_impl_field_times p0 s4.2.2 s4.1).bind fun (r16 : UInt8) => some r16) else (some s4.2.2) : Option (UInt8)).bind fun (j12 : UInt8) => (F_impl_field_times p0 s4.1 s4.1).bind fun (r20 : UInt8) => some (r20, j12) : Option (UInt8 × UInt8)).bind fun (j9 : UInt8 × UInt8) => some (Fl.nx (j9.1, wr (Int.tdiv s4.2.1 2), j9.2))) else (some (Fl.ex s4.2.2))
noncomputable def F_impl_field_power (p0 : Int) (p1 : UInt8) (p2 : Int) : Option (UInt8) :=
  (iter (L0_impl_field_power p0) (p1, p2, 1) : Option (UInt8)).bind fun (j1 : UInt8) => some j1
set_option maxRecDepth 20000 in
set_option maxHeartbeats 400000 in
theorem c_impl_field_power (w0 : World) (p0 : Int) (p1 : UInt8) (p2 : Int) (r : UInt8) (hF : F_impl_field_power p0 p1 p2 = some r) :
    Calls Try.prog 124 [(vI p0), (vB p1), (vI p2)].toArray w0 (fun en w' => ∃ v, en = .returned v ∧ (v = (vB r) ∧ Kept (Old w0) w0 w')) := by
  refine c_enter (n := 24) Try.func124 rfl rfl (Nat.le_of_ble_eq_true rfl) rfl ?_
  intro a hE
  have hM := M.start w0
  unfold F_impl_field_power at hF
  refine c_region ?_
  refine s_assign hE goes_none (by decide) rfl ?_; intro a hE
  refine c_fin ?_
  refine c_region ?_
  refine s_assign hE goes_none (by decide) rfl ?_; intro a hE
  refine c_fin ?_
  obtain ⟨j1, hl2, hF3⟩ := bind_some hF
  refine c_join (fun a w => Env 24 a [(7, (vB j1))] ∧ M (Old w0) w0 w []) ?_ ?_
  · skip
    refine wp_block ?_
    refine c_loop (fun (s4 : UInt8 × Int × UInt8) a w => Env 24 a [(0, (vI p0)), (1, (vB s4.1)), (2, (vI s4.2.1)), (7, (vB s4.2.2))] ∧ M (Old w0) w0 w []) hl2 ⟨hE.sub ⟨rfl, rfl, rfl, rfl, trivial⟩, hM⟩ ?_
    rintro s4 a w ⟨hE, hM⟩ o7 hs5 hx6
    unfold L0_impl_field_power at hs5
    refine wp_seq ?_
    refine c_region ?_
    refine s_move hE goes_none (by decide) rfl ?_; intro a hE
    refine s_int hE goes_none (by decide) rfl rfl rfl ?_; intro a hE
    refine c_fin ?_
    refine c_cond hE rfl ?_ ?_
    · intro hb8
      have hs5 := ite_t hs5 hb8
      refine wp_skip ?_
      refine c_nx ?_
      obtain ⟨j9, hl10, hF11⟩ := bind_some hs5
      refine c_join (fun a w => Env 24 a [(0, (vI p0)), (1, (vB j9.1)), (2, (vI s4.2.1)), (7, (vB j9.2))] ∧ M (Old w0) w0 w []) ?_ ?_
      · skip
        refine wp_block ?_
        obtain ⟨j12, hl13, hF14⟩ := bind_some hl10
        refine c_join (fun a w => Env 24 a [(0, (vI p0)), (1, (vB s4.1)), (2, (vI s4.2.1)), (7, (vB j12))] ∧ M (Old w0) w0 w []) ?_ ?_
        · skip
          refine c_region ?_
          refine s_move hE goes_none (by decide) rfl ?_; intro a hE
          refine s_int hE goes_none (by decide) rfl rfl (bI_rem _ _ (by decide)) ?_; intro a hE
          refine s_int hE goes_none (by decide) rfl rfl rfl ?_; intro a hE
          refine c_fin ?_
          refine c_cond hE rfl ?_ ?_
          · intro hb15
            have hl13 := ite_t hl13 hb15
            refine wp_region_lit ?_
            refine s_move hE goes_none (by decide) rfl ?_; intro a hE
            refine s_move hE goes_none (by decide) rfl ?_; intro a hE
            refine s_move hE goes_none (by decide) rfl ?_; intro a hE
            obtain ⟨r16, e17, hl13⟩ := bind_some hl13
            refine s_call (vs := [(vI p0), (vB s4.2.2), (vB s4.1)]) hE goes_none (by decide) rfl cb71 (c_impl_field_times _ p0 s4.2.2 s4.1 r16 e17) ?_
            rintro v w a ⟨rfl, hK⟩ hE
            have hM := hM.keep hK
            refine s_assign hE goes_none (by decide) rfl ?_; intro a hE
            refine c_fin0 ?_
            have ht18 := Option.some.inj hl13
            subst ht18
            refine c_mid ?_
            exact ⟨hE.sub ⟨rfl, rfl, rfl, rfl, trivial⟩, hM⟩
          · intro hb15
            have hl13 := ite_f hl13 hb15
            refine wp_skip ?_
            have ht19 := Option.some.inj hl13
            subst ht19
            refine c_mid ?_
            exact ⟨hE.sub ⟨rfl, rfl, rfl, rfl, trivial⟩, hM⟩
        · skip
          rintro a w ⟨hE, hM⟩
          refine wp_region_lit ?_
          refine s_move hE goes_none (by decide) rfl ?_; intro a hE
          refine s_move hE goes_none (by decide) rfl ?_; intro a hE
          refine s_move hE goes_none (by decide) rfl ?_; intro a hE
          obtain ⟨r20, e21, hF14⟩ := bind_some hF14
          refine s_call (vs := [(vI p0), (vB s4.1), (vB s4.1)]) hE goes_none (by decide) rfl cb71 (c_impl_field_times _ p0 s4.1 s4.1 r20 e21) ?_
          rintro v w a ⟨rfl, hK⟩ hE
          have hM := hM.keep hK
          refine s_assign hE goes_none (by decide) rfl ?_; intro a hE
          refine c_fin0 ?_
          refine c_nb ?_
          have ht22 := Option.some.inj hF14
          subst ht22
          refine c_mid ?_
          exact ⟨hE.sub ⟨rfl, rfl, rfl, rfl, trivial⟩, hM⟩
      · skip
        rintro a w ⟨hE, hM⟩
        refine wp_region_lit ?_
        refine s_move hE goes_none (by decide) rfl ?_; intro a hE
        refine s_int hE goes_none (by decide) rfl rfl (bI_quo _ _ (by decide)) ?_; intro a hE
        refine s_assign hE goes_none (by decide) rfl ?_; intro a hE
        refine c_fin0 ?_
        refine c_mid ?_
        exact ⟨_, (Option.some.inj hF11).symm, hE.sub ⟨rfl, rfl, rfl, rfl, trivial⟩, hM⟩
    · intro hb8
      have hs5 := ite_f hs5 hb8
      refine wp_exit (e_then (e_then (e_eq ?_)))
      have ht23 := hx6 _ (Option.some.inj hs5).symm
      subst ht23
      refine c_mid ?_
      exact ⟨hE.sub ⟨rfl, trivial⟩, hM⟩
  · skip
    rintro a w ⟨hE, hM⟩
    refine c_region ?_
    refine s_move hE goes_none (by decide) rfl ?_; intro a hE
    refine s_assign hE goes_none (by decide) rfl ?_; intro a hE
    refine c_fin ?_
    have hr := Option.some.inj hF3
    subst hr
    exact wp_ret (k_ret1 hE rfl (res_tmp hE rfl) ⟨_, rfl, rfl, hM.kept⟩)
noncomputable def F_impl_field_inverse (p0 : Int) (p1 : UInt8) : Option (UInt8) :=
  (F_impl_field_power p0 p1 254).bind fun (r1 : UInt8) => some r1
set_option maxRecDepth 20000 in
set_option maxHeartbeats 400000 in
theorem c_impl_field_inverse (w0 : World) (p0 : Int) (p1 : UInt8) (r : UInt8) (hF : F_impl_field_inverse p0 p1 = some r) :
    Calls Try.prog 72 [(vI p0), (vB p1)].toArray w0 (fun en w' => ∃ v, en = .returned v ∧ (v = (vB r) ∧ Kept (Old w0) w0 w')) := by
  refine c_enter (n := 8) Try.func72 rfl rfl (Nat.le_of_ble_eq_true rfl) rfl ?_
  intro a hE
  have hM := M.start w0
  unfold F_impl_field_inverse at hF
  refine c_region ?_
  refine s_assign hE goes_none (by decide) rfl ?_; intro a hE
  refine c_fin ?_
  refine c_region ?_
  refine s_move hE goes_none (by decide) rfl ?_; intro a hE
  refine s_move hE goes_none (by decide) rfl ?_; intro a hE
  obtain ⟨r1, e2, hF⟩ := bind_some hF
  refine s_call (vs := [(vI p0), (vB p1), (vI 254)]) hE goes_none (by decide) rfl cb124 (c_impl_field_power _ p0 p1 254 r1 e2) ?_
  rintro v w a ⟨rfl, hK⟩ hE
  have hM := hM.keep hK
  refine s_assign hE goes_none (by decide) rfl ?_; intro a hE
  refine c_fin ?_
  have hr := Option.some.inj hF
  subst hr
  exact wp_ret (k_ret1 hE rfl (res_tmp hE rfl) ⟨_, rfl, rfl, hM.kept⟩)
noncomputable def L1_impl_WeightsOf (p0 : Int) (p1 : (List UInt8)) (x29 : UInt8) (s35 : Int × UInt8) : Option (Fl (Int × UInt8) UInt8) :=
  if (decide (s35.1 < (p1.length : Int))) = true then (((idx p1 s35.1).bind fun (x43 : UInt8) => (if (x43 != x29) = true then ((F_impl_field_inverse p0 (x29 ^^^ x43)).bind fun (r50 : UInt8) => (F_impl_field_times p0 x43 r50).bind fun (r52 : UInt8) => (F_impl_field_times p0 s35.2 r52).bind fun (r54 : UInt8) => some r54) else (some s35.2) : Option (UInt8)).bind fun (j46 : UInt8) => some j46 : Option (UInt8)).bind fun (j40 : UInt8) => some (Fl.nx (wr (s35.1 + 1), j40))) else (some (Fl.ex s35.2))
noncomputable def L0_impl_WeightsOf (p0 : Int) (p1 : (List UInt8)) (s22 : Int × (List UInt8)) : Option (Fl (Int × (List UInt8)) (List UInt8)) :=
  if (decide (s22.1 < (p1.length : Int))) = true then ((idx p1 s22.1).bind fun (x29 : UInt8) => (iter (L1_impl_WeightsOf p0 p1 x29) (0, 1) : Option (UInt8)).bind fun (j32 : UInt8) => (app 1 s22.2 ([j32] : List UInt8)).bind fun (l62 : (List UInt8)) => some (Fl.nx (wr (s22.1 + 1), (s22.2 ++ ([j32] : List UInt8))))) else (some (Fl.ex s22.2))
noncomputable def F_impl_WeightsOf (p0 : Int) (p1 : (List UInt8)) : Option ((List UInt8) × Int) :=
  (F_impl_IsField p0).bind fun (r1 : Bool) => if (!r1) = true then (some ([], 1)) else ((F_impl_length_byte p1).bind fun (r5 : Int) => (F_impl_inRange r5 1 12).bind fun (r7 : Bool) => if (!r7) = true then (some ([], 2)) else ((F_impl_arePlacesOf p1).bind fun (r11 : Bool) => if (!r11) = true then (some ([], 5)) else ((iter (L0_impl_WeightsOf p0 p1) (0, ([] : List UInt8)) : Option ((List UInt8))).bind fun (j17 : (List UInt8)) => some (j17, 0))))
set_option maxRecDepth 20000 in
set_option maxHeartbeats 400000 in
theorem c_impl_WeightsOf (w0 : World) (p0 : Int) (p1 : (List UInt8)) (v1_1 : Value) (hv1_1 : Ro w0 p1 [v1_1]) (r : (List UInt8) × Int) (hF : F_impl_WeightsOf p0 p1 = some r) :
    Calls Try.prog 20 [(vI p0), v1_1].toArray w0 (fun en w' => ∃ v, en = .returned v ∧ (∃ (y1 : Value), v = (Value.tuple [y1, (vI r.2)].toArray) ∧ Fr w0 w' [osl NoB (r.1 : List UInt8) y1] ∧ Kept (Old w0) w0 w')) := by
  refine c_enter (n := 59) Try.func20 rfl rfl (Nat.le_of_ble_eq_true rfl) rfl ?_
  intro a hE
  have hM := M.start w0
  unfold F_impl_WeightsOf at hF
  refine c_region ?_
  refine s_assign hE goes_none (by decide) rfl ?_; intro a hE
  refine s_assign hE goes_none (by decide) rfl ?_; intro a hE
  refine c_fin ?_
  refine wp_seq ?_
  refine wp_block ?_
  refine c_region ?_
  refine s_move hE goes_none (by decide) rfl ?_; intro a hE
  obtain ⟨r1, e2, hF⟩ := bind_some hF
  refine s_call (vs := [(vI p0)]) hE goes_none (by decide) rfl cb68 (c_impl_IsField _ p0 r1 e2) ?_
  rintro v w a ⟨rfl, hK⟩ hE
  have hM := hM.keep hK
  refine s_not hE goes_none (by decide) rfl ?_; intro a hE
  refine s_assign hE goes_none (by decide) rfl ?_; intro a hE
  refine c_fin ?_
  refine c_cond hE rfl ?_ ?_
  · intro hb3
    have hF := ite_t hF hb3
    refine c_region ?_
    refine s_assign hE goes_none (by decide) rfl ?_; intro a hE
    refine s_assign hE goes_none (by decide) rfl ?_; intro a hE
    refine c_fin ?_
    have hM := M.nilS (α := UInt8) NoB noB hM
    have hr := Option.some.inj hF
    subst hr
    exact wp_ret (r_inb (r_then (k_ret2 hE rfl (res_tmp hE rfl) (res_tmp hE rfl) ⟨_, rfl, (Value.slice none 0 0), rfl, hM.outF (locN1 locN0), hM.kept⟩)))
  · intro hb3
    have hF := ite_f hF hb3
    refine c_region ?_
    refine s_move hE goes_none (by decide) rfl ?_; intro a hE
    obtain ⟨r5, e6, hF⟩ := bind_some hF
    refine s_call (vs := [v1_1]) hE goes_none (by decide) rfl cb69 (c_impl_length_byte _ p1 v1_1 (hM.rdo hv1_1) r5 e6) ?_
    rintro v w a ⟨rfl, hK⟩ hE
    have hM := hM.keep hK
    obtain ⟨r7, e8, hF⟩ := bind_some hF
    refine s_call (vs := [(vI r5), (vI 1), (vI 12)]) hE goes_none (by decide) rfl cb56 (c_impl_inRange _ r5 1 12 r7 e8) ?_
    rintro v w a ⟨rfl, hK⟩ hE
    have hM := hM.keep hK
    refine s_not hE goes_none (by decide) rfl ?_; intro a hE
    refine s_assign hE goes_none (by decide) rfl ?_; intro a hE
    refine c_fin ?_
    refine c_cond hE rfl ?_ ?_
    · intro hb9
      have hF := ite_t hF hb9
      refine c_region ?_
      refine s_assign hE goes_none (by decide) rfl ?_; intro a hE
      refine s_assign hE goes_none (by decide) rfl ?_; intro a hE
      refine c_fin ?_
      have hM := M.nilS (α := UInt8) NoB noB hM
      have hr := Option.some.inj hF
      subst hr
      exact wp_ret (r_inb (r_then (k_ret2 hE rfl (res_tmp hE rfl) (res_tmp hE rfl) ⟨_, rfl, (Value.slice none 0 0), rfl, hM.outF (locN1 locN0), hM.kept⟩)))
    · intro hb9
      have hF := ite_f hF hb9
      refine c_region ?_
      refine s_move hE goes_none (by decide) rfl ?_; intro a hE
      obtain ⟨r11, e12, hF⟩ := bind_some hF
      refine s_call (vs := [v1_1]) hE goes_none (by decide) rfl cb70 (c_impl_arePlacesOf _ p1 v1_1 (hM.rdo hv1_1) r11 e12) ?_
      rintro v w a ⟨rfl, hK⟩ hE
      have hM := hM.keep hK
      refine s_not hE goes_none (by decide) rfl ?_; intro a hE
      refine s_assign hE goes_none (by decide) rfl ?_; intro a hE
      refine c_fin ?_
      refine c_cond hE rfl ?_ ?_
      · intro hb13
        have hF := ite_t hF hb13
        refine c_region ?_
        refine s_assign hE goes_none (by decide) rfl ?_; intro a hE
        refine s_assign hE goes_none (by decide) rfl ?_; intro a hE
        refine c_fin ?_
        have hM := M.nilS (α := UInt8) NoB noB hM
        have hr := Option.some.inj hF
        subst hr
        exact wp_ret (r_inb (r_then (k_ret2 hE rfl (res_tmp hE rfl) (res_tmp hE rfl) ⟨_, rfl, (Value.slice none 0 0), rfl, hM.outF (locN1 locN0), hM.kept⟩)))
      · intro hb13
        have hF := ite_f hF hb13
        refine wp_skip ?_
        refine c_nb ?_
        refine c_nx ?_
        refine c_region ?_
        refine s_buildF (xs := []) (l := ([] : List UInt8)) (vs := []) hE hM goes_none (by decide) rfl rfl Try.underlying29 ty5 rfl (by decide) rfl ?_; intro u15 w a hM hE
        refine s_assign hE goes_none (by decide) rfl ?_; intro a hE
        refine c_fin ?_
        refine wp_seq ?_
        refine c_region ?_
        refine s_move hE goes_none (by decide) rfl ?_; intro a hE
        refine s_len hE goes_none (by decide) rfl Try.underlying29 (hM.rd hv1_1) ?_; intro a hE
        refine s_move hE goes_none (by decide) rfl ?_; intro a hE
        refine c_fin ?_
        obtain ⟨j17, hl18, hF19⟩ := bind_some hF
        refine c_cut (fun a w => ∃ (u20 : Value), Env 59 a [(6, u20)] ∧ M (Old w0) w0 w [osl NoB (j17 : List UInt8) u20]) ?_ ?_
        · skip
          refine wp_block ?_
          refine c_loop (fun (s22 : Int × (List UInt8)) a w => ∃ (u23 : Value), Env 59 a [(0, (vI p0)), (1, v1_1), (6, u23), (26, v1_1), (27, (vI (p1.length : Int))), (28, (vI s22.1))] ∧ M (Old w0) w0 w [osl NoB (s22.2 : List UInt8) u23]) hl18 ⟨u15, hE.sub ⟨rfl, rfl, rfl, rfl, rfl, rfl, trivial⟩, hM⟩ ?_
          rintro s22 a w ⟨u23, hE, hM⟩ o27 hs25 hx26
          unfold L0_impl_WeightsOf at hs25
          refine c_region ?_
          refine s_int hE goes_none (by decide) rfl rfl rfl ?_; intro a hE
          refine c_fin ?_
          refine wp_seq ?_
          refine c_cond hE rfl ?_ ?_
          · intro hb28
            have hs25 := ite_t hs25 hb28
            refine wp_skip ?_
            refine c_nx ?_
            refine wp_seq ?_
            refine wp_block ?_
            refine c_region ?_
            obtain ⟨x29, e30, hs25⟩ := bind_some hs25
            have hi31 := idx_some e30
            refine s_indexS hE goes_none (by decide) rfl rfl Try.underlying29 ty5 (hM.rd hv1_1) hi31.1 ?_; intro a hE
            refine s_load (v := (vB x29)) hE goes_none (by decide) rfl ty5 rfl (sl_atF (hM.rd hv1_1) hi31.2) ?_; intro a hE
            refine s_assign hE goes_none (by decide) rfl ?_; intro a hE
            refine c_fin ?_
            refine c_region ?_
            refine s_assign hE goes_none (by decide) rfl ?_; intro a hE
            refine c_fin ?_
            refine wp_seq ?_
            refine c_region ?_
            refine s_move hE goes_none (by decide) rfl ?_; intro a hE
            refine s_len hE goes_none (by decide) rfl Try.underlying29 (hM.rd hv1_1) ?_; intro a hE
            refine s_move hE goes_none (by decide) rfl ?_; intro a hE
            refine c_fin ?_
            obtain ⟨j32, hl33, hF34⟩ := bind_some hs25
            refine c_cut (fun a w => Env 59 a [(0, (vI p0)), (1, v1_1), (6, u23), (9, (vB j32)), (26, v1_1), (27, (vI (p1.length : Int))), (28, (vI s22.1))] ∧ M (Old w0) w0 w [osl NoB (s22.2 : List UInt8) u23]) ?_ ?_
            · skip
              refine wp_block ?_
              refine c_loop (fun (s35 : Int × UInt8) a w => Env 59 a [(0, (vI p0)), (1, v1_1), (6, u23), (8, (vB x29)), (9, (vB s35.2)), (26, v1_1), (27, (vI (p1.length : Int))), (28, (vI s22.1)), (32, v1_1), (33, (vI (p1.length : Int))), (34, (vI s35.1))] ∧ M (Old w0) w0 w [osl NoB (s22.2 : List UInt8) u23]) hl33 ⟨hE.sub ⟨rfl, rfl, rfl, rfl, rfl, rfl, rfl, rfl, rfl, rfl, rfl, trivial⟩, hM⟩ ?_
              rintro s35 a w ⟨hE, hM⟩ o38 hs36 hx37
              unfold L1_impl_WeightsOf at hs36
              refine c_region ?_
              refine s_int hE goes_none (by decide) rfl rfl rfl ?_; intro a hE
              refine c_fin ?_
              refine wp_seq ?_
              refine c_cond hE rfl ?_ ?_
              · intro hb39
                have hs36 := ite_t hs36 hb39
                refine wp_skip ?_
                refine c_nx ?_
                obtain ⟨j40, hl41, hF42⟩ := bind_some hs36
                refine c_join (fun a w => Env 59 a [(0, (vI p0)), (1, v1_1), (6, u23), (8, (vB x29)), (9, (vB j40)), (26, v1_1), (27, (vI (p1.length : Int))), (28, (vI s22.1)), (32, v1_1), (33, (vI (p1.length : Int))), (34, (vI s35.1))] ∧ M (Old w0) w0 w [osl NoB (s22.2 : List UInt8) u23]) ?_ ?_
                · skip
                  refine wp_block ?_
                  refine c_region ?_
                  obtain ⟨x43, e44, hl41⟩ := bind_some hl41
                  have hi45 := idx_some e44
                  refine s_indexS hE goes_none (by decide) rfl rfl Try.underlying29 ty5 (hM.rd hv1_1) hi45.1 ?_; intro a hE
                  refine s_load (v := (vB x43)) hE goes_none (by decide) rfl ty5 rfl (sl_atF (hM.rd hv1_1) hi45.2) ?_; intro a hE
                  refine s_assign hE goes_none (by decide) rfl ?_; intro a hE
                  refine c_fin ?_
                  refine c_region ?_
                  refine s_move hE goes_none (by decide) rfl ?_; intro a hE
                  refine s_move hE goes_none (by decide) rfl ?_; intro a hE
                  refine s_int hE goes_none (by decide) rfl rfl (bB_neq x43 x29) ?_; intro a hE
                  refine c_fin ?_
                  obtain ⟨j46, hl47, hF48⟩ := bind_some hl41
                  refine c_cut (fun a w => Env 59 a [(0, (vI p0)), (1, v1_1), (6, u23), (8, (vB x29)), (9, (vB j46)), (26, v1_1), (27, (vI (p1.length : Int))), (28, (vI s22.1)), (32, v1_1), (33, (vI (p1.length : Int))), (34, (vI s35.1))] ∧ M (Old w0) w0 w [osl NoB (s22.2 : List UInt8) u23]) ?_ ?_
                  · skip
                    refine c_cond hE rfl ?_ ?_
                    · intro hb49
                      have hl47 := ite_t hl47 hb49
                      refine wp_region_lit ?_
                      refine s_move hE goes_none (by decide) rfl ?_; intro a hE
                      refine s_move hE goes_none (by decide) rfl ?_; intro a hE
                      refine s_move hE goes_none (by decide) rfl ?_; intro a hE
                      refine s_move hE goes_none (by decide) rfl ?_; intro a hE
                      refine s_move hE goes_none (by decide) rfl ?_; intro a hE
                      refine s_move hE goes_none (by decide) rfl ?_; intro a hE
                      refine s_move hE goes_none (by decide) rfl ?_; intro a hE
                      refine s_int hE goes_none (by decide) rfl rfl (bB_xor x29 x43) ?_; intro a hE
                      obtain ⟨r50, e51, hl47⟩ := bind_some hl47
                      refine s_call (vs := [(vI p0), (vB (x29 ^^^ x43))]) hE goes_none (by decide) rfl cb72 (c_impl_field_inverse _ p0 (x29 ^^^ x43) r50 e51) ?_
                      rintro v w a ⟨rfl, hK⟩ hE
                      have hM := hM.keep hK
                      obtain ⟨r52, e53, hl47⟩ := bind_some hl47
                      refine s_call (vs := [(vI p0), (vB x43), (vB r50)]) hE goes_none (by decide) rfl cb71 (c_impl_field_times _ p0 x43 r50 r52 e53) ?_
                      rintro v w a ⟨rfl, hK⟩ hE
                      have hM := hM.keep hK
                      obtain ⟨r54, e55, hl47⟩ := bind_some hl47
                      refine s_call (vs := [(vI p0), (vB s35.2), (vB r52)]) hE goes_none (by decide) rfl cb71 (c_impl_field_times _ p0 s35.2 r52 r54 e55) ?_
                      rintro v w a ⟨rfl, hK⟩ hE
                      have hM := hM.keep hK
                      refine s_assign hE goes_none (by decide) rfl ?_; intro a hE
                      refine c_fin0 ?_
                      have ht56 := Option.some.inj hl47
                      subst ht56
                      refine c_mid ?_
                      exact ⟨hE.sub ⟨rfl, rfl, rfl, rfl, rfl, rfl, rfl, rfl, rfl, rfl, rfl, trivial⟩, hM⟩
                    · intro hb49
                      have hl47 := ite_f hl47 hb49
                      refine wp_skip ?_
                      have ht57 := Option.some.inj hl47
                      subst ht57
                      refine c_mid ?_
                      exact ⟨hE.sub ⟨rfl, rfl, rfl, rfl, rfl, rfl, rfl, rfl, rfl, rfl, rfl, trivial⟩, hM⟩
                  · skip
                    rintro a w ⟨hE, hM⟩
                    refine c_nb ?_
                    have ht58 := Option.some.inj hF48
                    subst ht58
                    refine c_mid ?_
                    exact ⟨hE.sub ⟨rfl, rfl, rfl, rfl, rfl, rfl, rfl, rfl, rfl, rfl, rfl, trivial⟩, hM⟩
                · skip
                  rintro a w ⟨hE, hM⟩
                  refine wp_region_lit ?_
                  refine s_int hE goes_none (by decide) rfl rfl rfl ?_; intro a hE
                  refine s_move hE goes_none (by decide) rfl ?_; intro a hE
                  refine c_fin0 ?_
                  refine c_mid ?_
                  exact ⟨_, (Option.some.inj hF42).symm, hE.sub ⟨rfl, rfl, rfl, rfl, rfl, rfl, rfl, rfl, rfl, rfl, rfl, trivial⟩, hM⟩
              · intro hb39
                have hs36 := ite_f hs36 hb39
                refine wp_exit (e_then (e_then (e_eq ?_)))
                have ht59 := hx37 _ (Option.some.inj hs36).symm
                subst ht59
                refine c_mid ?_
                exact ⟨hE.sub ⟨rfl, rfl, rfl, rfl, rfl, rfl, rfl, trivial⟩, hM⟩
            · skip
              rintro a w ⟨hE, hM⟩
              refine c_nx ?_
              refine wp_region_lit ?_
              refine s_move hE goes_none (by decide) rfl ?_; intro a hE
              refine s_move hE goes_none (by decide) rfl ?_; intro a hE
              refine s_buildF (xs := [.tmp 54]) (l := ([j32] : List UInt8)) (vs := [(vB j32)]) hE hM goes_none (by decide) rfl rfl Try.underlying29 ty5 rfl (by decide) rfl ?_; intro u60 w a hM hE
              obtain ⟨l62, e63, hF34⟩ := bind_some hF34
              obtain ⟨e66, rfl⟩ := app_some e63
              have hM := hM.pull (pre := [_])
              refine s_appendF hE hM goes_none (by decide) rfl rfl (hM.sl (pre := [_]) noB) Try.underlying29 ty5 rfl (by decide) e66 ?_; intro u64 w a hM hE
              refine s_assign hE goes_none (by decide) rfl ?_; intro a hE
              refine c_fin0 ?_
              refine c_nb ?_
              refine c_nx ?_
              refine wp_region_lit ?_
              refine s_int hE goes_none (by decide) rfl rfl rfl ?_; intro a hE
              refine s_move hE goes_none (by decide) rfl ?_; intro a hE
              refine c_fin0 ?_
              refine c_mid ?_
              have hM := M.fst (l := [_]) hM
              exact ⟨_, (Option.some.inj hF34).symm, u64, hE.sub ⟨rfl, rfl, rfl, rfl, rfl, rfl, trivial⟩, hM⟩
          · intro hb28
            have hs25 := ite_f hs25 hb28
            refine wp_exit (e_then (e_then (e_eq ?_)))
            have ht67 := hx26 _ (Option.some.inj hs25).symm
            subst ht67
            refine c_mid ?_
            exact ⟨u23, hE.sub ⟨rfl, trivial⟩, hM⟩
        · skip
          rintro a w ⟨u20, hE, hM⟩
          refine c_nx ?_
          refine c_region ?_
          refine s_move hE goes_none (by decide) rfl ?_; intro a hE
          refine s_assign hE goes_none (by decide) rfl ?_; intro a hE
          refine s_assign hE goes_none (by decide) rfl ?_; intro a hE
          refine c_fin ?_
          have hr := Option.some.inj hF19
          subst hr
          exact wp_ret (k_ret2 hE rfl (res_tmp hE rfl) (res_tmp hE rfl) ⟨_, rfl, u20, rfl, hM.outF (locN1 locN0), hM.kept⟩)
noncomputable def L0_laws_eqByteS (p0 : (List UInt8)) (p1 : (List UInt8)) (s6 : Int) : Option (Fl Int (Fl Unit Bool)) :=
  if (decide (s6 < (p0.length : Int))) = true then (((idx p0 s6).bind fun (x15 : UInt8) => (idx p1 s6).bind fun (x18 : UInt8) => some (x15 != x18) : Option (Bool)).bind fun (j11 : Bool) => if j11 = true then (some (Fl.ex (Fl.ex false))) else (some (Fl.nx (wr (s6 + 1))))) else (some (Fl.ex (Fl.nx ())))
noncomputable def F_laws_eqByteS (p0 : (List UInt8)) (p1 : (List UInt8)) : Option (Bool) :=
  if ((p0.length : Int) != (p1.length : Int)) = true then (some false) else ((iter (L0_laws_eqByteS p0 p1) 0 : Option (Fl Unit Bool)).bind fun (j2 : Fl Unit Bool) => j2.el (fun (s5 : Unit) => some true) (fun r => some r))
set_option maxRecDepth 20000 in
set_option maxHeartbeats 400000 in
theorem c_laws_eqByteS (w0 : World) (p0 : (List UInt8)) (v0_1 : Value) (hv0_1 : Ro w0 p0 [v0_1]) (p1 : (List UInt8)) (v1_1 : Value) (hv1_1 : Ro w0 p1 [v1_1]) (r : Bool) (hF : F_laws_eqByteS p0 p1 = some r) :
    Calls Try.prog 21 [v0_1, v1_1].toArray w0 (fun en w' => ∃ v, en = .returned v ∧ (v = (vT r) ∧ Kept (Old w0) w0 w')) := by
  refine c_enter (n := 26) Try.func21 rfl rfl (Nat.le_of_ble_eq_true rfl) rfl ?_
  intro a hE
  have hM := M.start w0
  unfold F_laws_eqByteS at hF
  refine c_region ?_
  refine s_assign hE goes_none (by decide) rfl ?_; intro a hE
  refine c_fin ?_
  refine wp_seq ?_
  refine c_region ?_
  refine s_move hE goes_none (by decide) rfl ?_; intro a hE
  refine s_len hE goes_none (by decide) rfl Try.underlying29 (hM.rd hv0_1) ?_; intro a hE
  refine s_move hE goes_none (by decide) rfl ?_; intro a hE
  refine s_len hE goes_none (by decide) rfl Try.underlying29 (hM.rd hv1_1) ?_; intro a hE
  refine s_int hE goes_none (by decide) rfl rfl rfl ?_; intro a hE
  refine c_fin ?_
  refine c_cond hE rfl ?_ ?_
  · intro hb1
    have hF := ite_t hF hb1
    refine c_region ?_
    refine s_assign hE goes_none (by decide) rfl ?_; intro a hE
    refine c_fin ?_
    have hr := Option.some.inj hF
    subst hr
    exact wp_ret (r_then (k_ret1 hE rfl (res_tmp hE rfl) ⟨_, rfl, rfl, hM.kept⟩))
  · intro hb1
    have hF := ite_f hF hb1
    refine wp_skip ?_
    refine c_nx ?_
    refine wp_seq ?_
    refine c_region ?_
    refine s_assign hE goes_none (by decide) rfl ?_; intro a hE
    refine c_fin ?_
    obtain ⟨j2, hl3, hF4⟩ := bind_some hF
    refine c_cut (fun a w => ∃ s5 : Unit, j2 = Fl.nx s5 ∧ Env 26 a [] ∧ M (Old w0) w0 w []) ?_ ?_
    · skip
      refine wp_block ?_
      refine c_loop (fun (s6 : Int) a w => Env 26 a [(0, v0_1), (1, v1_1), (5, (vI s6))] ∧ M (Old w0) w0 w []) hl3 ⟨hE.sub ⟨rfl, rfl, rfl, trivial⟩, hM⟩ ?_
      rintro s6 a w ⟨hE, hM⟩ o9 hs7 hx8
      unfold L0_laws_eqByteS at hs7
      refine wp_seq ?_
      refine c_region ?_
      refine s_move hE goes_none (by decide) rfl ?_; intro a hE
      refine s_move hE goes_none (by decide) rfl ?_; intro a hE
      refine s_len hE goes_none (by decide) rfl Try.underlying29 (hM.rd hv0_1) ?_; intro a hE
      refine s_int hE goes_none (by decide) rfl rfl rfl ?_; intro a hE
      refine c_fin ?_
      refine c_cond hE rfl ?_ ?_
      · intro hb10
        have hs7 := ite_t hs7 hb10
        refine wp_skip ?_
        refine c_nx ?_
        refine wp_seq ?_
        refine wp_block ?_
        obtain ⟨j11, hl12, hF13⟩ := bind_some hs7
        refine c_join (fun a w => Env 26 a [(0, v0_1), (1, v1_1), (5, (vI s6)), (25, (vT j11))] ∧ M (Old w0) w0 w []) ?_ ?_
        · skip
          obtain ⟨x15, e16, hl12⟩ := bind_some hl12
          have hi17 := idx_some e16
          obtain ⟨x18, e19, hl12⟩ := bind_some hl12
          have hi20 := idx_some e19
          refine c_draw (n := 26) (hd := [_, _, _, _, _, _, _, _, _]) (tl := []) hmix rfl rfl [17, 18, 19, 20, 21, 22, 23, 24, 25] (by decide) (fun w => M (Old w0) w0 w []) (fun j => ([fun v _ => v = v0_1, fun v _ => v = (vI s6), fun v _ => v = (ptr (sb v0_1) (so v0_1 + (s6).toNat * 1)), fun v _ => v = (vB x15), fun v _ => v = v1_1, fun v _ => v = (vI s6), fun v _ => v = (ptr (sb v1_1) (so v1_1 + (s6).toNat * 1)), fun v _ => v = (vB x18), fun v _ => v = (vT (x15 != x18))] : List (Value → World → Prop)).getD j (fun _ _ => True)) (fun _ _ h hk => h.keep hk) (gup (gupE (gupE (gupE (gupE (gupE (gupE (gupE (gupE (gupE gupN)))))))))) hE hM.drew (steps_of (steps_cons ?_ (steps_cons ?_ (steps_cons ?_ (steps_cons ?_ (steps_cons ?_ (steps_cons ?_ (steps_cons ?_ (steps_cons ?_ (steps_cons ?_ steps_nil)))))))))) ?_
          · intro a w ux14 hE hM hp
            refine s_move hE goes_none (by decide) rfl ?_; intro a hE
            exact ⟨Kept.refl _ _, _, _, rfl, hE, rfl⟩
          · intro a w ux14 hE hM hp
            refine s_move hE goes_none (by decide) rfl ?_; intro a hE
            exact ⟨Kept.refl _ _, _, _, rfl, hE, rfl⟩
          · intro a w ux14 hE hM hp
            have f0 : ux14 0 = v0_1 := hp 0 _ rfl rfl
            have f1 : ux14 1 = (vI s6) := hp 1 _ rfl rfl
            refine s_indexS hE goes_none (by decide) (lk rfl f0) (lk rfl f1) Try.underlying29 ty5 (hM.rd hv0_1) hi17.1 ?_; intro a hE
            exact ⟨Kept.refl _ _, _, _, rfl, hE, rfl⟩
          · intro a w ux14 hE hM hp
            have f2 : ux14 2 = (ptr (sb v0_1) (so v0_1 + (s6).toNat * 1)) := hp 0 _ rfl rfl
            refine s_load (v := (vB x15)) hE goes_none (by decide) (lk rfl f2) ty5 rfl (sl_atF (hM.rd hv0_1) hi17.2) ?_; intro a hE
            exact ⟨Kept.refl _ _, _, _, rfl, hE, rfl⟩
          · intro a w ux14 hE hM hp
            refine s_move hE goes_none (by decide) rfl ?_; intro a hE
            exact ⟨Kept.refl _ _, _, _, rfl, hE, rfl⟩
          · intro a w ux14 hE hM hp
            refine s_move hE goes_none (by decide) rfl ?_; intro a hE
            exact ⟨Kept.refl _ _, _, _, rfl, hE, rfl⟩
          · intro a w ux14 hE hM hp
            have f4 : ux14 4 = v1_1 := hp 0 _ rfl rfl
            have f5 : ux14 5 = (vI s6) := hp 1 _ rfl rfl
            refine s_indexS hE goes_none (by decide) (lk rfl f4) (lk rfl f5) Try.underlying29 ty5 (hM.rd hv1_1) hi20.1 ?_; intro a hE
            exact ⟨Kept.refl _ _, _, _, rfl, hE, rfl⟩
          · intro a w ux14 hE hM hp
            have f6 : ux14 6 = (ptr (sb v1_1) (so v1_1 + (s6).toNat * 1)) := hp 0 _ rfl rfl
            refine s_load (v := (vB x18)) hE goes_none (by decide) (lk rfl f6) ty5 rfl (sl_atF (hM.rd hv1_1) hi20.2) ?_; intro a hE
            exact ⟨Kept.refl _ _, _, _, rfl, hE, rfl⟩
          · intro a w ux14 hE hM hp
            have f3 : ux14 3 = (vB x15) := hp 0 _ rfl rfl
            have f7 : ux14 7 = (vB x18) := hp 1 _ rfl rfl
            refine s_int hE goes_none (by decide) (lk rfl f3) (lk rfl f7) (bB_neq x15 x18) ?_; intro a hE
            exact ⟨Kept.refl _ _, _, _, rfl, hE, rfl⟩
          · intro a w ux14 hE hM hg
            have f0 : ux14 0 = v0_1 := hg 0 (by decide)
            have f1 : ux14 1 = (vI s6) := hg 1 (by decide)
            have f2 : ux14 2 = (ptr (sb v0_1) (so v0_1 + (s6).toNat * 1)) := hg 2 (by decide)
            have f3 : ux14 3 = (vB x15) := hg 3 (by decide)
            have f4 : ux14 4 = v1_1 := hg 4 (by decide)
            have f5 : ux14 5 = (vI s6) := hg 5 (by decide)
            have f6 : ux14 6 = (ptr (sb v1_1) (so v1_1 + (s6).toNat * 1)) := hg 6 (by decide)
            have f7 : ux14 7 = (vB x18) := hg 7 (by decide)
            have f8 : ux14 8 = (vT (x15 != x18)) := hg 8 (by decide)
            have hE := hE.sub (e' := [(17, v0_1), (18, (vI s6)), (19, (ptr (sb v0_1) (so v0_1 + (s6).toNat * 1))), (20, (vB x15)), (21, v1_1), (22, (vI s6)), (23, (ptr (sb v1_1) (so v1_1 + (s6).toNat * 1))), (24, (vB x18)), (25, (vT (x15 != x18))), (0, v0_1), (1, v1_1), (5, (vI s6)), (11, (vI s6)), (12, v0_1), (13, (vI (p0.length : Int))), (14, (vT (decide (s6 < (p0.length : Int)))))]) ⟨lk rfl f0, lk rfl f1, lk rfl f2, lk rfl f3, lk rfl f4, lk rfl f5, lk rfl f6, lk rfl f7, lk rfl f8, rfl, rfl, rfl, rfl, rfl, rfl, rfl, trivial⟩
            refine c_fin0 ?_
            have ht21 := Option.some.inj hl12
            subst ht21
            refine c_mid ?_
            exact ⟨hE.sub ⟨rfl, rfl, rfl, rfl, trivial⟩, hM⟩
        · skip
          rintro a w ⟨hE, hM⟩
          refine c_cond hE rfl ?_ ?_
          · intro hb22
            have hF13 := ite_t hF13 hb22
            refine c_region ?_
            refine s_assign hE goes_none (by decide) rfl ?_; intro a hE
            refine c_fin ?_
            have ht23 := hx8 _ (Option.some.inj hF13).symm
            subst ht23
            have hr := Option.some.inj hF4
            subst hr
            exact wp_ret (r_inb (r_then (r_then (r_inb (r_then (r_then (k_ret1 hE rfl (res_tmp hE rfl) ⟨_, rfl, rfl, hM.kept⟩)))))))
          · intro hb22
            have hF13 := ite_f hF13 hb22
            refine wp_skip ?_
            refine c_nb ?_
            refine c_nx ?_
            refine wp_region_lit ?_
            refine s_move hE goes_none (by decide) rfl ?_; intro a hE
            refine s_int hE goes_none (by decide) rfl rfl rfl ?_; intro a hE
            refine s_assign hE goes_none (by decide) rfl ?_; intro a hE
            refine c_fin0 ?_
            refine c_mid ?_
            exact ⟨_, (Option.some.inj hF13).symm, hE.sub ⟨rfl, rfl, rfl, trivial⟩, hM⟩
      · intro hb10
        have hs7 := ite_f hs7 hb10
        refine wp_exit (e_then (e_then (e_eq ?_)))
        have ht24 := hx8 _ (Option.some.inj hs7).symm
        subst ht24
        refine c_mid ?_
        exact ⟨(), rfl, hE.sub trivial, hM⟩
    · skip
      rintro a w ⟨s5, ht, hE, hM⟩
      subst ht
      refine c_nx ?_
      refine c_region ?_
      refine s_assign hE goes_none (by decide) rfl ?_; intro a hE
      refine c_fin ?_
      have hr := Option.some.inj hF4
      subst hr
      exact wp_ret (k_ret1 hE rfl (res_tmp hE rfl) ⟨_, rfl, rfl, hM.kept⟩)
noncomputable def L0_laws_markByteS (s4 : (List UInt8) × Int × Int) : Option (Fl ((List UInt8) × Int × Int) ((List UInt8) × Int)) :=
  if (decide (s4.2.2 < (s4.1.length : Int))) = true then ((idx s4.1 s4.2.2).bind fun (x9 : UInt8) => some (Fl.nx ((s4.1.set (s4.2.2).toNat (byteI s4.2.1)), wr (s4.2.1 + 1), wr (s4.2.2 + 1)))) else (some (Fl.ex (s4.1, s4.2.1)))
noncomputable def F_laws_markByteS (p0 : (List UInt8)) (p1 : Int) : Option ((List UInt8) × Int) :=
  (iter (L0_laws_markByteS) (p0, p1, 0) : Option ((List UInt8) × Int)).bind fun (j1 : (List UInt8) × Int) => some (j1.1, j1.2)
set_option maxRecDepth 20000 in
set_option maxHeartbeats 400000 in
theorem c_laws_markByteS (St : Nat → Prop) (W w0 : World) (its : List Item) (p0 : (List UInt8)) (v0_1 : Value) (p1 : Int) (hM : M St W w0 (own NoB (p0 : (List UInt8)) [v0_1] :: its)) (r : (List UInt8) × Int) (hF : F_laws_markByteS p0 p1 = some r) :
    Calls Try.prog 22 [v0_1, (vI p1)].toArray w0 (fun en w' => ∃ v, en = .returned v ∧ (v = (vI r.2) ∧ M St W w' (own NoB (r.1 : (List UInt8)) [v0_1] :: its))) := by
  refine c_enter (n := 20) Try.func22 rfl rfl (Nat.le_of_ble_eq_true rfl) rfl ?_
  intro a hE
  unfold F_laws_markByteS at hF
  refine c_region ?_
  refine s_assign hE goes_none (by decide) rfl ?_; intro a hE
  refine c_fin ?_
  refine wp_seq ?_
  refine c_region ?_
  refine s_assign hE goes_none (by decide) rfl ?_; intro a hE
  refine c_fin ?_
  obtain ⟨j1, hl2, hF3⟩ := bind_some hF
  refine c_cut (fun a w => Env 20 a [(0, v0_1), (1, (vI j1.2))] ∧ M St W w (own NoB (j1.1 : (List UInt8)) [v0_1] :: its)) ?_ ?_
  · skip
    refine wp_block ?_
    refine c_loop (fun (s4 : (List UInt8) × Int × Int) a w => Env 20 a [(0, v0_1), (1, (vI s4.2.1)), (5, (vI s4.2.2))] ∧ M St W w (own NoB (s4.1 : (List UInt8)) [v0_1] :: its)) hl2 ⟨hE.sub ⟨rfl, rfl, rfl, trivial⟩, hM⟩ ?_
    rintro s4 a w ⟨hE, hM⟩ o7 hs5 hx6
    unfold L0_laws_markByteS at hs5
    refine wp_seq ?_
    refine c_region ?_
    refine s_move hE goes_none (by decide) rfl ?_; intro a hE
    refine s_move hE goes_none (by decide) rfl ?_; intro a hE
    refine s_len hE goes_none (by decide) rfl Try.underlying29 (hM.ro (pre := []) (fun b hb => hb.elim)) ?_; intro a hE
    refine s_int hE goes_none (by decide) rfl rfl rfl ?_; intro a hE
    refine c_fin ?_
    refine c_cond hE rfl ?_ ?_
    · intro hb8
      have hs5 := ite_t hs5 hb8
      refine wp_skip ?_
      refine c_nx ?_
      refine wp_seq ?_
      refine wp_block ?_
      refine c_region ?_
      refine s_move hE goes_none (by decide) rfl ?_; intro a hE
      refine s_move hE goes_none (by decide) rfl ?_; intro a hE
      refine s_move hE goes_none (by decide) rfl ?_; intro a hE
      refine s_conv hE goes_none (by decide) rfl Try.underlying3 Try.underlying5 ?_; intro a hE
      rw [byteI_val] at hE
      obtain ⟨x9, e10, hs5⟩ := bind_some hs5
      have hi11 := idx_some e10
      refine s_indexS hE goes_none (by decide) rfl rfl Try.underlying29 ty5 (hM.ro (pre := []) (fun b hb => hb.elim)) hi11.1 ?_; intro a hE
      have hM := hM.toOsl (List.getElem?_eq_some_iff.1 hi11.2).1
      refine s_storeS (i := (s4.2.2).toNat) (k0 := 0) (seg := [(vB (byteI s4.2.1))]) (xo := x9) (xn := byteI s4.2.1) hE hM goes_none rfl rfl rfl ty5 rfl (Flat.cell (byteI s4.2.1)) hi11.2 (fit_num (m := 1) rfl (by decide)) (splice_all (Eq.trans rfl (Eq.symm rfl))) ?_; intro w a hM hE
      have hM := hM.toOwn noB
      refine c_fin ?_
      refine wp_region_lit ?_
      refine s_move hE goes_none (by decide) rfl ?_; intro a hE
      refine s_int hE goes_none (by decide) rfl rfl rfl ?_; intro a hE
      refine s_assign hE goes_none (by decide) rfl ?_; intro a hE
      refine c_fin0 ?_
      refine c_nb ?_
      refine c_nx ?_
      refine wp_region_lit ?_
      refine s_move hE goes_none (by decide) rfl ?_; intro a hE
      refine s_int hE goes_none (by decide) rfl rfl rfl ?_; intro a hE
      refine s_assign hE goes_none (by decide) rfl ?_; intro a hE
      refine c_fin0 ?_
      refine c_mid ?_
      exact ⟨_, (Option.some.inj hs5).symm, hE.sub ⟨rfl, rfl, rfl, trivial⟩, hM⟩
    · intro hb8
      have hs5 := ite_f hs5 hb8
      refine wp_exit (e_then (e_then (e_eq ?_)))
      have ht12 := hx6 _ (Option.some.inj hs5).symm
      subst ht12
      refine c_mid ?_
      exact ⟨hE.sub ⟨rfl, rfl, trivial⟩, hM⟩
  · skip
    rintro a w ⟨hE, hM⟩
    refine c_nx ?_
    refine c_region ?_
    refine s_move hE goes_none (by decide) rfl ?_; intro a hE
    refine s_assign hE goes_none (by decide) rfl ?_; intro a hE
    refine c_fin ?_
    have hr := Option.some.inj hF3
    subst hr
    exact wp_ret (k_ret1 hE rfl (res_tmp hE rfl) ⟨_, rfl, rfl, hM⟩)
noncomputable def L0_laws_heldByteS (p0 : (List UInt8)) (s5 : Int × Int) : Option (Fl (Int × Int) (Fl Int Int)) :=
  if (decide (s5.2 < (p0.length : Int))) = true then ((idx p0 s5.2).bind fun (x10 : UInt8) => if (x10 != (byteI s5.1)) = true then (some (Fl.ex (Fl.ex (-1)))) else (some (Fl.nx (wr (s5.1 + 1), wr (s5.2 + 1))))) else (some (Fl.ex (Fl.nx s5.1)))
noncomputable def F_laws_heldByteS (p0 : (List UInt8)) (p1 : Int) : Option (Int) :=
  (iter (L0_laws_heldByteS p0) (p1, 0) : Option (Fl Int Int)).bind fun (j1 : Fl Int Int) => j1.el (fun (s4 : Int) => some s4) (fun r => some r)
set_option maxRecDepth 20000 in
set_option maxHeartbeats 400000 in
theorem c_laws_heldByteS (w0 : World) (p0 : (List UInt8)) (v0_1 : Value) (hv0_1 : Ro w0 p0 [v0_1]) (p1 : Int) (r : Int) (hF : F_laws_heldByteS p0 p1 = some r) :
    Calls Try.prog 23 [v0_1, (vI p1)].toArray w0 (fun en w' => ∃ v, en = .returned v ∧ (v = (vI r) ∧ Kept (Old w0) w0 w')) := by
  refine c_enter (n := 22) Try.func23 rfl rfl (Nat.le_of_ble_eq_true rfl) rfl ?_
  intro a hE
  have hM := M.start w0
  unfold F_laws_heldByteS at hF
  refine c_region ?_
  refine s_assign hE goes_none (by decide) rfl ?_; intro a hE
  refine c_fin ?_
  refine wp_seq ?_
  refine c_region ?_
  refine s_assign hE goes_none (by decide) rfl ?_; intro a hE
  refine c_fin ?_
  obtain ⟨j1, hl2, hF3⟩ := bind_some hF
  refine c_cut (fun a w => ∃ s4 : Int, j1 = Fl.nx s4 ∧ Env 22 a [(1, (vI s4))] ∧ M (Old w0) w0 w []) ?_ ?_
  · skip
    refine wp_block ?_
    refine c_loop (fun (s5 : Int × Int) a w => Env 22 a [(0, v0_1), (1, (vI s5.1)), (5, (vI s5.2))] ∧ M (Old w0) w0 w []) hl2 ⟨hE.sub ⟨rfl, rfl, rfl, trivial⟩, hM⟩ ?_
    rintro s5 a w ⟨hE, hM⟩ o8 hs6 hx7
    unfold L0_laws_heldByteS at hs6
    refine wp_seq ?_
    refine c_region ?_
    refine s_move hE goes_none (by decide) rfl ?_; intro a hE
    refine s_move hE goes_none (by decide) rfl ?_; intro a hE
    refine s_len hE goes_none (by decide) rfl Try.underlying29 (hM.rd hv0_1) ?_; intro a hE
    refine s_int hE goes_none (by decide) rfl rfl rfl ?_; intro a hE
    refine c_fin ?_
    refine c_cond hE rfl ?_ ?_
    · intro hb9
      have hs6 := ite_t hs6 hb9
      refine wp_skip ?_
      refine c_nx ?_
      refine wp_seq ?_
      refine wp_block ?_
      refine wp_seq ?_
      refine c_region ?_
      refine s_move hE goes_none (by decide) rfl ?_; intro a hE
      refine s_move hE goes_none (by decide) rfl ?_; intro a hE
      obtain ⟨x10, e11, hs6⟩ := bind_some hs6
      have hi12 := idx_some e11
      refine s_indexS hE goes_none (by decide) rfl rfl Try.underlying29 ty5 (hM.rd hv0_1) hi12.1 ?_; intro a hE
      refine s_load (v := (vB x10)) hE goes_none (by decide) rfl ty5 rfl (sl_atF (hM.rd hv0_1) hi12.2) ?_; intro a hE
      refine s_move hE goes_none (by decide) rfl ?_; intro a hE
      refine s_conv hE goes_none (by decide) rfl Try.underlying3 Try.underlying5 ?_; intro a hE
      rw [byteI_val] at hE
      refine s_int hE goes_none (by decide) rfl rfl (bB_neq x10 (byteI s5.1)) ?_; intro a hE
      refine c_fin ?_
      refine c_cond hE rfl ?_ ?_
      · intro hb13
        have hs6 := ite_t hs6 hb13
        refine c_region ?_
        refine s_assign hE goes_none (by decide) rfl ?_; intro a hE
        refine c_fin ?_
        have ht14 := hx7 _ (Option.some.inj hs6).symm
        subst ht14
        have hr := Option.some.inj hF3
        subst hr
        exact wp_ret (r_then (r_inb (r_then (r_then (r_inb (r_then (r_then (k_ret1 hE rfl (res_tmp hE rfl) ⟨_, rfl, rfl, hM.kept⟩))))))))
      · intro hb13
        have hs6 := ite_f hs6 hb13
        refine wp_skip ?_
        refine c_nx ?_
        refine wp_region_lit ?_
        refine s_move hE goes_none (by decide) rfl ?_; intro a hE
        refine s_int hE goes_none (by decide) rfl rfl rfl ?_; intro a hE
        refine s_assign hE goes_none (by decide) rfl ?_; intro a hE
        refine c_fin0 ?_
        refine c_nb ?_
        refine c_nx ?_
        refine wp_region_lit ?_
        refine s_move hE goes_none (by decide) rfl ?_; intro a hE
        refine s_int hE goes_none (by decide) rfl rfl rfl ?_; intro a hE
        refine s_assign hE goes_none (by decide) rfl ?_; intro a hE
        refine c_fin0 ?_
        refine c_mid ?_
        exact ⟨_, (Option.some.inj hs6).symm, hE.sub ⟨rfl, rfl, rfl, trivial⟩, hM⟩
    · intro hb9
      have hs6 := ite_f hs6 hb9
      refine wp_exit (e_then (e_then (e_eq ?_)))
      have ht15 := hx7 _ (Option.some.inj hs6).symm
      subst ht15
      refine c_mid ?_
      exact ⟨s5.1, rfl, hE.sub ⟨rfl, trivial⟩, hM⟩
  · skip
    rintro a w ⟨s4, ht, hE, hM⟩
    subst ht
    refine c_nx ?_
    refine c_region ?_
    refine s_move hE goes_none (by decide) rfl ?_; intro a hE
    refine s_assign hE goes_none (by decide) rfl ?_; intro a hE
    refine c_fin ?_
    have hr := Option.some.inj hF3
    subst hr
    exact wp_ret (k_ret1 hE rfl (res_tmp hE rfl) ⟨_, rfl, rfl, hM.kept⟩)
noncomputable def F_laws_FnExactWeightsOf (p0 : Int) (p1 : (List UInt8)) : Option (Bool) :=
  if (decide ((p1.length : Int) > 1048576)) = true then (some true) else ((F_laws_toByteS p1).bind fun (r2 : (List UInt8)) => (F_spec_WeightsOf p0 r2).bind fun (r5 : (List UInt8) × Int) => (F_laws_toByteS p1).bind fun (r8 : (List UInt8)) => (F_impl_WeightsOf p0 r8).bind fun (r11 : (List UInt8) × Int) => ((F_laws_eqByteS r11.1 r5.1).bind fun (r17 : Bool) => if (!r17) = true then (some true) else (some (r11.2 != r5.2)) : Option (Bool)).bind fun (j14 : Bool) => if j14 = true then (some false) else ((F_laws_toByteS p1).bind fun (r23 : (List UInt8)) => (F_laws_eqByteS r8 r23).bind fun (r26 : Bool) => if (!r26) = true then (some false) else ((F_laws_markByteS r8 1).bind fun (r29 : (List UInt8) × Int) => (if (decide (r29.2 < 0)) = true then (some true) else ((F_laws_eqByteS r11.1 r5.1).bind fun (r36 : Bool) => if (!r36) = true then (some true) else (some (r11.2 != r5.2))) : Option (Bool)).bind fun (j31 : Bool) => if j31 = true then (some false) else ((F_laws_markByteS r11.1 1).bind fun (r42 : (List UInt8) × Int) => (F_laws_heldByteS r42.1 1).bind fun (r44 : Int) => if (decide (r44 < 0)) = true then (some false) else (if (r44 != r42.2) = true then (some false) else ((F_laws_toByteS p1).bind fun (r48 : (List UInt8)) => (F_impl_WeightsOf p0 r48).bind fun (r51 : (List UInt8) × Int) => ((F_laws_eqByteS r51.1 r5.1).bind fun (r57 : Bool) => if (!r57) = true then (some true) else (some (r51.2 != r5.2)) : Option (Bool)).bind fun (j54 : Bool) => if j54 = true then (some false) else ((F_laws_heldByteS r42.1 1).bind fun (r63 : Int) => if (decide (r63 < 0)) = true then (some false) else (if (r63 != r42.2) = true then (some false) else (some true)))))))))
set_option maxRecDepth 20000 in
set_option maxHeartbeats 400000 in
theorem c_laws_FnExactWeightsOf (w0 : World) (p0 : Int) (p1 : (List UInt8)) (v1_1 : Value) (hv1_1 : Ro w0 p1 [v1_1]) (r : Bool) (hF : F_laws_FnExactWeightsOf p0 p1 = some r) :
    Calls Try.prog 4 [(vI p0), v1_1].toArray w0 (fun en w' => ∃ v, en = .returned v ∧ (v = (vT r) ∧ Kept (Old w0) w0 w')) := by
  refine c_enter (n := 98) Try.func4 rfl rfl (Nat.le_of_ble_eq_true rfl) rfl ?_
  intro a hE
  have hM := M.start w0
  unfold F_laws_FnExactWeightsOf at hF
  refine c_region ?_
  refine s_assign hE goes_none (by decide) rfl ?_; intro a hE
  refine c_fin ?_
  refine wp_seq ?_
  refine c_region ?_
  refine s_move hE goes_none (by decide) rfl ?_; intro a hE
  refine s_len hE goes_none (by decide) rfl Try.underlying29 (hM.rd hv1_1) ?_; intro a hE
  refine s_int hE goes_none (by decide) rfl rfl rfl ?_; intro a hE
  refine c_fin ?_
  refine c_cond hE rfl ?_ ?_
  · intro hb1
    have hF := ite_t hF hb1
    refine c_region ?_
    refine s_assign hE goes_none (by decide) rfl ?_; intro a hE
    refine c_fin ?_
    have hr := Option.some.inj hF
    subst hr
    exact wp_ret (r_then (k_ret1 hE rfl (res_tmp hE rfl) ⟨_, rfl, rfl, hM.kept⟩))
  · intro hb1
    have hF := ite_f hF hb1
    refine wp_skip ?_
    refine c_nx ?_
    refine c_region ?_
    refine s_move hE goes_none (by decide) rfl ?_; intro a hE
    refine s_move hE goes_none (by decide) rfl ?_; intro a hE
    obtain ⟨r2, e3, hF⟩ := bind_some hF
    refine s_call (vs := [v1_1]) hE goes_none (by decide) rfl cb19 (c_laws_toByteS _ p1 v1_1 (hM.rdo hv1_1) r2 e3) ?_
    rintro u4 w a ⟨_, rfl, hFr, hK⟩ hE
    have hM := hM.add hK hFr
    obtain ⟨r5, e6, hF⟩ := bind_some hF
    refine s_call (vs := [(vI p0), u4]) hE goes_none (by decide) rfl cb18 (c_spec_WeightsOf _ p0 r2 u4 (hM.sl (pre := []) noB) r5 e6) ?_
    rintro v w a ⟨u7, rfl, hFr, hK⟩ hE
    have hM := hM.add hK hFr
    refine s_move hE goes_none (by decide) rfl ?_; intro a hE
    refine s_extract hE goes_none (by decide) rfl rfl ?_; intro a hE
    refine s_extract hE goes_none (by decide) rfl rfl ?_; intro a hE
    refine s_assign hE goes_none (by decide) rfl ?_; intro a hE
    refine s_assign hE goes_none (by decide) rfl ?_; intro a hE
    refine c_fin ?_
    refine c_region ?_
    refine s_move hE goes_none (by decide) rfl ?_; intro a hE
    obtain ⟨r8, e9, hF⟩ := bind_some hF
    refine s_call (vs := [v1_1]) hE goes_none (by decide) rfl cb19 (c_laws_toByteS _ p1 v1_1 (hM.rdo hv1_1) r8 e9) ?_
    rintro u10 w a ⟨_, rfl, hFr, hK⟩ hE
    have hM := hM.add hK hFr
    refine s_assign hE goes_none (by decide) rfl ?_; intro a hE
    refine c_fin ?_
    refine c_region ?_
    refine s_move hE goes_none (by decide) rfl ?_; intro a hE
    refine s_move hE goes_none (by decide) rfl ?_; intro a hE
    obtain ⟨r11, e12, hF⟩ := bind_some hF
    refine s_call (vs := [(vI p0), u10]) hE goes_none (by decide) rfl cb20 (c_impl_WeightsOf _ p0 r8 u10 (hM.sl (pre := []) noB) r11 e12) ?_
    rintro v w a ⟨u13, rfl, hFr, hK⟩ hE
    have hM := hM.add hK hFr
    refine s_move hE goes_none (by decide) rfl ?_; intro a hE
    refine s_extract hE goes_none (by decide) rfl rfl ?_; intro a hE
    refine s_extract hE goes_none (by decide) rfl rfl ?_; intro a hE
    refine s_assign hE goes_none (by decide) rfl ?_; intro a hE
    refine s_assign hE goes_none (by decide) rfl ?_; intro a hE
    refine c_fin ?_
    refine wp_seq ?_
    obtain ⟨j14, hl15, hF16⟩ := bind_some hF
    refine c_join (fun a w => Env 98 a [(0, (vI p0)), (1, v1_1), (5, u7), (6, (vI r5.2)), (7, u10), (8, u13), (9, (vI r11.2)), (41, (vT j14))] ∧ M (Old w0) w0 w [osl NoB (r11.1 : List UInt8) u13, osl NoB (r8 : List UInt8) u10, osl NoB (r5.1 : List UInt8) u7]) ?_ ?_
    · skip
      refine wp_region_lit ?_
      refine s_move hE goes_none (by decide) rfl ?_; intro a hE
      refine s_move hE goes_none (by decide) rfl ?_; intro a hE
      obtain ⟨r17, e18, hl15⟩ := bind_some hl15
      refine s_call (vs := [u13, u7]) hE goes_none (by decide) rfl cb21 (c_laws_eqByteS _ r11.1 u13 (hM.sl (pre := []) noB) r5.1 u7 (hM.sl (pre := [_, _]) noB) r17 e18) ?_
      rintro v w a ⟨rfl, hK⟩ hE
      have hM := hM.keep hK
      refine s_not hE goes_none (by decide) rfl ?_; intro a hE
      refine s_move hE goes_none (by decide) rfl ?_; intro a hE
      refine splitB (!r17) (fun hb19 => ?_) (fun hb19 => ?_)
      · have hl15 := ite_t hl15 hb19
        refine s_skip hE rfl (lkb rfl hb19) rfl (by decide) ?_; intro a hE
        refine s_skip hE rfl (lkb rfl hb19) rfl (by decide) ?_; intro a hE
        refine s_skip hE rfl (lkb rfl hb19) rfl (by decide) ?_; intro a hE
        refine s_pickT hE goes_none (by decide) (lkb rfl hb19) rfl ?_; intro a hE
        refine c_fin0 ?_
        have ht20 := Option.some.inj hl15
        subst ht20
        refine c_mid ?_
        have hM := hM.pull (pre := [_, _])
        have hM := hM.pull (pre := [_, _])
        have hM := hM.pull (pre := [_, _])
        have hM := M.fst (l := [_, _, _]) hM
        exact ⟨hE.sub ⟨rfl, rfl, rfl, rfl, rfl, rfl, rfl, rfl, trivial⟩, hM⟩
      · have hl15 := ite_f hl15 hb19
        refine s_move hE (goes_yes hE rfl (lkb rfl hb19)) (by decide) rfl ?_; intro a hE
        refine s_move hE (goes_yes hE rfl (lkb rfl hb19)) (by decide) rfl ?_; intro a hE
        refine s_int hE (goes_yes hE rfl (lkb rfl hb19)) (by decide) rfl rfl rfl ?_; intro a hE
        refine s_pickF hE goes_none (by decide) (lkb rfl hb19) rfl ?_; intro a hE
        refine c_fin0 ?_
        have ht21 := Option.some.inj hl15
        subst ht21
        refine c_mid ?_
        have hM := hM.pull (pre := [_, _])
        have hM := hM.pull (pre := [_, _])
        have hM := hM.pull (pre := [_, _])
        have hM := M.fst (l := [_, _, _]) hM
        exact ⟨hE.sub ⟨rfl, rfl, rfl, rfl, rfl, rfl, rfl, rfl, trivial⟩, hM⟩
    · skip
      rintro a w ⟨hE, hM⟩
      refine c_cond hE rfl ?_ ?_
      · intro hb22
        have hF16 := ite_t hF16 hb22
        refine c_region ?_
        refine s_assign hE goes_none (by decide) rfl ?_; intro a hE
        refine c_fin ?_
        have hr := Option.some.inj hF16
        subst hr
        have hM := M.fst (l := []) hM
        exact wp_ret (r_then (k_ret1 hE rfl (res_tmp hE rfl) ⟨_, rfl, rfl, hM.kept⟩))
      · intro hb22
        have hF16 := ite_f hF16 hb22
        refine wp_skip ?_
        refine c_nx ?_
        refine wp_seq ?_
        refine c_region ?_
        refine s_move hE goes_none (by decide) rfl ?_; intro a hE
        refine s_move hE goes_none (by decide) rfl ?_; intro a hE
        obtain ⟨r23, e24, hF16⟩ := bind_some hF16
        refine s_call (vs := [v1_1]) hE goes_none (by decide) rfl cb19 (c_laws_toByteS _ p1 v1_1 (hM.rdo hv1_1) r23 e24) ?_
        rintro u25 w a ⟨_, rfl, hFr, hK⟩ hE
        have hM := hM.add hK hFr
        obtain ⟨r26, e27, hF16⟩ := bind_some hF16
        refine s_call (vs := [u10, u25]) hE goes_none (by decide) rfl cb21 (c_laws_eqByteS _ r8 u10 (hM.sl (pre := [_, _]) noB) r23 u25 (hM.sl (pre := []) noB) r26 e27) ?_
        rintro v w a ⟨rfl, hK⟩ hE
        have hM := hM.keep hK
        refine s_not hE goes_none (by decide) rfl ?_; intro a hE
        refine c_fin ?_
        refine c_cond hE rfl ?_ ?_
        · intro hb28
          have hF16 := ite_t hF16 hb28
          refine c_region ?_
          refine s_assign hE goes_none (by decide) rfl ?_; intro a hE
          refine c_fin ?_
          have hr := Option.some.inj hF16
          subst hr
          have hM := M.fst (l := []) hM
          exact wp_ret (r_then (k_ret1 hE rfl (res_tmp hE rfl) ⟨_, rfl, rfl, hM.kept⟩))
        · intro hb28
          have hF16 := ite_f hF16 hb28
          refine wp_skip ?_
          refine c_nx ?_
          refine c_region ?_
          refine s_assign hE goes_none (by decide) rfl ?_; intro a hE
          refine c_fin ?_
          refine c_region ?_
          refine s_move hE goes_none (by decide) rfl ?_; intro a hE
          refine s_move hE goes_none (by decide) rfl ?_; intro a hE
          have hM := hM.pull (pre := [_, _])
          have hM := hM.toOwn noB
          obtain ⟨r29, e30, hF16⟩ := bind_some hF16
          refine s_call (vs := [u10, (vI 1)]) hE goes_none (by decide) rfl cb22 (c_laws_markByteS _ _ _ _ r8 u10 1 hM r29 e30) ?_
          rintro v w a ⟨rfl, hM⟩ hE
          refine s_assign hE goes_none (by decide) rfl ?_; intro a hE
          refine c_fin ?_
          refine wp_seq ?_
          obtain ⟨j31, hl32, hF33⟩ := bind_some hF16
          refine c_join (fun a w => Env 98 a [(0, (vI p0)), (1, v1_1), (5, u7), (6, (vI r5.2)), (8, u13), (62, (vT j31))] ∧ M (Old w0) w0 w [osl NoB (r11.1 : List UInt8) u13, osl NoB (r5.1 : List UInt8) u7]) ?_ ?_
          · skip
            refine wp_region_lit ?_
            refine s_move hE goes_none (by decide) rfl ?_; intro a hE
            refine s_int hE goes_none (by decide) rfl rfl rfl ?_; intro a hE
            refine s_move hE goes_none (by decide) rfl ?_; intro a hE
            refine splitB (decide (r29.2 < 0)) (fun hb34 => ?_) (fun hb34 => ?_)
            · have hl32 := ite_t hl32 hb34
              refine s_skip hE rfl (lkb rfl hb34) rfl (by decide) ?_; intro a hE
              refine s_skip hE rfl (lkb rfl hb34) rfl (by decide) ?_; intro a hE
              refine s_skip hE rfl (lkb rfl hb34) rfl (by decide) ?_; intro a hE
              refine s_skip hE rfl (lkb rfl hb34) rfl (by decide) ?_; intro a hE
              refine s_pickT hE goes_none (by decide) (lkb rfl hb34) rfl ?_; intro a hE
              refine s_move hE goes_none (by decide) rfl ?_; intro a hE
              refine s_skip hE rfl rfl rfl (by decide) ?_; intro a hE
              refine s_skip hE rfl rfl rfl (by decide) ?_; intro a hE
              refine s_skip hE rfl rfl rfl (by decide) ?_; intro a hE
              refine s_pickT hE goes_none (by decide) rfl rfl ?_; intro a hE
              refine c_fin0 ?_
              have ht35 := Option.some.inj hl32
              subst ht35
              refine c_mid ?_
              have hM := hM.pull (pre := [_, _, _])
              have hM := hM.pull (pre := [_, _, _])
              have hM := M.fst (l := [_, _]) hM
              exact ⟨hE.sub ⟨rfl, rfl, rfl, rfl, rfl, rfl, trivial⟩, hM⟩
            · have hl32 := ite_f hl32 hb34
              refine s_move hE (goes_yes hE rfl (lkb rfl hb34)) (by decide) rfl ?_; intro a hE
              refine s_move hE (goes_yes hE rfl (lkb rfl hb34)) (by decide) rfl ?_; intro a hE
              obtain ⟨r36, e37, hl32⟩ := bind_some hl32
              refine s_call (vs := [u13, u7]) hE (goes_yes hE rfl (lkb rfl hb34)) (by decide) rfl cb21 (c_laws_eqByteS _ r11.1 u13 (hM.sl (pre := [_, _]) noB) r5.1 u7 (hM.sl (pre := [_, _, _]) noB) r36 e37) ?_
              rintro v w a ⟨rfl, hK⟩ hE
              have hM := hM.keep hK
              refine s_not hE (goes_yes hE rfl (lkb rfl hb34)) (by decide) rfl ?_; intro a hE
              refine s_pickF hE goes_none (by decide) (lkb rfl hb34) rfl ?_; intro a hE
              refine s_move hE goes_none (by decide) rfl ?_; intro a hE
              refine splitB (!r36) (fun hb38 => ?_) (fun hb38 => ?_)
              · have hl32 := ite_t hl32 hb38
                refine s_skip hE rfl (lkb rfl hb38) rfl (by decide) ?_; intro a hE
                refine s_skip hE rfl (lkb rfl hb38) rfl (by decide) ?_; intro a hE
                refine s_skip hE rfl (lkb rfl hb38) rfl (by decide) ?_; intro a hE
                refine s_pickT hE goes_none (by decide) (lkb rfl hb38) rfl ?_; intro a hE
                refine c_fin0 ?_
                have ht39 := Option.some.inj hl32
                subst ht39
                refine c_mid ?_
                have hM := hM.pull (pre := [_, _, _])
                have hM := hM.pull (pre := [_, _, _])
                have hM := M.fst (l := [_, _]) hM
                exact ⟨hE.sub ⟨rfl, rfl, rfl, rfl, rfl, rfl, trivial⟩, hM⟩
              · have hl32 := ite_f hl32 hb38
                refine s_move hE (goes_yes hE rfl (lkb rfl hb38)) (by decide) rfl ?_; intro a hE
                refine s_move hE (goes_yes hE rfl (lkb rfl hb38)) (by decide) rfl ?_; intro a hE
                refine s_int hE (goes_yes hE rfl (lkb rfl hb38)) (by decide) rfl rfl rfl ?_; intro a hE
                refine s_pickF hE goes_none (by decide) (lkb rfl hb38) rfl ?_; intro a hE
                refine c_fin0 ?_
                have ht40 := Option.some.inj hl32
                subst ht40
                refine c_mid ?_
                have hM := hM.pull (pre := [_, _, _])
                have hM := hM.pull (pre := [_, _, _])
                have hM := M.fst (l := [_, _]) hM
                exact ⟨hE.sub ⟨rfl, rfl, rfl, rfl, rfl, rfl, trivial⟩, hM⟩
          · skip
            rintro a w ⟨hE, hM⟩
            refine c_cond hE rfl ?_ ?_
            · intro hb41
              have hF33 := ite_t hF33 hb41
              refine c_region ?_
              refine s_assign hE goes_none (by decide) rfl ?_; intro a hE
              refine c_fin ?_
              have hr := Option.some.inj hF33
              subst hr
              have hM := M.fst (l := []) hM
              exact wp_ret (r_then (k_ret1 hE rfl (res_tmp hE rfl) ⟨_, rfl, rfl, hM.kept⟩))
            · intro hb41
              have hF33 := ite_f hF33 hb41
              refine wp_skip ?_
              refine c_nx ?_
              refine c_region ?_
              refine s_assign hE goes_none (by decide) rfl ?_; intro a hE
              refine c_fin ?_
              refine c_region ?_
              refine s_move hE goes_none (by decide) rfl ?_; intro a hE
              refine s_move hE goes_none (by decide) rfl ?_; intro a hE
              have hM := hM.toOwn noB
              obtain ⟨r42, e43, hF33⟩ := bind_some hF33
              refine s_call (vs := [u13, (vI 1)]) hE goes_none (by decide) rfl cb22 (c_laws_markByteS _ _ _ _ r11.1 u13 1 hM r42 e43) ?_
              rintro v w a ⟨rfl, hM⟩ hE
              refine s_assign hE goes_none (by decide) rfl ?_; intro a hE
              refine c_fin ?_
              refine c_region ?_
              refine s_assign hE goes_none (by decide) rfl ?_; intro a hE
              refine c_fin ?_
              refine c_region ?_
              refine s_move hE goes_none (by decide) rfl ?_; intro a hE
              refine s_move hE goes_none (by decide) rfl ?_; intro a hE
              obtain ⟨r44, e45, hF33⟩ := bind_some hF33
              refine s_call (vs := [u13, (vI 1)]) hE goes_none (by decide) rfl cb23 (c_laws_heldByteS _ r42.1 u13 (hM.ro (pre := []) (fun b hb => hb.elim)) 1 r44 e45) ?_
              rintro v w a ⟨rfl, hK⟩ hE
              have hM := hM.keep hK
              refine s_assign hE goes_none (by decide) rfl ?_; intro a hE
              refine c_fin ?_
              refine wp_seq ?_
              refine c_region ?_
              refine s_move hE goes_none (by decide) rfl ?_; intro a hE
              refine s_int hE goes_none (by decide) rfl rfl rfl ?_; intro a hE
              refine c_fin ?_
              refine c_cond hE rfl ?_ ?_
              · intro hb46
                have hF33 := ite_t hF33 hb46
                refine c_region ?_
                refine s_assign hE goes_none (by decide) rfl ?_; intro a hE
                refine c_fin ?_
                have hr := Option.some.inj hF33
                subst hr
                have hM := M.fst (l := []) hM
                exact wp_ret (r_then (k_ret1 hE rfl (res_tmp hE rfl) ⟨_, rfl, rfl, hM.kept⟩))
              · intro hb46
                have hF33 := ite_f hF33 hb46
                refine wp_skip ?_
                refine c_nx ?_
                refine wp_seq ?_
                refine c_region ?_
                refine s_move hE goes_none (by decide) rfl ?_; intro a hE
                refine s_move hE goes_none (by decide) rfl ?_; intro a hE
                refine s_int hE goes_none (by decide) rfl rfl rfl ?_; intro a hE
                refine c_fin ?_
                refine c_cond hE rfl ?_ ?_
                · intro hb47
                  have hF33 := ite_t hF33 hb47
                  refine c_region ?_
                  refine s_assign hE goes_none (by decide) rfl ?_; intro a hE
                  refine c_fin ?_
                  have hr := Option.some.inj hF33
                  subst hr
                  have hM := M.fst (l := []) hM
                  exact wp_ret (r_then (k_ret1 hE rfl (res_tmp hE rfl) ⟨_, rfl, rfl, hM.kept⟩))
                · intro hb47
                  have hF33 := ite_f hF33 hb47
                  refine wp_skip ?_
                  refine c_nx ?_
                  refine c_region ?_
                  refine s_move hE goes_none (by decide) rfl ?_; intro a hE
                  refine s_move hE goes_none (by decide) rfl ?_; intro a hE
                  obtain ⟨r48, e49, hF33⟩ := bind_some hF33
                  refine s_call (vs := [v1_1]) hE goes_none (by decide) rfl cb19 (c_laws_toByteS _ p1 v1_1 (hM.rdo hv1_1) r48 e49) ?_
                  rintro u50 w a ⟨_, rfl, hFr, hK⟩ hE
                  have hM := hM.add hK hFr
                  obtain ⟨r51, e52, hF33⟩ := bind_some hF33
                  refine s_call (vs := [(vI p0), u50]) hE goes_none (by decide) rfl cb20 (c_impl_WeightsOf _ p0 r48 u50 (hM.sl (pre := []) noB) r51 e52) ?_
                  rintro v w a ⟨u53, rfl, hFr, hK⟩ hE
                  have hM := hM.add hK hFr
                  refine s_move hE goes_none (by decide) rfl ?_; intro a hE
                  refine s_extract hE goes_none (by decide) rfl rfl ?_; intro a hE
                  refine s_extract hE goes_none (by decide) rfl rfl ?_; intro a hE
                  refine s_assign hE goes_none (by decide) rfl ?_; intro a hE
                  refine s_assign hE goes_none (by decide) rfl ?_; intro a hE
                  refine c_fin ?_
                  refine wp_seq ?_
                  obtain ⟨j54, hl55, hF56⟩ := bind_some hF33
                  refine c_join (fun a w => Env 98 a [(8, u13), (11, (vI r42.2)), (89, (vT j54))] ∧ M (Old w0) w0 w [own NoB (r42.1 : (List UInt8)) [u13]]) ?_ ?_
                  · skip
                    refine wp_region_lit ?_
                    refine s_move hE goes_none (by decide) rfl ?_; intro a hE
                    refine s_move hE goes_none (by decide) rfl ?_; intro a hE
                    obtain ⟨r57, e58, hl55⟩ := bind_some hl55
                    refine s_call (vs := [u53, u7]) hE goes_none (by decide) rfl cb21 (c_laws_eqByteS _ r51.1 u53 (hM.sl (pre := []) noB) r5.1 u7 (hM.sl (pre := [_, _, _]) noB) r57 e58) ?_
                    rintro v w a ⟨rfl, hK⟩ hE
                    have hM := hM.keep hK
                    refine s_not hE goes_none (by decide) rfl ?_; intro a hE
                    refine s_move hE goes_none (by decide) rfl ?_; intro a hE
                    refine splitB (!r57) (fun hb59 => ?_) (fun hb59 => ?_)
                    · have hl55 := ite_t hl55 hb59
                      refine s_skip hE rfl (lkb rfl hb59) rfl (by decide) ?_; intro a hE
                      refine s_skip hE rfl (lkb rfl hb59) rfl (by decide) ?_; intro a hE
                      refine s_skip hE rfl (lkb rfl hb59) rfl (by decide) ?_; intro a hE
                      refine s_pickT hE goes_none (by decide) (lkb rfl hb59) rfl ?_; intro a hE
                      refine c_fin0 ?_
                      have ht60 := Option.some.inj hl55
                      subst ht60
                      refine c_mid ?_
                      have hM := hM.pull (pre := [_, _])
                      have hM := M.fst (l := [_]) hM
                      exact ⟨hE.sub ⟨rfl, rfl, rfl, trivial⟩, hM⟩
                    · have hl55 := ite_f hl55 hb59
                      refine s_move hE (goes_yes hE rfl (lkb rfl hb59)) (by decide) rfl ?_; intro a hE
                      refine s_move hE (goes_yes hE rfl (lkb rfl hb59)) (by decide) rfl ?_; intro a hE
                      refine s_int hE (goes_yes hE rfl (lkb rfl hb59)) (by decide) rfl rfl rfl ?_; intro a hE
                      refine s_pickF hE goes_none (by decide) (lkb rfl hb59) rfl ?_; intro a hE
                      refine c_fin0 ?_
                      have ht61 := Option.some.inj hl55
                      subst ht61
                      refine c_mid ?_
                      have hM := hM.pull (pre := [_, _])
                      have hM := M.fst (l := [_]) hM
                      exact ⟨hE.sub ⟨rfl, rfl, rfl, trivial⟩, hM⟩
                  · skip
                    rintro a w ⟨hE, hM⟩
                    refine c_cond hE rfl ?_ ?_
                    · intro hb62
                      have hF56 := ite_t hF56 hb62
                      refine c_region ?_
                      refine s_assign hE goes_none (by decide) rfl ?_; intro a hE
                      refine c_fin ?_
                      have hr := Option.some.inj hF56
                      subst hr
                      have hM := M.fst (l := []) hM
                      exact wp_ret (r_then (k_ret1 hE rfl (res_tmp hE rfl) ⟨_, rfl, rfl, hM.kept⟩))
                    · intro hb62
                      have hF56 := ite_f hF56 hb62
                      refine wp_skip ?_
                      refine c_nx ?_
                      refine c_region ?_
                      refine s_assign hE goes_none (by decide) rfl ?_; intro a hE
                      refine c_fin ?_
                      refine c_region ?_
                      refine s_move hE goes_none (by decide) rfl ?_; intro a hE
                      refine s_move hE goes_none (by decide) rfl ?_; intro a hE
                      obtain ⟨r63, e64, hF56⟩ := bind_some hF56
                      refine s_call (vs := [u13, (vI 1)]) hE goes_none (by decide) rfl cb23 (c_laws_heldByteS _ r42.1 u13 (hM.ro (pre := []) (fun b hb => hb.elim)) 1 r63 e64) ?_
                      rintro v w a ⟨rfl, hK⟩ hE
                      have hM := hM.keep hK
                      refine s_assign hE goes_none (by decide) rfl ?_; intro a hE
                      refine c_fin ?_
                      refine wp_seq ?_
                      refine c_region ?_
                      refine s_move hE goes_none (by decide) rfl ?_; intro a hE
                      refine s_int hE goes_none (by decide) rfl rfl rfl ?_; intro a hE
                      refine c_fin ?_
                      refine c_cond hE rfl ?_ ?_
                      · intro hb65
                        have hF56 := ite_t hF56 hb65
                        refine c_region ?_
                        refine s_assign hE goes_none (by decide) rfl ?_; intro a hE
                        refine c_fin ?_
                        have hr := Option.some.inj hF56
                        subst hr
                        have hM := M.fst (l := []) hM
                        exact wp_ret (r_then (k_ret1 hE rfl (res_tmp hE rfl) ⟨_, rfl, rfl, hM.kept⟩))
                      · intro hb65
                        have hF56 := ite_f hF56 hb65
                        refine wp_skip ?_
                        refine c_nx ?_
                        refine wp_seq ?_
                        refine c_region ?_
                        refine s_move hE goes_none (by decide) rfl ?_; intro a hE
                        refine s_move hE goes_none (by decide) rfl ?_; intro a hE
                        refine s_int hE goes_none (by decide) rfl rfl rfl ?_; intro a hE
                        refine c_fin ?_
                        refine c_cond hE rfl ?_ ?_
                        · intro hb66
                          have hF56 := ite_t hF56 hb66
                          refine c_region ?_
                          refine s_assign hE goes_none (by decide) rfl ?_; intro a hE
                          refine c_fin ?_
                          have hr := Option.some.inj hF56
                          subst hr
                          have hM := M.fst (l := []) hM
                          exact wp_ret (r_then (k_ret1 hE rfl (res_tmp hE rfl) ⟨_, rfl, rfl, hM.kept⟩))
                        · intro hb66
                          have hF56 := ite_f hF56 hb66
                          refine wp_skip ?_
                          refine c_nx ?_
                          refine c_region ?_
                          refine s_assign hE goes_none (by decide) rfl ?_; intro a hE
                          refine c_fin ?_
                          have hr := Option.some.inj hF56
                          subst hr
                          have hM := M.fst (l := []) hM
                          exact wp_ret (k_ret1 hE rfl (res_tmp hE rfl) ⟨_, rfl, rfl, hM.kept⟩)
end Go.Proofs.Ytbonmndobipbnaa
