/- The walk of what the law reaches: contracts of functions. -/
import Derived.Test.YthlmkdjednppkaaC1
set_option linter.unusedVariables false
set_option linter.unusedSimpArgs false
namespace Go.Proofs.Ythlmkdjednppkaa
open Go
set_option maxRecDepth 20000 in
set_option maxHeartbeats 400000 in
theorem c_impl_IsField (w0 : World) (p0 : Int) (r : Bool) (hF : F_impl_IsField p0 = some r) :
    Calls Try.prog 132 [(vI p0)].toArray w0 (fun en w' => ∃ v, en = .returned v ∧ (v = (vT r) ∧ Kept (Old w0) w0 w')) := by
  refine c_enter (n := 25) Try.func132 rfl rfl (Nat.le_of_ble_eq_true rfl) rfl ?_
  intro a hE
  have hM := M.start w0
  unfold F_impl_IsField at hF
  refine c_region ?_
  refine s_assign hE goes_none (by decide) rfl ?_; intro a hE
  refine c_fin ?_
  refine wp_seq ?_
  refine c_region ?_
  refine s_move hE goes_none (by decide) rfl ?_; intro a hE
  obtain ⟨r1, e2, hF⟩ := bind_some hF
  refine s_call (vs := [(vI p0), (vI 256), (vI 511)]) hE goes_none (by decide) rfl cb93 (c_impl_inRange _ p0 256 511 r1 e2) ?_
  rintro v w a ⟨rfl, hK⟩ hE
  have hM := hM.keep hK
  refine s_not hE goes_none (by decide) rfl ?_; intro a hE
  refine c_fin ?_
  refine c_cond hE rfl ?_ ?_
  · intro hb3
    have hF := ite_t hF hb3
    refine c_region ?_
    refine s_assign hE goes_none (by decide) rfl ?_; intro a hE
    refine c_fin ?_
    have hr := Option.some.inj hF
    subst hr
    exact wp_ret (r_then (k_ret1 hE rfl (res_tmp hE rfl) ⟨_, rfl, rfl, hM.kept⟩))
  · intro hb3
    have hF := ite_f hF hb3
    refine wp_skip ?_
    refine c_nx ?_
    refine wp_seq ?_
    refine c_region ?_
    refine s_assign hE goes_none (by decide) rfl ?_; intro a hE
    refine c_fin ?_
    obtain ⟨j4, hl5, hF6⟩ := bind_some hF
    refine c_cut (fun a w => ∃ s7 : Unit, j4 = Fl.nx s7 ∧ Env 25 a [] ∧ M (Old w0) w0 w []) ?_ ?_
    · skip
      refine wp_block ?_
      refine c_loop (fun (s8 : Int) a w => Env 25 a [(0, (vI p0)), (3, (vI s8))] ∧ M (Old w0) w0 w []) hl5 ⟨hE.sub ⟨rfl, rfl, trivial⟩, hM⟩ ?_
      rintro s8 a w ⟨hE, hM⟩ o11 hs9 hx10
      unfold L0_impl_IsField at hs9
      refine wp_seq ?_
      refine c_region ?_
      refine s_move hE goes_none (by decide) rfl ?_; intro a hE
      refine s_int hE goes_none (by decide) rfl rfl rfl ?_; intro a hE
      refine c_fin ?_
      refine c_cond hE rfl ?_ ?_
      · intro hb12
        have hs9 := ite_t hs9 hb12
        refine wp_skip ?_
        refine c_nx ?_
        refine wp_seq ?_
        refine wp_block ?_
        refine c_region ?_
        refine s_move hE goes_none (by decide) rfl ?_; intro a hE
        obtain ⟨_, e13, hs9⟩ := bind_some hs9
        have e13 := nonneg_some e13
        refine s_sh hE goes_none (by decide) rfl rfl (bI_shl _ _ e13) ?_; intro a hE
        refine s_assign hE goes_none (by decide) rfl ?_; intro a hE
        refine c_fin ?_
        obtain ⟨j14, hl15, hF16⟩ := bind_some hs9
        refine c_cut (fun a w => ∃ s17 : Unit, j14 = Fl.nx s17 ∧ Env 25 a [(0, (vI p0)), (3, (vI s8))] ∧ M (Old w0) w0 w []) ?_ ?_
        · skip
          refine wp_block ?_
          refine c_loop (fun (s18 : Int) a w => Env 25 a [(0, (vI p0)), (3, (vI s8)), (4, (vI s18))] ∧ M (Old w0) w0 w []) hl15 ⟨hE.sub ⟨rfl, rfl, rfl, trivial⟩, hM⟩ ?_
          rintro s18 a w ⟨hE, hM⟩ o21 hs19 hx20
          unfold L1_impl_IsField at hs19
          refine wp_seq ?_
          refine c_region ?_
          refine s_move hE goes_none (by decide) rfl ?_; intro a hE
          refine s_move hE goes_none (by decide) rfl ?_; intro a hE
          obtain ⟨_, e22, hs19⟩ := bind_some hs19
          have e22 := nonneg_some e22
          refine s_sh hE goes_none (by decide) rfl rfl (bI_shl _ _ e22) ?_; intro a hE
          refine s_int hE goes_none (by decide) rfl rfl rfl ?_; intro a hE
          refine c_fin ?_
          refine c_cond hE rfl ?_ ?_
          · intro hb23
            have hs19 := ite_t hs19 hb23
            refine wp_skip ?_
            refine c_nx ?_
            refine wp_seq ?_
            refine wp_block ?_
            refine c_region ?_
            refine s_move hE goes_none (by decide) rfl ?_; intro a hE
            refine s_move hE goes_none (by decide) rfl ?_; intro a hE
            refine s_move hE goes_none (by decide) rfl ?_; intro a hE
            obtain ⟨r24, e25, hs19⟩ := bind_some hs19
            refine s_call (vs := [(vI p0), (vI s18), (vI s8)]) hE goes_none (by decide) rfl cb185 (c_impl_rest _ p0 s18 s8 r24 e25) ?_
            rintro v w a ⟨rfl, hK⟩ hE
            have hM := hM.keep hK
            refine s_int hE goes_none (by decide) rfl rfl rfl ?_; intro a hE
            refine c_fin ?_
            refine c_cond hE rfl ?_ ?_
            · intro hb26
              have hs19 := ite_t hs19 hb26
              refine c_region ?_
              refine s_assign hE goes_none (by decide) rfl ?_; intro a hE
              refine c_fin ?_
              have ht27 := hx20 _ (Option.some.inj hs19).symm
              subst ht27
              have ht28 := hx10 _ (Option.some.inj hF16).symm
              subst ht28
              have hr := Option.some.inj hF6
              subst hr
              exact wp_ret (r_inb (r_then (r_then (r_inb (r_then (r_inb (r_then (r_then (r_inb (r_then (r_then (k_ret1 hE rfl (res_tmp hE rfl) ⟨_, rfl, rfl, hM.kept⟩))))))))))))
            · intro hb26
              have hs19 := ite_f hs19 hb26
              refine wp_skip ?_
              refine c_nb ?_
              refine c_nx ?_
              refine wp_region_lit ?_
              refine s_move hE goes_none (by decide) rfl ?_; intro a hE
              refine s_int hE goes_none (by decide) rfl rfl rfl ?_; intro a hE
              refine s_assign hE goes_none (by decide) rfl ?_; intro a hE
              refine c_fin0 ?_
              refine c_mid ?_
              exact ⟨_, (Option.some.inj hs19).symm, hE.sub ⟨rfl, rfl, rfl, trivial⟩, hM⟩
          · intro hb23
            have hs19 := ite_f hs19 hb23
            refine wp_exit (e_then (e_then (e_eq ?_)))
            have ht29 := hx20 _ (Option.some.inj hs19).symm
            subst ht29
            refine c_mid ?_
            exact ⟨(), rfl, hE.sub ⟨rfl, rfl, trivial⟩, hM⟩
        · skip
          rintro a w ⟨s17, ht, hE, hM⟩
          subst ht
          have hF16 := el_nx hF16
          refine c_nb ?_
          refine c_nx ?_
          refine wp_region_lit ?_
          refine s_move hE goes_none (by decide) rfl ?_; intro a hE
          refine s_int hE goes_none (by decide) rfl rfl rfl ?_; intro a hE
          refine s_assign hE goes_none (by decide) rfl ?_; intro a hE
          refine c_fin0 ?_
          refine c_mid ?_
          exact ⟨_, (Option.some.inj hF16).symm, hE.sub ⟨rfl, rfl, trivial⟩, hM⟩
      · intro hb12
        have hs9 := ite_f hs9 hb12
        refine wp_exit (e_then (e_then (e_eq ?_)))
        have ht30 := hx10 _ (Option.some.inj hs9).symm
        subst ht30
        refine c_mid ?_
        exact ⟨(), rfl, hE.sub trivial, hM⟩
    · skip
      rintro a w ⟨s7, ht, hE, hM⟩
      subst ht
      have hF6 := el_nx hF6
      refine c_nx ?_
      refine c_region ?_
      refine s_assign hE goes_none (by decide) rfl ?_; intro a hE
      refine c_fin ?_
      have hr := Option.some.inj hF6
      subst hr
      exact wp_ret (k_ret1 hE rfl (res_tmp hE rfl) ⟨_, rfl, rfl, hM.kept⟩)
noncomputable def L0_slices_IndexFunc_impl_Share_impl_Share (p0 : (List GShare)) (p1 : GShare → Option (Bool)) (s5 : Int) : Option (Fl Int (Fl Unit Int)) :=
  if (decide (s5 < (p0.length : Int))) = true then ((idx p0 s5).bind fun (x10 : GShare) => ((p1 x10)).bind fun (r18 : Bool) => if r18 = true then (some (Fl.ex (Fl.ex s5))) else (some (Fl.nx (wr (s5 + 1))))) else (some (Fl.ex (Fl.nx ())))
noncomputable def F_slices_IndexFunc_impl_Share_impl_Share (p0 : (List GShare)) (p1 : GShare → Option (Bool)) : Option (Int) :=
  (iter (L0_slices_IndexFunc_impl_Share_impl_Share p0 p1) 0 : Option (Fl Unit Int)).bind fun (j1 : Fl Unit Int) => j1.el (fun (s4 : Unit) => some (-1)) (fun r => some r)
set_option maxRecDepth 20000 in
set_option maxHeartbeats 400000 in
theorem c_slices_IndexFunc_impl_Share_impl_Share (w0 : World) (p0 : (List GShare)) (v0_1 : Value) (hv0_1 : Ro w0 p0 [v0_1]) (p1 : GShare → Option (Bool)) (k1 : Nat) (q1 : List Value) (hcb1 : Callable Try.prog k1) (hg1 : ∀ (w2 : World), Kept (Old w0) w0 w2 → ∀ (z0 : GShare) (zu1 : Value) (_ : Ro w2 z0.Data [zu1]) (zr : Bool), p1 z0 = some zr → Calls Try.prog k1 ([(Value.agg (cat [[(vB z0.Place)], [zu1]]).toArray)] ++ q1).toArray w2 (fun en w3 => ∃ v, en = .returned v ∧ (v = (vT zr) ∧ Kept (Old w2) w2 w3))) (r : Int) (hF : F_slices_IndexFunc_impl_Share_impl_Share p0 p1 = some r) :
    Calls Try.prog 186 [v0_1, (Value.func (.func k1) #[] q1.toArray)].toArray w0 (fun en w' => ∃ v, en = .returned v ∧ (v = (vI r) ∧ Kept (Old w0) w0 w')) := by
  refine c_enter (n := 19) Try.func186 rfl rfl (Nat.le_of_ble_eq_true rfl) rfl ?_
  intro a hE
  have hM := M.start w0
  unfold F_slices_IndexFunc_impl_Share_impl_Share at hF
  refine c_region ?_
  refine s_assign hE goes_none (by decide) rfl ?_; intro a hE
  refine c_fin ?_
  refine wp_seq ?_
  refine c_region ?_
  refine s_move hE goes_none (by decide) rfl ?_; intro a hE
  refine s_len hE goes_none (by decide) rfl Try.underlying29 (hM.rd hv0_1) ?_; intro a hE
  refine s_move hE goes_none (by decide) rfl ?_; intro a hE
  refine c_fin ?_
  obtain ⟨j1, hl2, hF3⟩ := bind_some hF
  refine c_cut (fun a w => ∃ s4 : Unit, j1 = Fl.nx s4 ∧ Env 19 a [] ∧ M (Old w0) w0 w []) ?_ ?_
  · skip
    refine wp_block ?_
    refine c_loop (fun (s5 : Int) a w => Env 19 a [(0, v0_1), (1, (Value.func (.func k1) #[] q1.toArray)), (7, (vI (p0.length : Int))), (8, (vI s5))] ∧ M (Old w0) w0 w []) hl2 ⟨hE.sub ⟨rfl, rfl, rfl, rfl, trivial⟩, hM⟩ ?_
    rintro s5 a w ⟨hE, hM⟩ o8 hs6 hx7
    unfold L0_slices_IndexFunc_impl_Share_impl_Share at hs6
    refine c_region ?_
    refine s_int hE goes_none (by decide) rfl rfl rfl ?_; intro a hE
    refine c_fin ?_
    refine wp_seq ?_
    refine c_cond hE rfl ?_ ?_
    · intro hb9
      have hs6 := ite_t hs6 hb9
      refine wp_skip ?_
      refine c_nx ?_
      refine wp_seq ?_
      refine wp_block ?_
      refine c_region ?_
      refine s_move hE goes_none (by decide) rfl ?_; intro a hE
      refine s_assign hE goes_none (by decide) rfl ?_; intro a hE
      refine c_fin ?_
      refine c_region ?_
      refine s_move hE goes_none (by decide) rfl ?_; intro a hE
      refine s_move hE goes_none (by decide) rfl ?_; intro a hE
      refine s_move hE goes_none (by decide) rfl ?_; intro a hE
      obtain ⟨x10, e11, hs6⟩ := bind_some hs6
      have hi12 := idx_some e11
      refine s_indexS hE goes_none (by decide) rfl rfl Try.underlying29 ty26 (hM.rd hv0_1) hi12.1 ?_; intro a hE
      obtain ⟨cs13, hs14, hA15⟩ := sl_atRo hv0_1 hi12.2 -- ^
      obtain ⟨u16, rfl, h17⟩ := un_GShare hs14 -- ^
      refine s_loadA (cs := cat [[(vB x10.Place)], [u16]]) hE goes_none (by decide) rfl ty26 rfl (hM.atk hA15 (sl_blk hv0_1 hi12.2)) (cat_len (cl1 (n := 1) (m := 1) rfl (cl1 (n := 1) (m := 0) rfl cl0))) ?_; intro a hE
      obtain ⟨r18, e19, hs6⟩ := bind_some hs6
      refine s_callv2 (vs := [(Value.agg (cat [[(vB x10.Place)], [u16]]).toArray)]) hE goes_none (by decide) rfl rfl hcb1 (hg1 _ hM.kept x10 u16 (hM.rdo h17) r18 e19) ?_
      rintro v w a ⟨rfl, hK⟩ hE
      have hM := hM.keep hK
      refine c_fin ?_
      refine c_cond hE rfl ?_ ?_
      · intro hb20
        have hs6 := ite_t hs6 hb20
        refine c_region ?_
        refine s_move hE goes_none (by decide) rfl ?_; intro a hE
        refine s_assign hE goes_none (by decide) rfl ?_; intro a hE
        refine c_fin ?_
        have ht21 := hx7 _ (Option.some.inj hs6).symm
        subst ht21
        have hr := Option.some.inj hF3
        subst hr
        exact wp_ret (r_inb (r_then (r_then (r_inb (r_then (r_then (k_ret1 hE rfl (res_tmp hE rfl) ⟨_, rfl, rfl, hM.kept⟩)))))))
      · intro hb20
        have hs6 := ite_f hs6 hb20
        refine wp_skip ?_
        refine c_nb ?_
        refine c_nx ?_
        refine wp_region_lit ?_
        refine s_int hE goes_none (by decide) rfl rfl rfl ?_; intro a hE
        refine s_move hE goes_none (by decide) rfl ?_; intro a hE
        refine c_fin0 ?_
        refine c_mid ?_
        exact ⟨_, (Option.some.inj hs6).symm, hE.sub ⟨rfl, rfl, rfl, rfl, trivial⟩, hM⟩
    · intro hb9
      have hs6 := ite_f hs6 hb9
      refine wp_exit (e_then (e_then (e_eq ?_)))
      have ht22 := hx7 _ (Option.some.inj hs6).symm
      subst ht22
      refine c_mid ?_
      exact ⟨(), rfl, hE.sub trivial, hM⟩
  · skip
    rintro a w ⟨s4, ht, hE, hM⟩
    subst ht
    have hF3 := el_nx hF3
    refine c_nx ?_
    refine c_region ?_
    refine s_assign hE goes_none (by decide) rfl ?_; intro a hE
    refine c_fin ?_
    have hr := Option.some.inj hF3
    subst hr
    exact wp_ret (k_ret1 hE rfl (res_tmp hE rfl) ⟨_, rfl, rfl, hM.kept⟩)
noncomputable def F_slices_ContainsFunc_impl_Share_impl_Share (p0 : (List GShare)) (p1 : GShare → Option (Bool)) : Option (Bool) :=
  (F_slices_IndexFunc_impl_Share_impl_Share p0 p1).bind fun (r1 : Int) => some (decide (r1 ≥ 0))
set_option maxRecDepth 20000 in
set_option maxHeartbeats 400000 in
theorem c_slices_ContainsFunc_impl_Share_impl_Share (w0 : World) (p0 : (List GShare)) (v0_1 : Value) (hv0_1 : Ro w0 p0 [v0_1]) (p1 : GShare → Option (Bool)) (k1 : Nat) (q1 : List Value) (hcb1 : Callable Try.prog k1) (hg1 : ∀ (w2 : World), Kept (Old w0) w0 w2 → ∀ (z0 : GShare) (zu1 : Value) (_ : Ro w2 z0.Data [zu1]) (zr : Bool), p1 z0 = some zr → Calls Try.prog k1 ([(Value.agg (cat [[(vB z0.Place)], [zu1]]).toArray)] ++ q1).toArray w2 (fun en w3 => ∃ v, en = .returned v ∧ (v = (vT zr) ∧ Kept (Old w2) w2 w3))) (r : Bool) (hF : F_slices_ContainsFunc_impl_Share_impl_Share p0 p1 = some r) :
    Calls Try.prog 133 [v0_1, (Value.func (.func k1) #[] q1.toArray)].toArray w0 (fun en w' => ∃ v, en = .returned v ∧ (v = (vT r) ∧ Kept (Old w0) w0 w')) := by
  refine c_enter (n := 9) Try.func133 rfl rfl (Nat.le_of_ble_eq_true rfl) rfl ?_
  intro a hE
  have hM := M.start w0
  unfold F_slices_ContainsFunc_impl_Share_impl_Share at hF
  refine c_region ?_
  refine s_assign hE goes_none (by decide) rfl ?_; intro a hE
  refine c_fin ?_
  refine c_region ?_
  refine s_move hE goes_none (by decide) rfl ?_; intro a hE
  refine s_move hE goes_none (by decide) rfl ?_; intro a hE
  obtain ⟨r1, e2, hF⟩ := bind_some hF
  refine s_call (vs := [v0_1, (Value.func (.func k1) #[] q1.toArray)]) hE goes_none (by decide) rfl cb186 (c_slices_IndexFunc_impl_Share_impl_Share _ p0 v0_1 (hM.rdo hv0_1) p1 k1 q1 hcb1 (fun w2 hk2 => hg1 w2 (hM.kept.trans hk2)) r1 e2) ?_
  rintro v w a ⟨rfl, hK⟩ hE
  have hM := hM.keep hK
  refine s_int hE goes_none (by decide) rfl rfl rfl ?_; intro a hE
  refine s_assign hE goes_none (by decide) rfl ?_; intro a hE
  refine c_fin ?_
  have hr := Option.some.inj hF
  subst hr
  exact wp_ret (k_ret1 hE rfl (res_tmp hE rfl) ⟨_, rfl, rfl, hM.kept⟩)
noncomputable def F_impl_isShare (p0 : GShare) : Option (Bool) :=
  (if (p0.Place != 0) = true then (some (decide ((p0.Data.length : Int) ≤ 100))) else (some false) : Option (Bool)).bind fun (j3 : Bool) => some j3
set_option maxRecDepth 20000 in
set_option maxHeartbeats 400000 in
theorem c_impl_isShare (w0 : World) (p0 : GShare) (v0_1 : Value) (hv0_1 : Ro w0 p0.Data [v0_1]) (r : Bool) (hF : F_impl_isShare p0 = some r) :
    Calls Try.prog 135 [(Value.agg (cat [[(vB p0.Place)], [v0_1]]).toArray)].toArray w0 (fun en w' => ∃ v, en = .returned v ∧ (v = (vT r) ∧ Kept (Old w0) w0 w')) := by
  refine c_enter (n := 12) Try.func135 rfl rfl (Nat.le_of_ble_eq_true rfl) rfl ?_
  intro a hE
  have hM := M.start w0
  unfold F_impl_isShare at hF
  refine c_region ?_
  refine s_box (cs := cat [[(vB p0.Place)], [v0_1]]) hE hM goes_none (by decide) rfl rfl ?_; intro b1 w a hM hE
  refine s_assign hE goes_none (by decide) rfl ?_; intro a hE
  refine c_fin ?_
  obtain ⟨j3, hl4, hF5⟩ := bind_some hF
  refine c_join (fun a w => Env 12 a [(2, (vT j3))] ∧ M (Old w0) w0 w []) ?_ ?_
  · skip
    refine wp_region_lit ?_
    refine s_fieldAddr hE goes_none (by decide) rfl (fd26_0) ?_; intro a hE
    refine s_load (v := (vB p0.Place)) hE goes_none (by decide) rfl ty5 rfl (At.cat (pre := []) (seg := [(vB p0.Place)]) (post := [[v0_1]]) (hM.rawAt (pre := [])) cl0) ?_; intro a hE
    refine s_int hE goes_none (by decide) rfl rfl (bB_neq p0.Place 0) ?_; intro a hE
    refine s_move hE goes_none (by decide) rfl ?_; intro a hE
    refine splitB (p0.Place != 0) (fun hb6 => ?_) (fun hb6 => ?_)
    · have hl4 := ite_t hl4 hb6
      refine s_fieldAddr hE (goes_yes hE rfl (lkb rfl hb6)) (by decide) rfl (fd26_1) ?_; intro a hE
      refine s_load (v := v0_1) hE (goes_yes hE rfl (lkb rfl hb6)) (by decide) rfl ty24 rfl (At.cat (pre := [[(vB p0.Place)]]) (seg := [v0_1]) (post := []) (hM.rawAt (pre := [])) (cl1 (n := 1) (m := 0) rfl cl0)) ?_; intro a hE
      refine s_len hE (goes_yes hE rfl (lkb rfl hb6)) (by decide) rfl Try.underlying24 (hM.rd hv0_1) ?_; intro a hE
      refine s_int hE (goes_yes hE rfl (lkb rfl hb6)) (by decide) rfl rfl rfl ?_; intro a hE
      refine s_pickT hE goes_none (by decide) (lkb rfl hb6) rfl ?_; intro a hE
      refine s_assign hE goes_none (by decide) rfl ?_; intro a hE
      refine c_fin0 ?_
      have ht7 := Option.some.inj hl4
      subst ht7
      refine c_mid ?_
      have hM := M.fst (l := []) hM
      exact ⟨hE.sub ⟨rfl, trivial⟩, hM⟩
    · have hl4 := ite_f hl4 hb6
      refine s_skip hE rfl (lkb rfl hb6) rfl (by decide) ?_; intro a hE
      refine s_skip hE rfl (lkb rfl hb6) rfl (by decide) ?_; intro a hE
      refine s_skip hE rfl (lkb rfl hb6) rfl (by decide) ?_; intro a hE
      refine s_skip hE rfl (lkb rfl hb6) rfl (by decide) ?_; intro a hE
      refine s_pickF hE goes_none (by decide) (lkb rfl hb6) rfl ?_; intro a hE
      refine s_assign hE goes_none (by decide) rfl ?_; intro a hE
      refine c_fin0 ?_
      have ht8 := Option.some.inj hl4
      subst ht8
      refine c_mid ?_
      have hM := M.fst (l := []) hM
      exact ⟨hE.sub ⟨rfl, trivial⟩, hM⟩
  · skip
    rintro a w ⟨hE, hM⟩
    have hr := Option.some.inj hF5
    subst hr
    exact wp_ret (k_ret1 hE rfl (res_tmp hE rfl) ⟨_, rfl, rfl, hM.kept⟩)
noncomputable def F_impl_checkShares_1 (p0 : GShare) : Option (Bool) :=
  (F_impl_isShare p0).bind fun (r3 : Bool) => some (!r3)
set_option maxRecDepth 20000 in
set_option maxHeartbeats 400000 in
theorem c_impl_checkShares_1 (w0 : World) (p0 : GShare) (v0_1 : Value) (hv0_1 : Ro w0 p0.Data [v0_1]) (r : Bool) (hF : F_impl_checkShares_1 p0 = some r) :
    Calls Try.prog 134 [(Value.agg (cat [[(vB p0.Place)], [v0_1]]).toArray)].toArray w0 (fun en w' => ∃ v, en = .returned v ∧ (v = (vT r) ∧ Kept (Old w0) w0 w')) := by
  refine c_enter (n := 6) Try.func134 rfl rfl (Nat.le_of_ble_eq_true rfl) rfl ?_
  intro a hE
  have hM := M.start w0
  unfold F_impl_checkShares_1 at hF
  refine c_region ?_
  refine s_box (cs := cat [[(vB p0.Place)], [v0_1]]) hE hM goes_none (by decide) rfl rfl ?_; intro b1 w a hM hE
  refine s_assign hE goes_none (by decide) rfl ?_; intro a hE
  refine c_fin ?_
  refine c_region ?_
  refine s_loadA (cs := cat [[(vB p0.Place)], [v0_1]]) hE goes_none (by decide) rfl ty26 rfl (hM.rawAt (pre := [])) (cat_len (cl1 (n := 1) (m := 1) rfl (cl1 (n := 1) (m := 0) rfl cl0))) ?_; intro a hE
  obtain ⟨r3, e4, hF⟩ := bind_some hF
  refine s_call (vs := [(Value.agg (cat [[(vB p0.Place)], [v0_1]]).toArray)]) hE goes_none (by decide) rfl cb135 (c_impl_isShare _ p0 v0_1 (hM.rdo hv0_1) r3 e4) ?_
  rintro v w a ⟨rfl, hK⟩ hE
  have hM := hM.keep hK
  refine s_not hE goes_none (by decide) rfl ?_; intro a hE
  refine s_assign hE goes_none (by decide) rfl ?_; intro a hE
  refine c_fin ?_
  have hr := Option.some.inj hF
  subst hr
  have hM := M.fst (l := []) hM
  exact wp_ret (k_ret1 hE rfl (res_tmp hE rfl) ⟨_, rfl, rfl, hM.kept⟩)
noncomputable def L0_impl_placesOf (p0 : (List GShare)) (s8 : (List UInt8) × Int) : Option (Fl ((List UInt8) × Int) (List UInt8)) :=
  if (decide (s8.2 < (p0.length : Int))) = true then ((idx p0 s8.2).bind fun (x15 : GShare) => (app 1 s8.1 ([x15.Place] : List UInt8)).bind fun (l27 : (List UInt8)) => some (Fl.nx ((s8.1 ++ ([x15.Place] : List UInt8)), wr (s8.2 + 1)))) else (some (Fl.ex s8.1))
noncomputable def F_impl_placesOf (p0 : (List GShare)) : Option ((List UInt8)) :=
  (iter (L0_impl_placesOf p0) (([] : List UInt8), 0) : Option ((List UInt8))).bind fun (j3 : (List UInt8)) => some j3
set_option maxRecDepth 20000 in
set_option maxHeartbeats 400000 in
theorem c_impl_placesOf (w0 : World) (p0 : (List GShare)) (v0_1 : Value) (hv0_1 : Ro w0 p0 [v0_1]) (r : (List UInt8)) (hF : F_impl_placesOf p0 = some r) :
    Calls Try.prog 84 [v0_1].toArray w0 (fun en w' => ∃ v, en = .returned v ∧ (∃ (y1 : Value), v = y1 ∧ Fr w0 w' [osl NoB (r : List UInt8) y1] ∧ Kept (Old w0) w0 w')) := by
  refine c_enter (n := 20) Try.func84 rfl rfl (Nat.le_of_ble_eq_true rfl) rfl ?_
  intro a hE
  have hM := M.start w0
  unfold F_impl_placesOf at hF
  refine c_region ?_
  refine s_assign hE goes_none (by decide) rfl ?_; intro a hE
  refine c_fin ?_
  refine c_region ?_
  refine s_buildF (xs := []) (l := ([] : List UInt8)) (vs := []) hE hM goes_none (by decide) rfl rfl Try.underlying24 ty5 rfl (by decide) rfl ?_; intro u1 w a hM hE
  refine s_assign hE goes_none (by decide) rfl ?_; intro a hE
  refine c_fin ?_
  refine wp_seq ?_
  refine c_region ?_
  refine s_move hE goes_none (by decide) rfl ?_; intro a hE
  refine s_len hE goes_none (by decide) rfl Try.underlying29 (hM.rd hv0_1) ?_; intro a hE
  refine s_move hE goes_none (by decide) rfl ?_; intro a hE
  refine c_fin ?_
  obtain ⟨j3, hl4, hF5⟩ := bind_some hF
  refine c_cut (fun a w => ∃ (u6 : Value), Env 20 a [(3, u6)] ∧ M (Old w0) w0 w [osl NoB (j3 : List UInt8) u6]) ?_ ?_
  · skip
    refine wp_block ?_
    refine c_loop (fun (s8 : (List UInt8) × Int) a w => ∃ (u9 : Value), Env 20 a [(3, u9), (7, v0_1), (8, (vI (p0.length : Int))), (9, (vI s8.2))] ∧ M (Old w0) w0 w [osl NoB (s8.1 : List UInt8) u9]) hl4 ⟨u1, hE.sub ⟨rfl, rfl, rfl, rfl, trivial⟩, hM⟩ ?_
    rintro s8 a w ⟨u9, hE, hM⟩ o13 hs11 hx12
    unfold L0_impl_placesOf at hs11
    refine c_region ?_
    refine s_int hE goes_none (by decide) rfl rfl rfl ?_; intro a hE
    refine c_fin ?_
    refine wp_seq ?_
    refine c_cond hE rfl ?_ ?_
    · intro hb14
      have hs11 := ite_t hs11 hb14
      refine wp_skip ?_
      refine c_nx ?_
      refine wp_seq ?_
      refine wp_block ?_
      refine c_region ?_
      obtain ⟨x15, e16, hs11⟩ := bind_some hs11
      have hi17 := idx_some e16
      refine s_indexS hE goes_none (by decide) rfl rfl Try.underlying29 ty26 (hM.rd hv0_1) hi17.1 ?_; intro a hE
      obtain ⟨cs18, hs19, hA20⟩ := sl_atRo hv0_1 hi17.2 -- ^
      obtain ⟨u21, rfl, h22⟩ := un_GShare hs19 -- ^
      refine s_loadA (cs := cat [[(vB x15.Place)], [u21]]) hE goes_none (by decide) rfl ty26 rfl (hM.atk hA20 (sl_blk hv0_1 hi17.2)) (cat_len (cl1 (n := 1) (m := 1) rfl (cl1 (n := 1) (m := 0) rfl cl0))) ?_; intro a hE
      refine s_alloc hE hM goes_none (by decide) ty26 ?_; intro b23 w a hM hE
      refine s_store (seg := cat [[(vB x15.Place)], [u21]]) (cs' := cat [[(vB x15.Place)], [u21]]) hE hM goes_none rfl rfl rfl ty26 (cat_len (cl1 (n := 1) (m := 1) rfl (cl1 (n := 1) (m := 0) rfl cl0))) (Nat.le_of_eq ((Nat.zero_add _).trans (Eq.trans (cat_len (cl1 (n := 1) (m := 1) rfl (cl1 (n := 1) (m := 0) rfl cl0))) (Eq.symm (cat_len (cl1 (n := 1) (m := 1) rfl (cl1 (n := 1) (m := 0) rfl cl0))))))) (cat_cell (cc1 (Flat.cell (x15.Place : UInt8)) (cc1 (Rep.cell (hM.rd h22)) cc0))) (splice_all (Eq.trans (cat_len (cl1 (n := 1) (m := 1) rfl (cl1 (n := 1) (m := 0) rfl cl0))) (Eq.symm (cat_len (cl1 (n := 1) (m := 1) rfl (cl1 (n := 1) (m := 0) rfl cl0)))))) ?_; intro w a hM hE
      refine c_fin ?_
      refine wp_region_lit ?_
      refine s_move hE goes_none (by decide) rfl ?_; intro a hE
      refine s_fieldAddr hE goes_none (by decide) rfl (fd26_0) ?_; intro a hE
      refine s_load (v := (vB x15.Place)) hE goes_none (by decide) rfl ty5 rfl (At.cat (pre := []) (seg := [(vB x15.Place)]) (post := [[u21]]) (hM.rawAt (pre := [])) cl0) ?_; intro a hE
      refine s_buildF (xs := [.tmp 15]) (l := ([x15.Place] : List UInt8)) (vs := [(vB x15.Place)]) hE hM goes_none (by decide) rfl rfl Try.underlying24 ty5 rfl (by decide) rfl ?_; intro u25 w a hM hE
      obtain ⟨l27, e28, hs11⟩ := bind_some hs11
      obtain ⟨e31, rfl⟩ := app_some e28
      have hM := hM.pull (pre := [_, _])
      refine s_appendF hE hM goes_none (by decide) rfl rfl (hM.sl (pre := [_]) noB) Try.underlying24 ty5 rfl (by decide) e31 ?_; intro u29 w a hM hE
      refine s_assign hE goes_none (by decide) rfl ?_; intro a hE
      refine c_fin0 ?_
      refine c_nb ?_
      refine c_nx ?_
      refine wp_region_lit ?_
      refine s_int hE goes_none (by decide) rfl rfl rfl ?_; intro a hE
      refine s_move hE goes_none (by decide) rfl ?_; intro a hE
      refine c_fin0 ?_
      refine c_mid ?_
      have hM := M.fst (l := [_]) hM
      exact ⟨_, (Option.some.inj hs11).symm, u29, hE.sub ⟨rfl, rfl, rfl, rfl, trivial⟩, hM⟩
    · intro hb14
      have hs11 := ite_f hs11 hb14
      refine wp_exit (e_then (e_then (e_eq ?_)))
      have ht32 := hx12 _ (Option.some.inj hs11).symm
      subst ht32
      refine c_mid ?_
      exact ⟨u9, hE.sub ⟨rfl, trivial⟩, hM⟩
  · skip
    rintro a w ⟨u6, hE, hM⟩
    refine c_nx ?_
    refine c_region ?_
    refine s_move hE goes_none (by decide) rfl ?_; intro a hE
    refine s_assign hE goes_none (by decide) rfl ?_; intro a hE
    refine c_fin ?_
    have hr := Option.some.inj hF5
    subst hr
    exact wp_ret (k_ret1 hE rfl (res_tmp hE rfl) ⟨_, rfl, u6, rfl, hM.outF (locN1 locN0), hM.kept⟩)
noncomputable def F_bytes_IndexByte (p0 : (List UInt8)) (p1 : UInt8) : Option (Int) :=
  some (indexByte p0 p1)
set_option maxRecDepth 20000 in
set_option maxHeartbeats 400000 in
theorem c_bytes_IndexByte (w0 : World) (p0 : (List UInt8)) (v0_1 : Value) (hv0_1 : Ro w0 p0 [v0_1]) (p1 : UInt8) (r : Int) (hF : F_bytes_IndexByte p0 p1 = some r) :
    Calls Try.prog 187 [v0_1, (vB p1)].toArray w0 (fun en w' => ∃ v, en = .returned v ∧ (v = (vI r) ∧ Kept (Old w0) w0 w')) := by
  refine c_enter (n := 8) Try.func187 rfl rfl (Nat.le_of_ble_eq_true rfl) rfl ?_
  intro a hE
  have hM := M.start w0
  unfold F_bytes_IndexByte at hF
  refine c_region ?_
  refine s_assign hE goes_none (by decide) rfl ?_; intro a hE
  refine c_fin ?_
  refine c_region ?_
  refine s_move hE goes_none (by decide) rfl ?_; intro a hE
  refine s_move hE goes_none (by decide) rfl ?_; intro a hE
  refine s_indexByte hE goes_none (by decide) rfl Try.func201 rfl (by decide) (by kernel_rfl) (by kernel_rfl) (hM.rd hv0_1) ?_; intro a hE
  refine s_assign hE goes_none (by decide) rfl ?_; intro a hE
  refine c_fin ?_
  have hr := Option.some.inj hF
  subst hr
  exact wp_ret (k_ret1 hE rfl (res_tmp hE rfl) ⟨_, rfl, rfl, hM.kept⟩)
noncomputable def L0_impl_areDifferent (p0 : (List UInt8)) (s5 : Int) : Option (Fl Int (Fl Unit Bool)) :=
  if (decide (s5 < (p0.length : Int))) = true then ((idx p0 s5).bind fun (x10 : UInt8) => (slc p0 (0 : Int) s5).bind fun (l13 : (List UInt8)) => (F_bytes_IndexByte l13 x10).bind fun (r16 : Int) => if (decide (r16 ≥ 0)) = true then (some (Fl.ex (Fl.ex false))) else (some (Fl.nx (wr (s5 + 1))))) else (some (Fl.ex (Fl.nx ())))
noncomputable def F_impl_areDifferent (p0 : (List UInt8)) : Option (Bool) :=
  (iter (L0_impl_areDifferent p0) 0 : Option (Fl Unit Bool)).bind fun (j1 : Fl Unit Bool) => j1.el (fun (s4 : Unit) => some true) (fun r => some r)
set_option maxRecDepth 20000 in
set_option maxHeartbeats 400000 in
theorem c_impl_areDifferent (w0 : World) (p0 : (List UInt8)) (v0_1 : Value) (hv0_1 : Ro w0 p0 [v0_1]) (r : Bool) (hF : F_impl_areDifferent p0 = some r) :
    Calls Try.prog 136 [v0_1].toArray w0 (fun en w' => ∃ v, en = .returned v ∧ (v = (vT r) ∧ Kept (Old w0) w0 w')) := by
  refine c_enter (n := 19) Try.func136 rfl rfl (Nat.le_of_ble_eq_true rfl) rfl ?_
  intro a hE
  have hM := M.start w0
  unfold F_impl_areDifferent at hF
  refine c_region ?_
  refine s_assign hE goes_none (by decide) rfl ?_; intro a hE
  refine c_fin ?_
  refine wp_seq ?_
  refine c_region ?_
  refine s_move hE goes_none (by decide) rfl ?_; intro a hE
  refine s_len hE goes_none (by decide) rfl Try.underlying24 (hM.rd hv0_1) ?_; intro a hE
  refine s_move hE goes_none (by decide) rfl ?_; intro a hE
  refine c_fin ?_
  obtain ⟨j1, hl2, hF3⟩ := bind_some hF
  refine c_cut (fun a w => ∃ s4 : Unit, j1 = Fl.nx s4 ∧ Env 19 a [] ∧ M (Old w0) w0 w []) ?_ ?_
  · skip
    refine wp_block ?_
    refine c_loop (fun (s5 : Int) a w => Env 19 a [(0, v0_1), (5, v0_1), (6, (vI (p0.length : Int))), (7, (vI s5))] ∧ M (Old w0) w0 w []) hl2 ⟨hE.sub ⟨rfl, rfl, rfl, rfl, trivial⟩, hM⟩ ?_
    rintro s5 a w ⟨hE, hM⟩ o8 hs6 hx7
    unfold L0_impl_areDifferent at hs6
    refine c_region ?_
    refine s_int hE goes_none (by decide) rfl rfl rfl ?_; intro a hE
    refine c_fin ?_
    refine wp_seq ?_
    refine c_cond hE rfl ?_ ?_
    · intro hb9
      have hs6 := ite_t hs6 hb9
      refine wp_skip ?_
      refine c_nx ?_
      refine wp_seq ?_
      refine wp_block ?_
      refine c_region ?_
      refine s_move hE goes_none (by decide) rfl ?_; intro a hE
      obtain ⟨x10, e11, hs6⟩ := bind_some hs6
      have hi12 := idx_some e11
      refine s_indexS hE goes_none (by decide) rfl rfl Try.underlying24 ty5 (hM.rd hv0_1) hi12.1 ?_; intro a hE
      refine s_load (v := (vB x10)) hE goes_none (by decide) rfl ty5 rfl (sl_atF (hM.rd hv0_1) hi12.2) ?_; intro a hE
      refine s_assign hE goes_none (by decide) rfl ?_; intro a hE
      refine s_assign hE goes_none (by decide) rfl ?_; intro a hE
      refine c_fin ?_
      refine c_region ?_
      refine s_move hE goes_none (by decide) rfl ?_; intro a hE
      refine s_move hE goes_none (by decide) rfl ?_; intro a hE
      obtain ⟨l13, e14, hs6⟩ := bind_some hs6
      refine s_slice hE goes_none (by decide) rfl rfl rfl rfl rfl Try.underlying24 ty5 (hM.rd hv0_1) e14 ?_; intro a hE
      have h15 : Rep.sat (Old w0) w0 l13 [(sliceV v0_1 ((0 : Int)).toNat (s5).toNat 1)] [] := ro_slice hv0_1 e14 -- ^
      refine s_move hE goes_none (by decide) rfl ?_; intro a hE
      obtain ⟨r16, e17, hs6⟩ := bind_some hs6
      refine s_call (vs := [(sliceV v0_1 ((0 : Int)).toNat (s5).toNat 1), (vB x10)]) hE goes_none (by decide) rfl cb187 (c_bytes_IndexByte _ l13 (sliceV v0_1 ((0 : Int)).toNat (s5).toNat 1) (hM.rdo h15) x10 r16 e17) ?_
      rintro v w a ⟨rfl, hK⟩ hE
      have hM := hM.keep hK
      refine s_int hE goes_none (by decide) rfl rfl rfl ?_; intro a hE
      refine c_fin ?_
      refine c_cond hE rfl ?_ ?_
      · intro hb18
        have hs6 := ite_t hs6 hb18
        refine c_region ?_
        refine s_assign hE goes_none (by decide) rfl ?_; intro a hE
        refine c_fin ?_
        have ht19 := hx7 _ (Option.some.inj hs6).symm
        subst ht19
        have hr := Option.some.inj hF3
        subst hr
        exact wp_ret (r_inb (r_then (r_then (r_inb (r_then (r_then (k_ret1 hE rfl (res_tmp hE rfl) ⟨_, rfl, rfl, hM.kept⟩)))))))
      · intro hb18
        have hs6 := ite_f hs6 hb18
        refine wp_skip ?_
        refine c_nb ?_
        refine c_nx ?_
        refine wp_region_lit ?_
        refine s_int hE goes_none (by decide) rfl rfl rfl ?_; intro a hE
        refine s_move hE goes_none (by decide) rfl ?_; intro a hE
        refine c_fin0 ?_
        refine c_mid ?_
        exact ⟨_, (Option.some.inj hs6).symm, hE.sub ⟨rfl, rfl, rfl, rfl, trivial⟩, hM⟩
    · intro hb9
      have hs6 := ite_f hs6 hb9
      refine wp_exit (e_then (e_then (e_eq ?_)))
      have ht20 := hx7 _ (Option.some.inj hs6).symm
      subst ht20
      refine c_mid ?_
      exact ⟨(), rfl, hE.sub trivial, hM⟩
  · skip
    rintro a w ⟨s4, ht, hE, hM⟩
    subst ht
    have hF3 := el_nx hF3
    refine c_nx ?_
    refine c_region ?_
    refine s_assign hE goes_none (by decide) rfl ?_; intro a hE
    refine c_fin ?_
    have hr := Option.some.inj hF3
    subst hr
    exact wp_ret (k_ret1 hE rfl (res_tmp hE rfl) ⟨_, rfl, rfl, hM.kept⟩)
noncomputable def F_impl_length_impl_Share (p0 : (List GShare)) : Option (Int) :=
  some (p0.length : Int)
set_option maxRecDepth 20000 in
set_option maxHeartbeats 400000 in
theorem c_impl_length_impl_Share (w0 : World) (p0 : (List GShare)) (v0_1 : Value) (hv0_1 : Ro w0 p0 [v0_1]) (r : Int) (hF : F_impl_length_impl_Share p0 = some r) :
    Calls Try.prog 137 [v0_1].toArray w0 (fun en w' => ∃ v, en = .returned v ∧ (v = (vI r) ∧ Kept (Old w0) w0 w')) := by
  refine c_enter (n := 5) Try.func137 rfl rfl (Nat.le_of_ble_eq_true rfl) rfl ?_
  intro a hE
  have hM := M.start w0
  unfold F_impl_length_impl_Share at hF
  refine c_region ?_
  refine s_assign hE goes_none (by decide) rfl ?_; intro a hE
  refine c_fin ?_
  refine c_region ?_
  refine s_move hE goes_none (by decide) rfl ?_; intro a hE
  refine s_len hE goes_none (by decide) rfl Try.underlying29 (hM.rd hv0_1) ?_; intro a hE
  refine s_assign hE goes_none (by decide) rfl ?_; intro a hE
  refine c_fin ?_
  have hr := Option.some.inj hF
  subst hr
  exact wp_ret (k_ret1 hE rfl (res_tmp hE rfl) ⟨_, rfl, rfl, hM.kept⟩)
noncomputable def F_impl_areEven_1 (p0 : GShare) (p1 : (List GShare)) : Option (Bool) :=
  ((idx p1 (0 : Int)).bind fun (x7 : GShare) => some ((p0.Data.length : Int) != (x7.Data.length : Int)) : Option (Bool)).bind fun (j3 : Bool) => some j3
set_option maxRecDepth 20000 in
set_option maxHeartbeats 400000 in
theorem c_impl_areEven_1 (w0 : World) (p0 : GShare) (v0_1 : Value) (hv0_1 : Ro w0 p0.Data [v0_1]) (pb1 : Nat) (p1 : (List GShare)) (v1_2 : Value) (hv1_2 : Ro w0 p1 [v1_2]) (hA1 : At w0 pb1 0 ([v1_2])) (hB1 : Old w0 pb1) (r : Bool) (hF : F_impl_areEven_1 p0 p1 = some r) :
    Calls Try.prog 188 [(Value.agg (cat [[(vB p0.Place)], [v0_1]]).toArray), (ptr pb1 0)].toArray w0 (fun en w' => ∃ v, en = .returned v ∧ (v = (vT r) ∧ Kept (Old w0) w0 w')) := by
  refine c_enter (n := 13) Try.func188 rfl rfl (Nat.le_of_ble_eq_true rfl) rfl ?_
  intro a hE
  have hM := M.start w0
  unfold F_impl_areEven_1 at hF
  refine c_region ?_
  refine s_box (cs := cat [[(vB p0.Place)], [v0_1]]) hE hM goes_none (by decide) rfl rfl ?_; intro b1 w a hM hE
  refine s_assign hE goes_none (by decide) rfl ?_; intro a hE
  refine c_fin ?_
  obtain ⟨j3, hl4, hF5⟩ := bind_some hF
  refine c_join (fun a w => Env 13 a [(3, (vT j3))] ∧ M (Old w0) w0 w []) ?_ ?_
  · skip
    obtain ⟨x7, e8, hl4⟩ := bind_some hl4
    have hi9 := idx_some e8
    obtain ⟨cs10, hs11, hA12⟩ := sl_atRo hv1_2 hi9.2 -- ^
    obtain ⟨u13, rfl, h14⟩ := un_GShare hs11 -- ^
    refine c_draw (n := 13) (hd := [_, _, _, _, _, _, _, _, _, _]) (tl := []) hmix rfl rfl [4, 5, 6, 7, 8, 9, 10, 11, 12, 3] (by decide) (fun w => M (Old w0) w0 w [raw b1 (cat [[(vB p0.Place)], [v0_1]])]) (fun j => ([fun v _ => v = (ptr b1 (0 + 1)), fun v _ => v = v0_1, fun v _ => v = (vI (p0.Data.length : Int)), fun v _ => v = v1_2, fun v _ => v = (ptr (sb v1_2) (so v1_2 + ((0 : Int)).toNat * 2)), fun v _ => v = (ptr (sb v1_2) (so v1_2 + ((0 : Int)).toNat * 2 + 1)), fun v _ => v = u13, fun v _ => v = (vI (x7.Data.length : Int)), fun v _ => v = (vT ((p0.Data.length : Int) != (x7.Data.length : Int))), fun v _ => v = (vT ((p0.Data.length : Int) != (x7.Data.length : Int)))] : List (Value → World → Prop)).getD j (fun _ _ => True)) (fun _ _ h hk => h.keep hk) (gup (gupE (gupE (gupE (gupE (gupE (gupE (gupE (gupE (gupE (gupE gupN))))))))))) hE hM.drew (steps_of (steps_cons ?_ (steps_cons ?_ (steps_cons ?_ (steps_cons ?_ (steps_cons ?_ (steps_cons ?_ (steps_cons ?_ (steps_cons ?_ (steps_cons ?_ (steps_cons ?_ steps_nil))))))))))) ?_
    · intro a w ux6 hE hM hp
      refine s_fieldAddr hE goes_none (by decide) rfl (fd26_1) ?_; intro a hE
      exact ⟨Kept.refl _ _, _, _, rfl, hE, rfl⟩
    · intro a w ux6 hE hM hp
      have f0 : ux6 0 = (ptr b1 (0 + 1)) := hp 0 _ rfl rfl
      refine s_load (v := v0_1) hE goes_none (by decide) (lk rfl f0) ty24 rfl (At.cat (pre := [[(vB p0.Place)]]) (seg := [v0_1]) (post := []) (hM.rawAt (pre := [])) (cl1 (n := 1) (m := 0) rfl cl0)) ?_; intro a hE
      exact ⟨Kept.refl _ _, _, _, rfl, hE, rfl⟩
    · intro a w ux6 hE hM hp
      have f1 : ux6 1 = v0_1 := hp 0 _ rfl rfl
      refine s_len hE goes_none (by decide) (lk rfl f1) Try.underlying24 (hM.rd hv0_1) ?_; intro a hE
      exact ⟨Kept.refl _ _, _, _, rfl, hE, rfl⟩
    · intro a w ux6 hE hM hp
      refine s_load (v := v1_2) hE goes_none (by decide) rfl ty29 rfl (hM.atk hA1 hB1) ?_; intro a hE
      exact ⟨Kept.refl _ _, _, _, rfl, hE, rfl⟩
    · intro a w ux6 hE hM hp
      have f3 : ux6 3 = v1_2 := hp 0 _ rfl rfl
      refine s_indexS hE goes_none (by decide) (lk rfl f3) rfl Try.underlying29 ty26 (hM.rd hv1_2) hi9.1 ?_; intro a hE
      exact ⟨Kept.refl _ _, _, _, rfl, hE, rfl⟩
    · intro a w ux6 hE hM hp
      have f4 : ux6 4 = (ptr (sb v1_2) (so v1_2 + ((0 : Int)).toNat * 2)) := hp 0 _ rfl rfl
      refine s_fieldAddr hE goes_none (by decide) (lk rfl f4) (fd26_1) ?_; intro a hE
      exact ⟨Kept.refl _ _, _, _, rfl, hE, rfl⟩
    · intro a w ux6 hE hM hp
      have f5 : ux6 5 = (ptr (sb v1_2) (so v1_2 + ((0 : Int)).toNat * 2 + 1)) := hp 0 _ rfl rfl
      refine s_load (v := u13) hE goes_none (by decide) (lk rfl f5) ty24 rfl (At.cat (pre := [[(vB x7.Place)]]) (seg := [u13]) (post := []) (hM.atk hA12 (sl_blk hv1_2 hi9.2)) (cl1 (n := 1) (m := 0) rfl cl0)) ?_; intro a hE
      exact ⟨Kept.refl _ _, _, _, rfl, hE, rfl⟩
    · intro a w ux6 hE hM hp
      have f6 : ux6 6 = u13 := hp 0 _ rfl rfl
      refine s_len hE goes_none (by decide) (lk rfl f6) Try.underlying24 (hM.rd h14) ?_; intro a hE
      exact ⟨Kept.refl _ _, _, _, rfl, hE, rfl⟩
    · intro a w ux6 hE hM hp
      have f2 : ux6 2 = (vI (p0.Data.length : Int)) := hp 0 _ rfl rfl
      have f7 : ux6 7 = (vI (x7.Data.length : Int)) := hp 1 _ rfl rfl
      refine s_int hE goes_none (by decide) (lk rfl f2) (lk rfl f7) rfl ?_; intro a hE
      exact ⟨Kept.refl _ _, _, _, rfl, hE, rfl⟩
    · intro a w ux6 hE hM hp
      have f8 : ux6 8 = (vT ((p0.Data.length : Int) != (x7.Data.length : Int))) := hp 0 _ rfl rfl
      refine s_assign hE goes_none (by decide) (lk rfl f8) ?_; intro a hE
      exact ⟨Kept.refl _ _, _, _, rfl, hE, rfl⟩
    · intro a w ux6 hE hM hg
      have f0 : ux6 0 = (ptr b1 (0 + 1)) := hg 0 (by decide)
      have f1 : ux6 1 = v0_1 := hg 1 (by decide)
      have f2 : ux6 2 = (vI (p0.Data.length : Int)) := hg 2 (by decide)
      have f3 : ux6 3 = v1_2 := hg 3 (by decide)
      have f4 : ux6 4 = (ptr (sb v1_2) (so v1_2 + ((0 : Int)).toNat * 2)) := hg 4 (by decide)
      have f5 : ux6 5 = (ptr (sb v1_2) (so v1_2 + ((0 : Int)).toNat * 2 + 1)) := hg 5 (by decide)
      have f6 : ux6 6 = u13 := hg 6 (by decide)
      have f7 : ux6 7 = (vI (x7.Data.length : Int)) := hg 7 (by decide)
      have f8 : ux6 8 = (vT ((p0.Data.length : Int) != (x7.Data.length : Int))) := hg 8 (by decide)
      have f9 : ux6 9 = (vT ((p0.Data.length : Int) != (x7.Data.length : Int))) := hg 9 (by decide)
      have hE := hE.sub (e' := [(4, (ptr b1 (0 + 1))), (5, v0_1), (6, (vI (p0.Data.length : Int))), (7, v1_2), (8, (ptr (sb v1_2) (so v1_2 + ((0 : Int)).toNat * 2))), (9, (ptr (sb v1_2) (so v1_2 + ((0 : Int)).toNat * 2 + 1))), (10, u13), (11, (vI (x7.Data.length : Int))), (12, (vT ((p0.Data.length : Int) != (x7.Data.length : Int)))), (3, (vT ((p0.Data.length : Int) != (x7.Data.length : Int)))), (0, (Value.agg (cat [[(vB p0.Place)], [v0_1]]).toArray)), (1, (ptr pb1 0)), (2, (ptr b1 0))]) ⟨lk rfl f0, lk rfl f1, lk rfl f2, lk rfl f3, lk rfl f4, lk rfl f5, lk rfl f6, lk rfl f7, lk rfl f8, lk rfl f9, rfl, rfl, rfl, trivial⟩
      refine c_fin0 ?_
      have ht15 := Option.some.inj hl4
      subst ht15
      refine c_mid ?_
      have hM := M.fst (l := []) hM
      exact ⟨hE.sub ⟨rfl, trivial⟩, hM⟩
  · skip
    rintro a w ⟨hE, hM⟩
    have hr := Option.some.inj hF5
    subst hr
    exact wp_ret (k_ret1 hE rfl (res_tmp hE rfl) ⟨_, rfl, rfl, hM.kept⟩)
noncomputable def F_impl_areEven (p0 : (List GShare)) : Option (Bool) :=
  (F_slices_ContainsFunc_impl_Share_impl_Share p0 (fun z0 => F_impl_areEven_1 z0 p0)).bind fun (r3 : Bool) => some (!r3)
set_option maxRecDepth 20000 in
set_option maxHeartbeats 400000 in
theorem c_impl_areEven (w0 : World) (p0 : (List GShare)) (v0_1 : Value) (hv0_1 : Ro w0 p0 [v0_1]) (r : Bool) (hF : F_impl_areEven p0 = some r) :
    Calls Try.prog 138 [v0_1].toArray w0 (fun en w' => ∃ v, en = .returned v ∧ (v = (vT r) ∧ Kept (Old w0) w0 w')) := by
  refine c_enter (n := 7) Try.func138 rfl rfl (Nat.le_of_ble_eq_true rfl) rfl ?_
  intro a hE
  have hM := M.start w0
  unfold F_impl_areEven at hF
  refine c_region ?_
  refine s_box (cs := [v0_1]) hE hM goes_none (by decide) rfl (sl_cells (hM.rd hv0_1)) ?_; intro b1 w a hM hE
  refine s_assign hE goes_none (by decide) rfl ?_; intro a hE
  refine c_fin ?_
  refine c_region ?_
  refine s_load (v := v0_1) hE goes_none (by decide) rfl ty29 rfl (hM.rawAt (pre := [])) ?_; intro a hE
  refine s_makeFunc hE goes_none (by decide) rfl ?_; intro a hE
  obtain ⟨r3, e4, hF⟩ := bind_some hF
  refine s_call (vs := [v0_1, (Value.func (.func 188) #[] [(ptr b1 0)].toArray)]) hE goes_none (by decide) rfl cb133 (c_slices_ContainsFunc_impl_Share_impl_Share _ p0 v0_1 (hM.rdo hv0_1) (fun z0 => F_impl_areEven_1 z0 p0) 188 [(ptr b1 0)] cb188 (fun w2 hk2 z0 zu0_0 zh0_0 zr zhr => c_impl_areEven_1 w2 z0 zu0_0 zh0_0 b1 p0 v0_1 (ro_later (hM.rdo hv0_1) hk2) (at_later (hM.rawAt (pre := [])) hk2 (by simp [cat])) (at_lt_later (hM.rawAt (pre := [])) hk2 (by simp [cat])) zr zhr) r3 e4) ?_
  rintro v w a ⟨rfl, hK⟩ hE
  have hM := hM.keep hK
  refine s_not hE goes_none (by decide) rfl ?_; intro a hE
  refine s_assign hE goes_none (by decide) rfl ?_; intro a hE
  refine c_fin ?_
  have hr := Option.some.inj hF
  subst hr
  have hM := M.fst (l := []) hM
  exact wp_ret (k_ret1 hE rfl (res_tmp hE rfl) ⟨_, rfl, rfl, hM.kept⟩)
noncomputable def F_impl_checkShares (p0 : Int) (p1 : (List GShare)) (p2 : Int) : Option (Int) :=
  ((F_impl_IsField p0).bind fun (r4 : Bool) => if (!r4) = true then (some true) else ((F_slices_ContainsFunc_impl_Share_impl_Share p1 (fun z0 => F_impl_checkShares_1 z0)).bind fun (r8 : Bool) => if r8 = true then (some true) else ((F_impl_placesOf p1).bind fun (r12 : (List UInt8)) => (F_impl_areDifferent r12).bind fun (r15 : Bool) => some (!r15))) : Option (Bool)).bind fun (j1 : Bool) => if j1 = true then (some 1) else (((F_impl_length_impl_Share p1).bind fun (r22 : Int) => (F_impl_inRange r22 1 12).bind fun (r24 : Bool) => if (!r24) = true then (some true) else ((F_impl_areEven p1).bind fun (r28 : Bool) => if (!r28) = true then (some true) else ((F_impl_inRange p2 1 8).bind fun (r32 : Bool) => some (!r32))) : Option (Bool)).bind fun (j19 : Bool) => if j19 = true then (some 2) else (some 0))
set_option maxRecDepth 20000 in
set_option maxHeartbeats 400000 in
theorem c_impl_checkShares (w0 : World) (p0 : Int) (p1 : (List GShare)) (v1_1 : Value) (hv1_1 : Ro w0 p1 [v1_1]) (p2 : Int) (r : Int) (hF : F_impl_checkShares p0 p1 p2 = some r) :
    Calls Try.prog 70 [(vI p0), v1_1, (vI p2)].toArray w0 (fun en w' => ∃ v, en = .returned v ∧ (v = (vI r) ∧ Kept (Old w0) w0 w')) := by
  refine c_enter (n := 36) Try.func70 rfl rfl (Nat.le_of_ble_eq_true rfl) rfl ?_
  intro a hE
  have hM := M.start w0
  unfold F_impl_checkShares at hF
  refine c_region ?_
  refine s_assign hE goes_none (by decide) rfl ?_; intro a hE
  refine c_fin ?_
  refine wp_seq ?_
  refine wp_block ?_
  obtain ⟨j1, hl2, hF3⟩ := bind_some hF
  refine c_join (fun a w => Env 36 a [(1, v1_1), (2, (vI p2)), (7, (vT j1))] ∧ M (Old w0) w0 w []) ?_ ?_
  · skip
    refine wp_region_lit ?_
    refine s_move hE goes_none (by decide) rfl ?_; intro a hE
    obtain ⟨r4, e5, hl2⟩ := bind_some hl2
    refine s_call (vs := [(vI p0)]) hE goes_none (by decide) rfl cb132 (c_impl_IsField _ p0 r4 e5) ?_
    rintro v w a ⟨rfl, hK⟩ hE
    have hM := hM.keep hK
    refine s_not hE goes_none (by decide) rfl ?_; intro a hE
    refine s_move hE goes_none (by decide) rfl ?_; intro a hE
    refine splitB (!r4) (fun hb6 => ?_) (fun hb6 => ?_)
    · have hl2 := ite_t hl2 hb6
      refine s_skip hE rfl (lkb rfl hb6) rfl (by decide) ?_; intro a hE
      refine s_skip hE rfl (lkb rfl hb6) rfl (by decide) ?_; intro a hE
      refine s_pickT hE goes_none (by decide) (lkb rfl hb6) rfl ?_; intro a hE
      refine s_move hE goes_none (by decide) rfl ?_; intro a hE
      refine s_skip hE rfl rfl rfl (by decide) ?_; intro a hE
      refine s_skip hE rfl rfl rfl (by decide) ?_; intro a hE
      refine s_skip hE rfl rfl rfl (by decide) ?_; intro a hE
      refine s_skip hE rfl rfl rfl (by decide) ?_; intro a hE
      refine s_pickT hE goes_none (by decide) rfl rfl ?_; intro a hE
      refine s_assign hE goes_none (by decide) rfl ?_; intro a hE
      refine c_fin0 ?_
      have ht7 := Option.some.inj hl2
      subst ht7
      refine c_mid ?_
      exact ⟨hE.sub ⟨rfl, rfl, rfl, trivial⟩, hM⟩
    · have hl2 := ite_f hl2 hb6
      refine s_move hE (goes_yes hE rfl (lkb rfl hb6)) (by decide) rfl ?_; intro a hE
      obtain ⟨r8, e9, hl2⟩ := bind_some hl2
      refine s_call (vs := [v1_1, (Value.func (.func 134) #[] [].toArray)]) hE (goes_yes hE rfl (lkb rfl hb6)) (by decide) rfl cb133 (c_slices_ContainsFunc_impl_Share_impl_Share _ p1 v1_1 (hM.rdo hv1_1) (fun z0 => F_impl_checkShares_1 z0) 134 [] cb134 (fun w2 hk2 z0 zu0_0 zh0_0 zr zhr => c_impl_checkShares_1 w2 z0 zu0_0 zh0_0 zr zhr) r8 e9) ?_
      rintro v w a ⟨rfl, hK⟩ hE
      have hM := hM.keep hK
      refine s_pickF hE goes_none (by decide) (lkb rfl hb6) rfl ?_; intro a hE
      refine s_move hE goes_none (by decide) rfl ?_; intro a hE
      refine splitB r8 (fun hb10 => ?_) (fun hb10 => ?_)
      · have hl2 := ite_t hl2 hb10
        refine s_skip hE rfl (lkb rfl hb10) rfl (by decide) ?_; intro a hE
        refine s_skip hE rfl (lkb rfl hb10) rfl (by decide) ?_; intro a hE
        refine s_skip hE rfl (lkb rfl hb10) rfl (by decide) ?_; intro a hE
        refine s_skip hE rfl (lkb rfl hb10) rfl (by decide) ?_; intro a hE
        refine s_pickT hE goes_none (by decide) (lkb rfl hb10) rfl ?_; intro a hE
        refine s_assign hE goes_none (by decide) rfl ?_; intro a hE
        refine c_fin0 ?_
        have ht11 := Option.some.inj hl2
        subst ht11
        refine c_mid ?_
        exact ⟨hE.sub ⟨rfl, rfl, rfl, trivial⟩, hM⟩
      · have hl2 := ite_f hl2 hb10
        refine s_move hE (goes_yes hE rfl (lkb rfl hb10)) (by decide) rfl ?_; intro a hE
        obtain ⟨r12, e13, hl2⟩ := bind_some hl2
        refine s_call (vs := [v1_1]) hE (goes_yes hE rfl (lkb rfl hb10)) (by decide) rfl cb84 (c_impl_placesOf _ p1 v1_1 (hM.rdo hv1_1) r12 e13) ?_
        rintro u14 w a ⟨_, rfl, hFr, hK⟩ hE
        have hM := hM.add hK hFr
        obtain ⟨r15, e16, hl2⟩ := bind_some hl2
        refine s_call (vs := [u14]) hE (goes_yes hE rfl (lkb rfl hb10)) (by decide) rfl cb136 (c_impl_areDifferent _ r12 u14 (hM.sl (pre := []) noB) r15 e16) ?_
        rintro v w a ⟨rfl, hK⟩ hE
        have hM := hM.keep hK
        refine s_not hE (goes_yes hE rfl (lkb rfl hb10)) (by decide) rfl ?_; intro a hE
        refine s_pickF hE goes_none (by decide) (lkb rfl hb10) rfl ?_; intro a hE
        refine s_assign hE goes_none (by decide) rfl ?_; intro a hE
        refine c_fin0 ?_
        have ht17 := Option.some.inj hl2
        subst ht17
        refine c_mid ?_
        have hM := M.fst (l := []) hM
        exact ⟨hE.sub ⟨rfl, rfl, rfl, trivial⟩, hM⟩
  · skip
    rintro a w ⟨hE, hM⟩
    refine c_cond hE rfl ?_ ?_
    · intro hb18
      have hF3 := ite_t hF3 hb18
      refine c_region ?_
      refine s_assign hE goes_none (by decide) rfl ?_; intro a hE
      refine c_fin ?_
      have hr := Option.some.inj hF3
      subst hr
      exact wp_ret (r_inb (r_then (k_ret1 hE rfl (res_tmp hE rfl) ⟨_, rfl, rfl, hM.kept⟩)))
    · intro hb18
      have hF3 := ite_f hF3 hb18
      obtain ⟨j19, hl20, hF21⟩ := bind_some hF3
      refine c_join (fun a w => Env 36 a [(21, (vT j19))] ∧ M (Old w0) w0 w []) ?_ ?_
      · skip
        refine wp_region_lit ?_
        refine s_move hE goes_none (by decide) rfl ?_; intro a hE
        obtain ⟨r22, e23, hl20⟩ := bind_some hl20
        refine s_call (vs := [v1_1]) hE goes_none (by decide) rfl cb137 (c_impl_length_impl_Share _ p1 v1_1 (hM.rdo hv1_1) r22 e23) ?_
        rintro v w a ⟨rfl, hK⟩ hE
        have hM := hM.keep hK
        obtain ⟨r24, e25, hl20⟩ := bind_some hl20
        refine s_call (vs := [(vI r22), (vI 1), (vI 12)]) hE goes_none (by decide) rfl cb93 (c_impl_inRange _ r22 1 12 r24 e25) ?_
        rintro v w a ⟨rfl, hK⟩ hE
        have hM := hM.keep hK
        refine s_not hE goes_none (by decide) rfl ?_; intro a hE
        refine s_move hE goes_none (by decide) rfl ?_; intro a hE
        refine splitB (!r24) (fun hb26 => ?_) (fun hb26 => ?_)
        · have hl20 := ite_t hl20 hb26
          refine s_skip hE rfl (lkb rfl hb26) rfl (by decide) ?_; intro a hE
          refine s_skip hE rfl (lkb rfl hb26) rfl (by decide) ?_; intro a hE
          refine s_skip hE rfl (lkb rfl hb26) rfl (by decide) ?_; intro a hE
          refine s_pickT hE goes_none (by decide) (lkb rfl hb26) rfl ?_; intro a hE
          refine s_move hE goes_none (by decide) rfl ?_; intro a hE
          refine s_skip hE rfl rfl rfl (by decide) ?_; intro a hE
          refine s_skip hE rfl rfl rfl (by decide) ?_; intro a hE
          refine s_skip hE rfl rfl rfl (by decide) ?_; intro a hE
          refine s_pickT hE goes_none (by decide) rfl rfl ?_; intro a hE
          refine s_assign hE goes_none (by decide) rfl ?_; intro a hE
          refine c_fin0 ?_
          have ht27 := Option.some.inj hl20
          subst ht27
          refine c_mid ?_
          exact ⟨hE.sub ⟨rfl, trivial⟩, hM⟩
        · have hl20 := ite_f hl20 hb26
          refine s_move hE (goes_yes hE rfl (lkb rfl hb26)) (by decide) rfl ?_; intro a hE
          obtain ⟨r28, e29, hl20⟩ := bind_some hl20
          refine s_call (vs := [v1_1]) hE (goes_yes hE rfl (lkb rfl hb26)) (by decide) rfl cb138 (c_impl_areEven _ p1 v1_1 (hM.rdo hv1_1) r28 e29) ?_
          rintro v w a ⟨rfl, hK⟩ hE
          have hM := hM.keep hK
          refine s_not hE (goes_yes hE rfl (lkb rfl hb26)) (by decide) rfl ?_; intro a hE
          refine s_pickF hE goes_none (by decide) (lkb rfl hb26) rfl ?_; intro a hE
          refine s_move hE goes_none (by decide) rfl ?_; intro a hE
          refine splitB (!r28) (fun hb30 => ?_) (fun hb30 => ?_)
          · have hl20 := ite_t hl20 hb30
            refine s_skip hE rfl (lkb rfl hb30) rfl (by decide) ?_; intro a hE
            refine s_skip hE rfl (lkb rfl hb30) rfl (by decide) ?_; intro a hE
            refine s_skip hE rfl (lkb rfl hb30) rfl (by decide) ?_; intro a hE
            refine s_pickT hE goes_none (by decide) (lkb rfl hb30) rfl ?_; intro a hE
            refine s_assign hE goes_none (by decide) rfl ?_; intro a hE
            refine c_fin0 ?_
            have ht31 := Option.some.inj hl20
            subst ht31
            refine c_mid ?_
            exact ⟨hE.sub ⟨rfl, trivial⟩, hM⟩
          · have hl20 := ite_f hl20 hb30
            refine s_move hE (goes_yes hE rfl (lkb rfl hb30)) (by decide) rfl ?_; intro a hE
            obtain ⟨r32, e33, hl20⟩ := bind_some hl20
            refine s_call (vs := [(vI p2), (vI 1), (vI 8)]) hE (goes_yes hE rfl (lkb rfl hb30)) (by decide) rfl cb93 (c_impl_inRange _ p2 1 8 r32 e33) ?_
            rintro v w a ⟨rfl, hK⟩ hE
            have hM := hM.keep hK
            refine s_not hE (goes_yes hE rfl (lkb rfl hb30)) (by decide) rfl ?_; intro a hE
            refine s_pickF hE goes_none (by decide) (lkb rfl hb30) rfl ?_; intro a hE
            refine s_assign hE goes_none (by decide) rfl ?_; intro a hE
            refine c_fin0 ?_
            have ht34 := Option.some.inj hl20
            subst ht34
            refine c_mid ?_
            exact ⟨hE.sub ⟨rfl, trivial⟩, hM⟩
      · skip
        rintro a w ⟨hE, hM⟩
        refine c_cond hE rfl ?_ ?_
        · intro hb35
          have hF21 := ite_t hF21 hb35
          refine c_region ?_
          refine s_assign hE goes_none (by decide) rfl ?_; intro a hE
          refine c_fin ?_
          have hr := Option.some.inj hF21
          subst hr
          exact wp_ret (r_inb (r_then (k_ret1 hE rfl (res_tmp hE rfl) ⟨_, rfl, rfl, hM.kept⟩)))
        · intro hb35
          have hF21 := ite_f hF21 hb35
          refine wp_skip ?_
          refine c_nb ?_
          refine c_nx ?_
          refine c_region ?_
          refine s_assign hE goes_none (by decide) rfl ?_; intro a hE
          refine c_fin ?_
          have hr := Option.some.inj hF21
          subst hr
          exact wp_ret (k_ret1 hE rfl (res_tmp hE rfl) ⟨_, rfl, rfl, hM.kept⟩)
noncomputable def F_math_bits_OnesCount64 (p0 : Int) : Option (Int) :=
  some (andI (IntKind.i64.wrap (IntKind.u64.wrap ((IntKind.u64.wrap ((IntKind.u64.wrap ((wru (BitVec.ofInt 64 (IntKind.u64.wrap ((shrI (IntKind.u64.wrap ((wru (BitVec.ofInt 64 (shrI (IntKind.u64.wrap ((wru (BitVec.ofInt 64 (shrI p0 1) &&& BitVec.ofInt 64 6148914691236517205).toNat) + (wru (BitVec.ofInt 64 p0 &&& BitVec.ofInt 64 6148914691236517205).toNat))) 2) &&& BitVec.ofInt 64 3689348814741910323).toNat) + (wru (BitVec.ofInt 64 (IntKind.u64.wrap ((wru (BitVec.ofInt 64 (shrI p0 1) &&& BitVec.ofInt 64 6148914691236517205).toNat) + (wru (BitVec.ofInt 64 p0 &&& BitVec.ofInt 64 6148914691236517205).toNat))) &&& BitVec.ofInt 64 3689348814741910323).toNat))) 4) + (IntKind.u64.wrap ((wru (BitVec.ofInt 64 (shrI (IntKind.u64.wrap ((wru (BitVec.ofInt 64 (shrI p0 1) &&& BitVec.ofInt 64 6148914691236517205).toNat) + (wru (BitVec.ofInt 64 p0 &&& BitVec.ofInt 64 6148914691236517205).toNat))) 2) &&& BitVec.ofInt 64 3689348814741910323).toNat) + (wru (BitVec.ofInt 64 (IntKind.u64.wrap ((wru (BitVec.ofInt 64 (shrI p0 1) &&& BitVec.ofInt 64 6148914691236517205).toNat) + (wru (BitVec.ofInt 64 p0 &&& BitVec.ofInt 64 6148914691236517205).toNat))) &&& BitVec.ofInt 64 3689348814741910323).toNat))))) &&& BitVec.ofInt 64 1085102592571150095).toNat) + (shrI (wru (BitVec.ofInt 64 (IntKind.u64.wrap ((shrI (IntKind.u64.wrap ((wru (BitVec.ofInt 64 (shrI (IntKind.u64.wrap ((wru (BitVec.ofInt 64 (shrI p0 1) &&& BitVec.ofInt 64 6148914691236517205).toNat) + (wru (BitVec.ofInt 64 p0 &&& BitVec.ofInt 64 6148914691236517205).toNat))) 2) &&& BitVec.ofInt 64 3689348814741910323).toNat) + (wru (BitVec.ofInt 64 (IntKind.u64.wrap ((wru (BitVec.ofInt 64 (shrI p0 1) &&& BitVec.ofInt 64 6148914691236517205).toNat) + (wru (BitVec.ofInt 64 p0 &&& BitVec.ofInt 64 6148914691236517205).toNat))) &&& BitVec.ofInt 64 3689348814741910323).toNat))) 4) + (IntKind.u64.wrap ((wru (BitVec.ofInt 64 (shrI (IntKind.u64.wrap ((wru (BitVec.ofInt 64 (shrI p0 1) &&& BitVec.ofInt 64 6148914691236517205).toNat) + (wru (BitVec.ofInt 64 p0 &&& BitVec.ofInt 64 6148914691236517205).toNat))) 2) &&& BitVec.ofInt 64 3689348814741910323).toNat) + (wru (BitVec.ofInt 64 (IntKind.u64.wrap ((wru (BitVec.ofInt 64 (shrI p0 1) &&& BitVec.ofInt 64 6148914691236517205).toNat) + (wru (BitVec.ofInt 64 p0 &&& BitVec.ofInt 64 6148914691236517205).toNat))) &&& BitVec.ofInt 64 3689348814741910323).toNat))))) &&& BitVec.ofInt 64 1085102592571150095).toNat) 8))) + (shrI (IntKind.u64.wrap ((wru (BitVec.ofInt 64 (IntKind.u64.wrap ((shrI (IntKind.u64.wrap ((wru (BitVec.ofInt 64 (shrI (IntKind.u64.wrap ((wru (BitVec.ofInt 64 (shrI p0 1) &&& BitVec.ofInt 64 6148914691236517205).toNat) + (wru (BitVec.ofInt 64 p0 &&& BitVec.ofInt 64 6148914691236517205).toNat))) 2) &&& BitVec.ofInt 64 3689348814741910323).toNat) + (wru (BitVec.ofInt 64 (IntKind.u64.wrap ((wru (BitVec.ofInt 64 (shrI p0 1) &&& BitVec.ofInt 64 6148914691236517205).toNat) + (wru (BitVec.ofInt 64 p0 &&& BitVec.ofInt 64 6148914691236517205).toNat))) &&& BitVec.ofInt 64 3689348814741910323).toNat))) 4) + (IntKind.u64.wrap ((wru (BitVec.ofInt 64 (shrI (IntKind.u64.wrap ((wru (BitVec.ofInt 64 (shrI p0 1) &&& BitVec.ofInt 64 6148914691236517205).toNat) + (wru (BitVec.ofInt 64 p0 &&& BitVec.ofInt 64 6148914691236517205).toNat))) 2) &&& BitVec.ofInt 64 3689348814741910323).toNat) + (wru (BitVec.ofInt 64 (IntKind.u64.wrap ((wru (BitVec.ofInt 64 (shrI p0 1) &&& BitVec.ofInt 64 6148914691236517205).toNat) + (wru (BitVec.ofInt 64 p0 &&& BitVec.ofInt 64 6148914691236517205).toNat))) &&& BitVec.ofInt 64 3689348814741910323).toNat))))) &&& BitVec.ofInt 64 1085102592571150095).toNat) + (shrI (wru (BitVec.ofInt 64 (IntKind.u64.wrap ((shrI (IntKind.u64.wrap ((wru (BitVec.ofInt 64 (shrI (IntKind.u64.wrap ((wru (BitVec.ofInt 64 (shrI p0 1) &&& BitVec.ofInt 64 6148914691236517205).toNat) + (wru (BitVec.ofInt 64 p0 &&& BitVec.ofInt 64 6148914691236517205).toNat))) 2) &&& BitVec.ofInt 64 3689348814741910323).toNat) + (wru (BitVec.ofInt 64 (IntKind.u64.wrap ((wru (BitVec.ofInt 64 (shrI p0 1) &&& BitVec.ofInt 64 6148914691236517205).toNat) + (wru (BitVec.ofInt 64 p0 &&& BitVec.ofInt 64 6148914691236517205).toNat))) &&& BitVec.ofInt 64 3689348814741910323).toNat))) 4) + (IntKind.u64.wrap ((wru (BitVec.ofInt 64 (shrI (IntKind.u64.wrap ((wru (BitVec.ofInt 64 (shrI p0 1) &&& BitVec.ofInt 64 6148914691236517205).toNat) + (wru (BitVec.ofInt 64 p0 &&& BitVec.ofInt 64 6148914691236517205).toNat))) 2) &&& BitVec.ofInt 64 3689348814741910323).toNat) + (wru (BitVec.ofInt 64 (IntKind.u64.wrap ((wru (BitVec.ofInt 64 (shrI p0 1) &&& BitVec.ofInt 64 6148914691236517205).toNat) + (wru (BitVec.ofInt 64 p0 &&& BitVec.ofInt 64 6148914691236517205).toNat))) &&& BitVec.ofInt 64 3689348814741910323).toNat))))) &&& BitVec.ofInt 64 1085102592571150095).toNat) 8))) 16))) + (shrI (IntKind.u64.wrap ((IntKind.u64.wrap ((wru (BitVec.ofInt 64 (IntKind.u64.wrap ((shrI (IntKind.u64.wrap ((wru (BitVec.ofInt 64 (shrI (IntKind.u64.wrap ((wru (BitVec.ofInt 64 (shrI p0 1) &&& BitVec.ofInt 64 6148914691236517205).toNat) + (wru (BitVec.ofInt 64 p0 &&& BitVec.ofInt 64 6148914691236517205).toNat))) 2) &&& BitVec.ofInt 64 3689348814741910323).toNat) + (wru (BitVec.ofInt 64 (IntKind.u64.wrap ((wru (BitVec.ofInt 64 (shrI p0 1) &&& BitVec.ofInt 64 6148914691236517205).toNat) + (wru (BitVec.ofInt 64 p0 &&& BitVec.ofInt 64 6148914691236517205).toNat))) &&& BitVec.ofInt 64 3689348814741910323).toNat))) 4) + (IntKind.u64.wrap ((wru (BitVec.ofInt 64 (shrI (IntKind.u64.wrap ((wru (BitVec.ofInt 64 (shrI p0 1) &&& BitVec.ofInt 64 6148914691236517205).toNat) + (wru (BitVec.ofInt 64 p0 &&& BitVec.ofInt 64 6148914691236517205).toNat))) 2) &&& BitVec.ofInt 64 3689348814741910323).toNat) + (wru (BitVec.ofInt 64 (IntKind.u64.wrap ((wru (BitVec.ofInt 64 (shrI p0 1) &&& BitVec.ofInt 64 6148914691236517205).toNat) + (wru (BitVec.ofInt 64 p0 &&& BitVec.ofInt 64 6148914691236517205).toNat))) &&& BitVec.ofInt 64 3689348814741910323).toNat))))) &&& BitVec.ofInt 64 1085102592571150095).toNat) + (shrI (wru (BitVec.ofInt 64 (IntKind.u64.wrap ((shrI (IntKind.u64.wrap ((wru (BitVec.ofInt 64 (shrI (IntKind.u64.wrap ((wru (BitVec.ofInt 64 (shrI p0 1) &&& BitVec.ofInt 64 6148914691236517205).toNat) + (wru (BitVec.ofInt 64 p0 &&& BitVec.ofInt 64 6148914691236517205).toNat))) 2) &&& BitVec.ofInt 64 3689348814741910323).toNat) + (wru (BitVec.ofInt 64 (IntKind.u64.wrap ((wru (BitVec.ofInt 64 (shrI p0 1) &&& BitVec.ofInt 64 6148914691236517205).toNat) + (wru (BitVec.ofInt 64 p0 &&& BitVec.ofInt 64 6148914691236517205).toNat))) &&& BitVec.ofInt 64 3689348814741910323).toNat))) 4) + (IntKind.u64.wrap ((wru (BitVec.ofInt 64 (shrI (IntKind.u64.wrap ((wru (BitVec.ofInt 64 (shrI p0 1) &&& BitVec.ofInt 64 6148914691236517205).toNat) + (wru (BitVec.ofInt 64 p0 &&& BitVec.ofInt 64 6148914691236517205).toNat))) 2) &&& BitVec.ofInt 64 3689348814741910323).toNat) + (wru (BitVec.ofInt 64 (IntKind.u64.wrap ((wru (BitVec.ofInt 64 (shrI p0 1) &&& BitVec.ofInt 64 6148914691236517205).toNat) + (wru (BitVec.ofInt 64 p0 &&& BitVec.ofInt 64 6148914691236517205).toNat))) &&& BitVec.ofInt 64 3689348814741910323).toNat))))) &&& BitVec.ofInt 64 1085102592571150095).toNat) 8))) + (shrI (IntKind.u64.wrap ((wru (BitVec.ofInt 64 (IntKind.u64.wrap ((shrI (IntKind.u64.wrap ((wru (BitVec.ofInt 64 (shrI (IntKind.u64.wrap ((wru (BitVec.ofInt 64 (shrI p0 1) &&& BitVec.ofInt 64 6148914691236517205).toNat) + (wru (BitVec.ofInt 64 p0 &&& BitVec.ofInt 64 6148914691236517205).toNat))) 2) &&& BitVec.ofInt 64 3689348814741910323).toNat) + (wru (BitVec.ofInt 64 (IntKind.u64.wrap ((wru (BitVec.ofInt 64 (shrI p0 1) &&& BitVec.ofInt 64 6148914691236517205).toNat) + (wru (BitVec.ofInt 64 p0 &&& BitVec.ofInt 64 6148914691236517205).toNat))) &&& BitVec.ofInt 64 3689348814741910323).toNat))) 4) + (IntKind.u64.wrap ((wru (BitVec.ofInt 64 (shrI (IntKind.u64.wrap ((wru (BitVec.ofInt 64 (shrI p0 1) &&& BitVec.ofInt 64 6148914691236517205).toNat) + (wru (BitVec.ofInt 64 p0 &&& BitVec.ofInt 64 6148914691236517205).toNat))) 2) &&& BitVec.ofInt 64 3689348814741910323).toNat) + (wru (BitVec.ofInt 64 (IntKind.u64.wrap ((wru (BitVec.ofInt 64 (shrI p0 1) &&& BitVec.ofInt 64 6148914691236517205).toNat) + (wru (BitVec.ofInt 64 p0 &&& BitVec.ofInt 64 6148914691236517205).toNat))) &&& BitVec.ofInt 64 3689348814741910323).toNat))))) &&& BitVec.ofInt 64 1085102592571150095).toNat) + (shrI (wru (BitVec.ofInt 64 (IntKind.u64.wrap ((shrI (IntKind.u64.wrap ((wru (BitVec.ofInt 64 (shrI (IntKind.u64.wrap ((wru (BitVec.ofInt 64 (shrI p0 1) &&& BitVec.ofInt 64 6148914691236517205).toNat) + (wru (BitVec.ofInt 64 p0 &&& BitVec.ofInt 64 6148914691236517205).toNat))) 2) &&& BitVec.ofInt 64 3689348814741910323).toNat) + (wru (BitVec.ofInt 64 (IntKind.u64.wrap ((wru (BitVec.ofInt 64 (shrI p0 1) &&& BitVec.ofInt 64 6148914691236517205).toNat) + (wru (BitVec.ofInt 64 p0 &&& BitVec.ofInt 64 6148914691236517205).toNat))) &&& BitVec.ofInt 64 3689348814741910323).toNat))) 4) + (IntKind.u64.wrap ((wru (BitVec.ofInt 64 (shrI (IntKind.u64.wrap ((wru (BitVec.ofInt 64 (shrI p0 1) &&& BitVec.ofInt 64 6148914691236517205).toNat) + (wru (BitVec.ofInt 64 p0 &&& BitVec.ofInt 64 6148914691236517205).toNat))) 2) &&& BitVec.ofInt 64 3689348814741910323).toNat) + (wru (BitVec.ofInt 64 (IntKind.u64.wrap ((wru (BitVec.ofInt 64 (shrI p0 1) &&& BitVec.ofInt 64 6148914691236517205).toNat) + (wru (BitVec.ofInt 64 p0 &&& BitVec.ofInt 64 6148914691236517205).toNat))) &&& BitVec.ofInt 64 3689348814741910323).toNat))))) &&& BitVec.ofInt 64 1085102592571150095).toNat) 8))) 16))) 32)))) 127)
set_option maxRecDepth 20000 in
set_option maxHeartbeats 400000 in
theorem c_math_bits_OnesCount64 (w0 : World) (p0 : Int) (r : Int) (hF : F_math_bits_OnesCount64 p0 = some r) :
    Calls Try.prog 173 [(Value.int .u64 p0)].toArray w0 (fun en w' => ∃ v, en = .returned v ∧ (v = (vI r) ∧ Kept (Old w0) w0 w')) := by
  refine c_enter (n := 35) Try.func173 rfl rfl (Nat.le_of_ble_eq_true rfl) rfl ?_
  intro a hE
  have hM := M.start w0
  unfold F_math_bits_OnesCount64 at hF
  refine c_region ?_
  refine s_assign hE goes_none (by decide) rfl ?_; intro a hE
  refine c_fin ?_
  refine c_region ?_
  refine s_move hE goes_none (by decide) rfl ?_; intro a hE
  refine s_sh hE goes_none (by decide) rfl rfl (bU_shr _ _ (by decide)) ?_; intro a hE
  refine s_int hE goes_none (by decide) rfl rfl rfl ?_; intro a hE
  refine s_move hE goes_none (by decide) rfl ?_; intro a hE
  refine s_int hE goes_none (by decide) rfl rfl rfl ?_; intro a hE
  refine s_int hE goes_none (by decide) rfl rfl rfl ?_; intro a hE
  refine s_assign hE goes_none (by decide) rfl ?_; intro a hE
  refine c_fin ?_
  refine c_region ?_
  refine s_move hE goes_none (by decide) rfl ?_; intro a hE
  refine s_sh hE goes_none (by decide) rfl rfl (bU_shr _ _ (by decide)) ?_; intro a hE
  refine s_int hE goes_none (by decide) rfl rfl rfl ?_; intro a hE
  refine s_move hE goes_none (by decide) rfl ?_; intro a hE
  refine s_int hE goes_none (by decide) rfl rfl rfl ?_; intro a hE
  refine s_int hE goes_none (by decide) rfl rfl rfl ?_; intro a hE
  refine s_assign hE goes_none (by decide) rfl ?_; intro a hE
  refine c_fin ?_
  refine c_region ?_
  refine s_move hE goes_none (by decide) rfl ?_; intro a hE
  refine s_sh hE goes_none (by decide) rfl rfl (bU_shr _ _ (by decide)) ?_; intro a hE
  refine s_move hE goes_none (by decide) rfl ?_; intro a hE
  refine s_int hE goes_none (by decide) rfl rfl rfl ?_; intro a hE
  refine s_int hE goes_none (by decide) rfl rfl rfl ?_; intro a hE
  refine s_assign hE goes_none (by decide) rfl ?_; intro a hE
  refine c_fin ?_
  refine c_region ?_
  refine s_move hE goes_none (by decide) rfl ?_; intro a hE
  refine s_move hE goes_none (by decide) rfl ?_; intro a hE
  refine s_sh hE goes_none (by decide) rfl rfl (bU_shr _ _ (by decide)) ?_; intro a hE
  refine s_int hE goes_none (by decide) rfl rfl rfl ?_; intro a hE
  refine s_assign hE goes_none (by decide) rfl ?_; intro a hE
  refine c_fin ?_
  refine c_region ?_
  refine s_move hE goes_none (by decide) rfl ?_; intro a hE
  refine s_move hE goes_none (by decide) rfl ?_; intro a hE
  refine s_sh hE goes_none (by decide) rfl rfl (bU_shr _ _ (by decide)) ?_; intro a hE
  refine s_int hE goes_none (by decide) rfl rfl rfl ?_; intro a hE
  refine s_assign hE goes_none (by decide) rfl ?_; intro a hE
  refine c_fin ?_
  refine c_region ?_
  refine s_move hE goes_none (by decide) rfl ?_; intro a hE
  refine s_move hE goes_none (by decide) rfl ?_; intro a hE
  refine s_sh hE goes_none (by decide) rfl rfl (bU_shr _ _ (by decide)) ?_; intro a hE
  refine s_int hE goes_none (by decide) rfl rfl rfl ?_; intro a hE
  refine s_assign hE goes_none (by decide) rfl ?_; intro a hE
  refine c_fin ?_
  refine c_region ?_
  refine s_move hE goes_none (by decide) rfl ?_; intro a hE
  refine s_conv hE goes_none (by decide) rfl Try.underlying189 Try.underlying3 ?_; intro a hE
  refine s_int hE goes_none (by decide) rfl rfl rfl ?_; intro a hE
  refine s_assign hE goes_none (by decide) rfl ?_; intro a hE
  refine c_fin ?_
  have hr := Option.some.inj hF
  subst hr
  exact wp_ret (k_ret1 hE rfl (res_tmp hE rfl) ⟨_, rfl, rfl, hM.kept⟩)
noncomputable def F_math_bits_OnesCount (p0 : Int) : Option (Int) :=
  (F_math_bits_OnesCount64 p0).bind fun (r1 : Int) => some r1
set_option maxRecDepth 20000 in
set_option maxHeartbeats 400000 in
theorem c_math_bits_OnesCount (w0 : World) (p0 : Int) (r : Int) (hF : F_math_bits_OnesCount p0 = some r) :
    Calls Try.prog 118 [(Value.int .u64 p0)].toArray w0 (fun en w' => ∃ v, en = .returned v ∧ (v = (vI r) ∧ Kept (Old w0) w0 w')) := by
  refine c_enter (n := 8) Try.func118 rfl rfl (Nat.le_of_ble_eq_true rfl) rfl ?_
  intro a hE
  have hM := M.start w0
  unfold F_math_bits_OnesCount at hF
  refine c_region ?_
  refine s_assign hE goes_none (by decide) rfl ?_; intro a hE
  refine c_fin ?_
  refine wp_seq ?_
  refine c_condF hE rfl ?_
  refine wp_skip ?_
  refine c_nx ?_
  refine c_region ?_
  refine s_move hE goes_none (by decide) rfl ?_; intro a hE
  obtain ⟨r1, e2, hF⟩ := bind_some hF
  refine s_call (vs := [(Value.int .u64 p0)]) hE goes_none (by decide) rfl cb173 (c_math_bits_OnesCount64 _ p0 r1 e2) ?_
  rintro v w a ⟨rfl, hK⟩ hE
  have hM := hM.keep hK
  refine s_assign hE goes_none (by decide) rfl ?_; intro a hE
  refine c_fin ?_
  have hr := Option.some.inj hF
  subst hr
  exact wp_ret (k_ret1 hE rfl (res_tmp hE rfl) ⟨_, rfl, rfl, hM.kept⟩)
noncomputable def L0_impl_chosen (p0 : Int) (p1 : Int) (s8 : (List Int) × Int) : Option (Fl ((List Int) × Int) (List Int)) :=
  if (decide (s8.2 < p1)) = true then (((nonneg s8.2).bind fun _ => (if ((andI (shrI p0 s8.2) 1) == 1) = true then ((app 8 s8.1 ([s8.2] : List Int)).bind fun (l29 : (List Int)) => some (s8.1 ++ ([s8.2] : List Int))) else (some s8.1) : Option ((List Int))).bind fun (j21 : (List Int)) => some j21 : Option ((List Int))).bind fun (j15 : (List Int)) => some (Fl.nx (j15, wr (s8.2 + 1)))) else (some (Fl.ex s8.1))
noncomputable def F_impl_chosen (p0 : Int) (p1 : Int) : Option ((List Int)) :=
  (iter (L0_impl_chosen p0 p1) (([] : List Int), 0) : Option ((List Int))).bind fun (j3 : (List Int)) => some j3
set_option maxRecDepth 20000 in
set_option maxHeartbeats 400000 in
theorem c_impl_chosen (w0 : World) (p0 : Int) (p1 : Int) (r : (List Int)) (hF : F_impl_chosen p0 p1 = some r) :
    Calls Try.prog 119 [(vI p0), (vI p1)].toArray w0 (fun en w' => ∃ v, en = .returned v ∧ (∃ (y1 : Value), v = y1 ∧ Fr w0 w' [osl NoB (r : List Int) y1] ∧ Kept (Old w0) w0 w')) := by
  refine c_enter (n := 23) Try.func119 rfl rfl (Nat.le_of_ble_eq_true rfl) rfl ?_
  intro a hE
  have hM := M.start w0
  unfold F_impl_chosen at hF
  refine c_region ?_
  refine s_assign hE goes_none (by decide) rfl ?_; intro a hE
  refine c_fin ?_
  refine c_region ?_
  refine s_buildF (xs := []) (l := ([] : List Int)) (vs := []) hE hM goes_none (by decide) rfl rfl Try.underlying145 ty3 rfl (by decide) rfl ?_; intro u1 w a hM hE
  refine s_assign hE goes_none (by decide) rfl ?_; intro a hE
  refine c_fin ?_
  refine wp_seq ?_
  refine c_region ?_
  refine s_move hE goes_none (by decide) rfl ?_; intro a hE
  refine s_move hE goes_none (by decide) rfl ?_; intro a hE
  refine c_fin ?_
  obtain ⟨j3, hl4, hF5⟩ := bind_some hF
  refine c_cut (fun a w => ∃ (u6 : Value), Env 23 a [(5, u6)] ∧ M (Old w0) w0 w [osl NoB (j3 : List Int) u6]) ?_ ?_
  · skip
    refine wp_block ?_
    refine c_loop (fun (s8 : (List Int) × Int) a w => ∃ (u9 : Value), Env 23 a [(0, (vI p0)), (5, u9), (8, (vI p1)), (9, (vI s8.2))] ∧ M (Old w0) w0 w [osl NoB (s8.1 : List Int) u9]) hl4 ⟨u1, hE.sub ⟨rfl, rfl, rfl, rfl, trivial⟩, hM⟩ ?_
    rintro s8 a w ⟨u9, hE, hM⟩ o13 hs11 hx12
    unfold L0_impl_chosen at hs11
    refine c_region ?_
    refine s_int hE goes_none (by decide) rfl rfl rfl ?_; intro a hE
    refine c_fin ?_
    refine wp_seq ?_
    refine c_cond hE rfl ?_ ?_
    · intro hb14
      have hs11 := ite_t hs11 hb14
      refine wp_skip ?_
      refine c_nx ?_
      obtain ⟨j15, hl16, hF17⟩ := bind_some hs11
      refine c_join (fun a w => ∃ (u18 : Value), Env 23 a [(0, (vI p0)), (5, u18), (8, (vI p1)), (9, (vI s8.2))] ∧ M (Old w0) w0 w [osl NoB (j15 : List Int) u18]) ?_ ?_
      · skip
        refine wp_block ?_
        refine c_region ?_
        refine s_move hE goes_none (by decide) rfl ?_; intro a hE
        refine s_assign hE goes_none (by decide) rfl ?_; intro a hE
        refine c_fin ?_
        refine c_region ?_
        refine s_move hE goes_none (by decide) rfl ?_; intro a hE
        refine s_move hE goes_none (by decide) rfl ?_; intro a hE
        obtain ⟨_, e20, hl16⟩ := bind_some hl16
        have e20 := nonneg_some e20
        refine s_sh hE goes_none (by decide) rfl rfl (bI_shr _ _ e20) ?_; intro a hE
        refine s_int hE goes_none (by decide) rfl rfl rfl ?_; intro a hE
        refine s_int hE goes_none (by decide) rfl rfl rfl ?_; intro a hE
        refine c_fin ?_
        obtain ⟨j21, hl22, hF23⟩ := bind_some hl16
        refine c_cut (fun a w => ∃ (u24 : Value), Env 23 a [(0, (vI p0)), (5, u24), (8, (vI p1)), (9, (vI s8.2))] ∧ M (Old w0) w0 w [osl NoB (j21 : List Int) u24]) ?_ ?_
        · skip
          refine c_cond hE rfl ?_ ?_
          · intro hb26
            have hl22 := ite_t hl22 hb26
            refine wp_region_lit ?_
            refine s_move hE goes_none (by decide) rfl ?_; intro a hE
            refine s_move hE goes_none (by decide) rfl ?_; intro a hE
            refine s_buildF (xs := [.tmp 18]) (l := ([s8.2] : List Int)) (vs := [(vI s8.2)]) hE hM goes_none (by decide) rfl rfl Try.underlying145 ty3 rfl (by decide) rfl ?_; intro u27 w a hM hE
            obtain ⟨l29, e30, hl22⟩ := bind_some hl22
            obtain ⟨e33, rfl⟩ := app_some e30
            have hM := hM.pull (pre := [_])
            refine s_appendF hE hM goes_none (by decide) rfl rfl (hM.sl (pre := [_]) noB) Try.underlying145 ty3 rfl (by decide) e33 ?_; intro u31 w a hM hE
            refine s_assign hE goes_none (by decide) rfl ?_; intro a hE
            refine c_fin0 ?_
            have ht34 := Option.some.inj hl22
            subst ht34
            refine c_mid ?_
            have hM := M.fst (l := [_]) hM
            exact ⟨u31, hE.sub ⟨rfl, rfl, rfl, rfl, trivial⟩, hM⟩
          · intro hb26
            have hl22 := ite_f hl22 hb26
            refine wp_skip ?_
            have ht35 := Option.some.inj hl22
            subst ht35
            refine c_mid ?_
            exact ⟨u9, hE.sub ⟨rfl, rfl, rfl, rfl, trivial⟩, hM⟩
        · skip
          rintro a w ⟨u24, hE, hM⟩
          refine c_nb ?_
          have ht36 := Option.some.inj hF23
          subst ht36
          refine c_mid ?_
          exact ⟨u24, hE.sub ⟨rfl, rfl, rfl, rfl, trivial⟩, hM⟩
      · skip
        rintro a w ⟨u18, hE, hM⟩
        refine wp_region_lit ?_
        refine s_int hE goes_none (by decide) rfl rfl rfl ?_; intro a hE
        refine s_move hE goes_none (by decide) rfl ?_; intro a hE
        refine c_fin0 ?_
        refine c_mid ?_
        exact ⟨_, (Option.some.inj hF17).symm, u18, hE.sub ⟨rfl, rfl, rfl, rfl, trivial⟩, hM⟩
    · intro hb14
      have hs11 := ite_f hs11 hb14
      refine wp_exit (e_then (e_then (e_eq ?_)))
      have ht37 := hx12 _ (Option.some.inj hs11).symm
      subst ht37
      refine c_mid ?_
      exact ⟨u9, hE.sub ⟨rfl, trivial⟩, hM⟩
  · skip
    rintro a w ⟨u6, hE, hM⟩
    refine c_nx ?_
    refine c_region ?_
    refine s_move hE goes_none (by decide) rfl ?_; intro a hE
    refine s_assign hE goes_none (by decide) rfl ?_; intro a hE
    refine c_fin ?_
    have hr := Option.some.inj hF5
    subst hr
    exact wp_ret (k_ret1 hE rfl (res_tmp hE rfl) ⟨_, rfl, u6, rfl, hM.outF (locN1 locN0), hM.kept⟩)
noncomputable def F_cmp_isNaN_int (p0 : Int) : Option (Bool) :=
  some (p0 != p0)
set_option maxRecDepth 20000 in
set_option maxHeartbeats 400000 in
theorem c_cmp_isNaN_int (w0 : World) (p0 : Int) (r : Bool) (hF : F_cmp_isNaN_int p0 = some r) :
    Calls Try.prog 197 [(vI p0)].toArray w0 (fun en w' => ∃ v, en = .returned v ∧ (v = (vT r) ∧ Kept (Old w0) w0 w')) := by
  refine c_enter (n := 6) Try.func197 rfl rfl (Nat.le_of_ble_eq_true rfl) rfl ?_
  intro a hE
  have hM := M.start w0
  unfold F_cmp_isNaN_int at hF
  refine c_region ?_
  refine s_assign hE goes_none (by decide) rfl ?_; intro a hE
  refine c_fin ?_
  refine c_region ?_
  refine s_move hE goes_none (by decide) rfl ?_; intro a hE
  refine s_move hE goes_none (by decide) rfl ?_; intro a hE
  refine s_int hE goes_none (by decide) rfl rfl rfl ?_; intro a hE
  refine s_assign hE goes_none (by decide) rfl ?_; intro a hE
  refine c_fin ?_
  have hr := Option.some.inj hF
  subst hr
  exact wp_ret (k_ret1 hE rfl (res_tmp hE rfl) ⟨_, rfl, rfl, hM.kept⟩)
noncomputable def F_cmp_Compare_int (p0 : Int) (p1 : Int) : Option (Int) :=
  (F_cmp_isNaN_int p0).bind fun (r1 : Bool) => (F_cmp_isNaN_int p1).bind fun (r3 : Bool) => if r1 = true then (if r3 = true then (some 0) else (some (-1))) else (if r3 = true then (some 1) else (if (decide (p0 < p1)) = true then (some (-1)) else (if (decide (p0 > p1)) = true then (some 1) else (some 0))))
set_option maxRecDepth 20000 in
set_option maxHeartbeats 400000 in
theorem c_cmp_Compare_int (w0 : World) (p0 : Int) (p1 : Int) (r : Int) (hF : F_cmp_Compare_int p0 p1 = some r) :
    Calls Try.prog 174 [(vI p0), (vI p1)].toArray w0 (fun en w' => ∃ v, en = .returned v ∧ (v = (vI r) ∧ Kept (Old w0) w0 w')) := by
  refine c_enter (n := 20) Try.func174 rfl rfl (Nat.le_of_ble_eq_true rfl) rfl ?_
  intro a hE
  have hM := M.start w0
  unfold F_cmp_Compare_int at hF
  refine c_region ?_
  refine s_assign hE goes_none (by decide) rfl ?_; intro a hE
  refine c_fin ?_
  refine c_region ?_
  refine s_move hE goes_none (by decide) rfl ?_; intro a hE
  obtain ⟨r1, e2, hF⟩ := bind_some hF
  refine s_call (vs := [(vI p0)]) hE goes_none (by decide) rfl cb197 (c_cmp_isNaN_int _ p0 r1 e2) ?_
  rintro v w a ⟨rfl, hK⟩ hE
  have hM := hM.keep hK
  refine s_assign hE goes_none (by decide) rfl ?_; intro a hE
  refine c_fin ?_
  refine c_region ?_
  refine s_move hE goes_none (by decide) rfl ?_; intro a hE
  obtain ⟨r3, e4, hF⟩ := bind_some hF
  refine s_call (vs := [(vI p1)]) hE goes_none (by decide) rfl cb197 (c_cmp_isNaN_int _ p1 r3 e4) ?_
  rintro v w a ⟨rfl, hK⟩ hE
  have hM := hM.keep hK
  refine s_assign hE goes_none (by decide) rfl ?_; intro a hE
  refine c_fin ?_
  refine wp_seq ?_
  refine c_region ?_
  refine s_move hE goes_none (by decide) rfl ?_; intro a hE
  refine c_fin ?_
  refine c_cond hE rfl ?_ ?_
  · intro hb5
    have hF := ite_t hF hb5
    refine wp_seq ?_
    refine c_region ?_
    refine s_move hE goes_none (by decide) rfl ?_; intro a hE
    refine c_fin ?_
    refine c_cond hE rfl ?_ ?_
    · intro hb6
      have hF := ite_t hF hb6
      refine c_region ?_
      refine s_assign hE goes_none (by decide) rfl ?_; intro a hE
      refine c_fin ?_
      have hr := Option.some.inj hF
      subst hr
      exact wp_ret (r_then (r_then (k_ret1 hE rfl (res_tmp hE rfl) ⟨_, rfl, rfl, hM.kept⟩)))
    · intro hb6
      have hF := ite_f hF hb6
      refine wp_skip ?_
      refine c_nx ?_
      refine c_region ?_
      refine s_assign hE goes_none (by decide) rfl ?_; intro a hE
      refine c_fin ?_
      have hr := Option.some.inj hF
      subst hr
      exact wp_ret (r_then (k_ret1 hE rfl (res_tmp hE rfl) ⟨_, rfl, rfl, hM.kept⟩))
  · intro hb5
    have hF := ite_f hF hb5
    refine wp_skip ?_
    refine c_nx ?_
    refine wp_seq ?_
    refine c_region ?_
    refine s_move hE goes_none (by decide) rfl ?_; intro a hE
    refine c_fin ?_
    refine c_cond hE rfl ?_ ?_
    · intro hb7
      have hF := ite_t hF hb7
      refine c_region ?_
      refine s_assign hE goes_none (by decide) rfl ?_; intro a hE
      refine c_fin ?_
      have hr := Option.some.inj hF
      subst hr
      exact wp_ret (r_then (k_ret1 hE rfl (res_tmp hE rfl) ⟨_, rfl, rfl, hM.kept⟩))
    · intro hb7
      have hF := ite_f hF hb7
      refine wp_skip ?_
      refine c_nx ?_
      refine wp_seq ?_
      refine c_region ?_
      refine s_move hE goes_none (by decide) rfl ?_; intro a hE
      refine s_move hE goes_none (by decide) rfl ?_; intro a hE
      refine s_int hE goes_none (by decide) rfl rfl rfl ?_; intro a hE
      refine c_fin ?_
      refine c_cond hE rfl ?_ ?_
      · intro hb8
        have hF := ite_t hF hb8
        refine c_region ?_
        refine s_assign hE goes_none (by decide) rfl ?_; intro a hE
        refine c_fin ?_
        have hr := Option.some.inj hF
        subst hr
        exact wp_ret (r_then (k_ret1 hE rfl (res_tmp hE rfl) ⟨_, rfl, rfl, hM.kept⟩))
      · intro hb8
        have hF := ite_f hF hb8
        refine wp_skip ?_
        refine c_nx ?_
        refine wp_seq ?_
        refine c_region ?_
        refine s_move hE goes_none (by decide) rfl ?_; intro a hE
        refine s_move hE goes_none (by decide) rfl ?_; intro a hE
        refine s_int hE goes_none (by decide) rfl rfl rfl ?_; intro a hE
        refine c_fin ?_
        refine c_cond hE rfl ?_ ?_
        · intro hb9
          have hF := ite_t hF hb9
          refine c_region ?_
          refine s_assign hE goes_none (by decide) rfl ?_; intro a hE
          refine c_fin ?_
          have hr := Option.some.inj hF
          subst hr
          exact wp_ret (r_then (k_ret1 hE rfl (res_tmp hE rfl) ⟨_, rfl, rfl, hM.kept⟩))
        · intro hb9
          have hF := ite_f hF hb9
          refine wp_skip ?_
          refine c_nx ?_
          refine c_region ?_
          refine s_assign hE goes_none (by decide) rfl ?_; intro a hE
          refine c_fin ?_
          have hr := Option.some.inj hF
          subst hr
          exact wp_ret (k_ret1 hE rfl (res_tmp hE rfl) ⟨_, rfl, rfl, hM.kept⟩)
noncomputable def L0_slices_Compare_int_int (p0 : (List Int)) (p1 : (List Int)) (s5 : Int) : Option (Fl Int (Fl Unit Int)) :=
  if (decide (s5 < (p0.length : Int))) = true then ((idx p0 s5).bind fun (x10 : Int) => if (decide (s5 ≥ (p1.length : Int))) = true then (some (Fl.ex (Fl.ex 1))) else ((idx p1 s5).bind fun (x15 : Int) => (F_cmp_Compare_int x10 x15).bind fun (r18 : Int) => if (r18 != 0) = true then (some (Fl.ex (Fl.ex r18))) else (some (Fl.nx (wr (s5 + 1)))))) else (some (Fl.ex (Fl.nx ())))
noncomputable def F_slices_Compare_int_int (p0 : (List Int)) (p1 : (List Int)) : Option (Int) :=
  (iter (L0_slices_Compare_int_int p0 p1) 0 : Option (Fl Unit Int)).bind fun (j1 : Fl Unit Int) => j1.el (fun (s4 : Unit) => if (decide ((p0.length : Int) < (p1.length : Int))) = true then (some (-1)) else (some 0)) (fun r => some r)
set_option maxRecDepth 20000 in
set_option maxHeartbeats 400000 in
theorem c_slices_Compare_int_int (w0 : World) (p0 : (List Int)) (v0_1 : Value) (hv0_1 : Ro w0 p0 [v0_1]) (p1 : (List Int)) (v1_1 : Value) (hv1_1 : Ro w0 p1 [v1_1]) (r : Int) (hF : F_slices_Compare_int_int p0 p1 = some r) :
    Calls Try.prog 120 [v0_1, v1_1].toArray w0 (fun en w' => ∃ v, en = .returned v ∧ (v = (vI r) ∧ Kept (Old w0) w0 w')) := by
  refine c_enter (n := 36) Try.func120 rfl rfl (Nat.le_of_ble_eq_true rfl) rfl ?_
  intro a hE
  have hM := M.start w0
  unfold F_slices_Compare_int_int at hF
  refine c_region ?_
  refine s_assign hE goes_none (by decide) rfl ?_; intro a hE
  refine c_fin ?_
  refine wp_seq ?_
  refine c_region ?_
  refine s_move hE goes_none (by decide) rfl ?_; intro a hE
  refine s_len hE goes_none (by decide) rfl Try.underlying145 (hM.rd hv0_1) ?_; intro a hE
  refine s_move hE goes_none (by decide) rfl ?_; intro a hE
  refine c_fin ?_
  obtain ⟨j1, hl2, hF3⟩ := bind_some hF
  refine c_cut (fun a w => ∃ s4 : Unit, j1 = Fl.nx s4 ∧ Env 36 a [(0, v0_1), (1, v1_1)] ∧ M (Old w0) w0 w []) ?_ ?_
  · skip
    refine wp_block ?_
    refine c_loop (fun (s5 : Int) a w => Env 36 a [(0, v0_1), (1, v1_1), (9, v0_1), (10, (vI (p0.length : Int))), (11, (vI s5))] ∧ M (Old w0) w0 w []) hl2 ⟨hE.sub ⟨rfl, rfl, rfl, rfl, rfl, trivial⟩, hM⟩ ?_
    rintro s5 a w ⟨hE, hM⟩ o8 hs6 hx7
    unfold L0_slices_Compare_int_int at hs6
    refine c_region ?_
    refine s_int hE goes_none (by decide) rfl rfl rfl ?_; intro a hE
    refine c_fin ?_
    refine wp_seq ?_
    refine c_cond hE rfl ?_ ?_
    · intro hb9
      have hs6 := ite_t hs6 hb9
      refine wp_skip ?_
      refine c_nx ?_
      refine wp_seq ?_
      refine wp_block ?_
      refine c_region ?_
      refine s_move hE goes_none (by decide) rfl ?_; intro a hE
      obtain ⟨x10, e11, hs6⟩ := bind_some hs6
      have hi12 := idx_some e11
      refine s_indexS hE goes_none (by decide) rfl rfl Try.underlying145 ty3 (hM.rd hv0_1) hi12.1 ?_; intro a hE
      refine s_load (v := (vI x10)) hE goes_none (by decide) rfl ty3 rfl (sl_atF (hM.rd hv0_1) hi12.2) ?_; intro a hE
      refine s_assign hE goes_none (by decide) rfl ?_; intro a hE
      refine s_assign hE goes_none (by decide) rfl ?_; intro a hE
      refine c_fin ?_
      refine wp_seq ?_
      refine c_region ?_
      refine s_move hE goes_none (by decide) rfl ?_; intro a hE
      refine s_move hE goes_none (by decide) rfl ?_; intro a hE
      refine s_len hE goes_none (by decide) rfl Try.underlying145 (hM.rd hv1_1) ?_; intro a hE
      refine s_int hE goes_none (by decide) rfl rfl rfl ?_; intro a hE
      refine c_fin ?_
      refine c_cond hE rfl ?_ ?_
      · intro hb13
        have hs6 := ite_t hs6 hb13
        refine c_region ?_
        refine s_assign hE goes_none (by decide) rfl ?_; intro a hE
        refine c_fin ?_
        have ht14 := hx7 _ (Option.some.inj hs6).symm
        subst ht14
        have hr := Option.some.inj hF3
        subst hr
        exact wp_ret (r_then (r_inb (r_then (r_then (r_inb (r_then (r_then (k_ret1 hE rfl (res_tmp hE rfl) ⟨_, rfl, rfl, hM.kept⟩))))))))
      · intro hb13
        have hs6 := ite_f hs6 hb13
        refine wp_skip ?_
        refine c_nx ?_
        refine c_region ?_
        refine s_move hE goes_none (by decide) rfl ?_; intro a hE
        refine s_move hE goes_none (by decide) rfl ?_; intro a hE
        obtain ⟨x15, e16, hs6⟩ := bind_some hs6
        have hi17 := idx_some e16
        refine s_indexS hE goes_none (by decide) rfl rfl Try.underlying145 ty3 (hM.rd hv1_1) hi17.1 ?_; intro a hE
        refine s_load (v := (vI x15)) hE goes_none (by decide) rfl ty3 rfl (sl_atF (hM.rd hv1_1) hi17.2) ?_; intro a hE
        refine s_assign hE goes_none (by decide) rfl ?_; intro a hE
        refine c_fin ?_
        refine c_region ?_
        refine s_move hE goes_none (by decide) rfl ?_; intro a hE
        refine s_move hE goes_none (by decide) rfl ?_; intro a hE
        obtain ⟨r18, e19, hs6⟩ := bind_some hs6
        refine s_call (vs := [(vI x10), (vI x15)]) hE goes_none (by decide) rfl cb174 (c_cmp_Compare_int _ x10 x15 r18 e19) ?_
        rintro v w a ⟨rfl, hK⟩ hE
        have hM := hM.keep hK
        refine s_assign hE goes_none (by decide) rfl ?_; intro a hE
        refine c_fin ?_
        refine c_region ?_
        refine s_move hE goes_none (by decide) rfl ?_; intro a hE
        refine s_int hE goes_none (by decide) rfl rfl rfl ?_; intro a hE
        refine c_fin ?_
        refine c_cond hE rfl ?_ ?_
        · intro hb20
          have hs6 := ite_t hs6 hb20
          refine c_region ?_
          refine s_move hE goes_none (by decide) rfl ?_; intro a hE
          refine s_assign hE goes_none (by decide) rfl ?_; intro a hE
          refine c_fin ?_
          have ht21 := hx7 _ (Option.some.inj hs6).symm
          subst ht21
          have hr := Option.some.inj hF3
          subst hr
          exact wp_ret (r_inb (r_then (r_then (r_inb (r_then (r_then (k_ret1 hE rfl (res_tmp hE rfl) ⟨_, rfl, rfl, hM.kept⟩)))))))
        · intro hb20
          have hs6 := ite_f hs6 hb20
          refine wp_skip ?_
          refine c_nb ?_
          refine c_nx ?_
          refine wp_region_lit ?_
          refine s_int hE goes_none (by decide) rfl rfl rfl ?_; intro a hE
          refine s_move hE goes_none (by decide) rfl ?_; intro a hE
          refine c_fin0 ?_
          refine c_mid ?_
          exact ⟨_, (Option.some.inj hs6).symm, hE.sub ⟨rfl, rfl, rfl, rfl, rfl, trivial⟩, hM⟩
    · intro hb9
      have hs6 := ite_f hs6 hb9
      refine wp_exit (e_then (e_then (e_eq ?_)))
      have ht22 := hx7 _ (Option.some.inj hs6).symm
      subst ht22
      refine c_mid ?_
      exact ⟨(), rfl, hE.sub ⟨rfl, rfl, trivial⟩, hM⟩
  · skip
    rintro a w ⟨s4, ht, hE, hM⟩
    subst ht
    have hF3 := el_nx hF3
    refine c_nx ?_
    refine wp_seq ?_
    refine c_region ?_
    refine s_move hE goes_none (by decide) rfl ?_; intro a hE
    refine s_len hE goes_none (by decide) rfl Try.underlying145 (hM.rd hv0_1) ?_; intro a hE
    refine s_move hE goes_none (by decide) rfl ?_; intro a hE
    refine s_len hE goes_none (by decide) rfl Try.underlying145 (hM.rd hv1_1) ?_; intro a hE
    refine s_int hE goes_none (by decide) rfl rfl rfl ?_; intro a hE
    refine c_fin ?_
    refine c_cond hE rfl ?_ ?_
    · intro hb23
      have hF3 := ite_t hF3 hb23
      refine c_region ?_
      refine s_assign hE goes_none (by decide) rfl ?_; intro a hE
      refine c_fin ?_
      have hr := Option.some.inj hF3
      subst hr
      exact wp_ret (r_then (k_ret1 hE rfl (res_tmp hE rfl) ⟨_, rfl, rfl, hM.kept⟩))
    · intro hb23
      have hF3 := ite_f hF3 hb23
      refine wp_skip ?_
      refine c_nx ?_
      refine c_region ?_
      refine s_assign hE goes_none (by decide) rfl ?_; intro a hE
      refine c_fin ?_
      have hr := Option.some.inj hF3
      subst hr
      exact wp_ret (k_ret1 hE rfl (res_tmp hE rfl) ⟨_, rfl, rfl, hM.kept⟩)
noncomputable def L0_impl_field_times (p1 : UInt8) (p2 : UInt8) (s4 : Int × Int) : Option (Fl (Int × Int) Int) :=
  if (decide (s4.2 < 8)) = true then (((nonneg s4.2).bind fun _ => (if (((shrB p2 s4.2) &&& 1) == 1) = true then ((nonneg s4.2).bind fun _ => some (xorI s4.1 (shlI (bI p1) s4.2))) else (some s4.1) : Option (Int)).bind fun (j13 : Int) => some j13 : Option (Int)).bind fun (j9 : Int) => some (Fl.nx (j9, wr (s4.2 + 1)))) else (some (Fl.ex s4.1))
noncomputable def F_impl_field_times (p0 : Int) (p1 : UInt8) (p2 : UInt8) : Option (UInt8) :=
  (iter (L0_impl_field_times p1 p2) (0, 0) : Option (Int)).bind fun (j1 : Int) => (F_impl_rest j1 p0 8).bind fun (r22 : Int) => some (byteI r22)
set_option maxRecDepth 20000 in
set_option maxHeartbeats 400000 in
theorem c_impl_field_times (w0 : World) (p0 : Int) (p1 : UInt8) (p2 : UInt8) (r : UInt8) (hF : F_impl_field_times p0 p1 p2 = some r) :
    Calls Try.prog 189 [(vI p0), (vB p1), (vB p2)].toArray w0 (fun en w' => ∃ v, en = .returned v ∧ (v = (vB r) ∧ Kept (Old w0) w0 w')) := by
  refine c_enter (n := 28) Try.func189 rfl rfl (Nat.le_of_ble_eq_true rfl) rfl ?_
  intro a hE
  have hM := M.start w0
  unfold F_impl_field_times at hF
  refine c_region ?_
  refine s_assign hE goes_none (by decide) rfl ?_; intro a hE
  refine c_fin ?_
  refine c_region ?_
  refine s_assign hE goes_none (by decide) rfl ?_; intro a hE
  refine c_fin ?_
  refine wp_seq ?_
  refine c_region ?_
  refine s_move hE goes_none (by decide) rfl ?_; intro a hE
  refine c_fin ?_
  obtain ⟨j1, hl2, hF3⟩ := bind_some hF
  refine c_cut (fun a w => Env 28 a [(0, (vI p0)), (7, (vI j1))] ∧ M (Old w0) w0 w []) ?_ ?_
  · skip
    refine wp_block ?_
    refine c_loop (fun (s4 : Int × Int) a w => Env 28 a [(0, (vI p0)), (1, (vB p1)), (2, (vB p2)), (7, (vI s4.1)), (9, (vI s4.2))] ∧ M (Old w0) w0 w []) hl2 ⟨hE.sub ⟨rfl, rfl, rfl, rfl, rfl, trivial⟩, hM⟩ ?_
    rintro s4 a w ⟨hE, hM⟩ o7 hs5 hx6
    unfold L0_impl_field_times at hs5
    refine c_region ?_
    refine s_int hE goes_none (by decide) rfl rfl rfl ?_; intro a hE
    refine c_fin ?_
    refine wp_seq ?_
    refine c_cond hE rfl ?_ ?_
    · intro hb8
      have hs5 := ite_t hs5 hb8
      refine wp_skip ?_
      refine c_nx ?_
      obtain ⟨j9, hl10, hF11⟩ := bind_some hs5
      refine c_join (fun a w => Env 28 a [(0, (vI p0)), (1, (vB p1)), (2, (vB p2)), (7, (vI j9)), (9, (vI s4.2))] ∧ M (Old w0) w0 w []) ?_ ?_
      · skip
        refine wp_block ?_
        refine c_region ?_
        refine s_move hE goes_none (by decide) rfl ?_; intro a hE
        refine s_assign hE goes_none (by decide) rfl ?_; intro a hE
        refine c_fin ?_
        refine c_region ?_
        refine s_move hE goes_none (by decide) rfl ?_; intro a hE
        refine s_move hE goes_none (by decide) rfl ?_; intro a hE
        obtain ⟨_, e12, hl10⟩ := bind_some hl10
        have e12 := nonneg_some e12
        refine s_sh hE goes_none (by decide) rfl rfl (bB_shr _ _ e12) ?_; intro a hE
        refine s_int hE goes_none (by decide) rfl rfl (bB_and (shrB p2 s4.2) 1) ?_; intro a hE
        refine s_int hE goes_none (by decide) rfl rfl (bB_eql ((shrB p2 s4.2) &&& 1) 1) ?_; intro a hE
        refine c_fin ?_
        obtain ⟨j13, hl14, hF15⟩ := bind_some hl10
        refine c_cut (fun a w => Env 28 a [(0, (vI p0)), (1, (vB p1)), (2, (vB p2)), (7, (vI j13)), (9, (vI s4.2))] ∧ M (Old w0) w0 w []) ?_ ?_
        · skip
          refine c_cond hE rfl ?_ ?_
          · intro hb16
            have hl14 := ite_t hl14 hb16
            refine wp_region_lit ?_
            refine s_move hE goes_none (by decide) rfl ?_; intro a hE
            refine s_move hE goes_none (by decide) rfl ?_; intro a hE
            refine s_conv hE goes_none (by decide) rfl Try.underlying5 Try.underlying2 ?_; intro a hE
            rw [byte_wide] at hE
            refine s_move hE goes_none (by decide) rfl ?_; intro a hE
            obtain ⟨_, e17, hl14⟩ := bind_some hl14
            have e17 := nonneg_some e17
            refine s_sh hE goes_none (by decide) rfl rfl (bI_shl _ _ e17) ?_; intro a hE
            refine s_int hE goes_none (by decide) rfl rfl rfl ?_; intro a hE
            refine s_assign hE goes_none (by decide) rfl ?_; intro a hE
            refine c_fin0 ?_
            have ht18 := Option.some.inj hl14
            subst ht18
            refine c_mid ?_
            exact ⟨hE.sub ⟨rfl, rfl, rfl, rfl, rfl, trivial⟩, hM⟩
          · intro hb16
            have hl14 := ite_f hl14 hb16
            refine wp_skip ?_
            have ht19 := Option.some.inj hl14
            subst ht19
            refine c_mid ?_
            exact ⟨hE.sub ⟨rfl, rfl, rfl, rfl, rfl, trivial⟩, hM⟩
        · skip
          rintro a w ⟨hE, hM⟩
          refine c_nb ?_
          have ht20 := Option.some.inj hF15
          subst ht20
          refine c_mid ?_
          exact ⟨hE.sub ⟨rfl, rfl, rfl, rfl, rfl, trivial⟩, hM⟩
      · skip
        rintro a w ⟨hE, hM⟩
        refine wp_region_lit ?_
        refine s_int hE goes_none (by decide) rfl rfl rfl ?_; intro a hE
        refine s_move hE goes_none (by decide) rfl ?_; intro a hE
        refine c_fin0 ?_
        refine c_mid ?_
        exact ⟨_, (Option.some.inj hF11).symm, hE.sub ⟨rfl, rfl, rfl, rfl, rfl, trivial⟩, hM⟩
    · intro hb8
      have hs5 := ite_f hs5 hb8
      refine wp_exit (e_then (e_then (e_eq ?_)))
      have ht21 := hx6 _ (Option.some.inj hs5).symm
      subst ht21
      refine c_mid ?_
      exact ⟨hE.sub ⟨rfl, rfl, trivial⟩, hM⟩
  · skip
    rintro a w ⟨hE, hM⟩
    refine c_nx ?_
    refine c_region ?_
    refine s_move hE goes_none (by decide) rfl ?_; intro a hE
    refine s_move hE goes_none (by decide) rfl ?_; intro a hE
    obtain ⟨r22, e23, hF3⟩ := bind_some hF3
    refine s_call (vs := [(vI j1), (vI p0), (vI 8)]) hE goes_none (by decide) rfl cb185 (c_impl_rest _ j1 p0 8 r22 e23) ?_
    rintro v w a ⟨rfl, hK⟩ hE
    have hM := hM.keep hK
    refine s_conv hE goes_none (by decide) rfl Try.underlying2 Try.underlying5 ?_; intro a hE
    rw [byteI_val] at hE
    refine s_assign hE goes_none (by decide) rfl ?_; intro a hE
    refine c_fin ?_
    have hr := Option.some.inj hF3
    subst hr
    exact wp_ret (k_ret1 hE rfl (res_tmp hE rfl) ⟨_, rfl, rfl, hM.kept⟩)
noncomputable def L0_impl_field_power (p0 : Int) (s4 : UInt8 × Int × UInt8) : Option (Fl (UInt8 × Int × UInt8) UInt8) :=
  if (decide (s4.2.1 > 0)) = true then (((if ((Int.tmod s4.2.1 2) == 1) = true then ((F_impl_field_times p0 s4.2.2 s4.1).bind fun (r16 : UInt8) => some r16) else (some s4.2.2) : Option (UInt8)).bind fun (j12 : UInt8) => (F_impl_field_times p0 s4.1 s4.1).bind fun (r20 : UInt8) => some (r20, j12) : Option (UInt8 × UInt8)).bind fun (j9 : UInt8 × UInt8) => some (Fl.nx (j9.1, wr (Int.tdiv s4.2.1 2), j9.2))) else (some (Fl.ex s4.2.2))
noncomputable def F_impl_field_power (p0 : Int) (p1 : UInt8) (p2 : Int) : Option (UInt8) :=
  (iter (L0_impl_field_power p0) (p1, p2, 1) : Option (UInt8)).bind fun (j1 : UInt8) => some j1
set_option maxRecDepth 20000 in
set_option maxHeartbeats 400000 in
theorem c_impl_field_power (w0 : World) (p0 : Int) (p1 : UInt8) (p2 : Int) (r : UInt8) (hF : F_impl_field_power p0 p1 p2 = some r) :
    Calls Try.prog 202 [(vI p0), (vB p1), (vI p2)].toArray w0 (fun en w' => ∃ v, en = .returned v ∧ (v = (vB r) ∧ Kept (Old w0) w0 w')) := by
  refine c_enter (n := 24) Try.func202 rfl rfl (Nat.le_of_ble_eq_true rfl) rfl ?_
  intro a hE
  have hM := M.start w0
  unfold F_impl_field_power at hF
  refine c_region ?_
  refine s_assign hE goes_none (by decide) rfl ?_; intro a hE
  refine c_fin ?_
  refine c_region ?_
  refine s_assign hE goes_none (by decide) rfl ?_; intro a hE
  refine c_fin ?_
  obtain ⟨j1, hl2, hF3⟩ := bind_some hF
  refine c_join (fun a w => Env 24 a [(7, (vB j1))] ∧ M (Old w0) w0 w []) ?_ ?_
  · skip
    refine wp_block ?_
    refine c_loop (fun (s4 : UInt8 × Int × UInt8) a w => Env 24 a [(0, (vI p0)), (1, (vB s4.1)), (2, (vI s4.2.1)), (7, (vB s4.2.2))] ∧ M (Old w0) w0 w []) hl2 ⟨hE.sub ⟨rfl, rfl, rfl, rfl, trivial⟩, hM⟩ ?_
    rintro s4 a w ⟨hE, hM⟩ o7 hs5 hx6
    unfold L0_impl_field_power at hs5
    refine wp_seq ?_
    refine c_region ?_
    refine s_move hE goes_none (by decide) rfl ?_; intro a hE
    refine s_int hE goes_none (by decide) rfl rfl rfl ?_; intro a hE
    refine c_fin ?_
    refine c_cond hE rfl ?_ ?_
    · intro hb8
      have hs5 := ite_t hs5 hb8
      refine wp_skip ?_
      refine c_nx ?_
      obtain ⟨j9, hl10, hF11⟩ := bind_some hs5
      refine c_join (fun a w => Env 24 a [(0, (vI p0)), (1, (vB j9.1)), (2, (vI s4.2.1)), (7, (vB j9.2))] ∧ M (Old w0) w0 w []) ?_ ?_
      · skip
        refine wp_block ?_
        obtain ⟨j12, hl13, hF14⟩ := bind_some hl10
        refine c_join (fun a w => Env 24 a [(0, (vI p0)), (1, (vB s4.1)), (2, (vI s4.2.1)), (7, (vB j12))] ∧ M (Old w0) w0 w []) ?_ ?_
        · skip
          refine c_region ?_
          refine s_move hE goes_none (by decide) rfl ?_; intro a hE
          refine s_int hE goes_none (by decide) rfl rfl (bI_rem _ _ (by decide)) ?_; intro a hE
          refine s_int hE goes_none (by decide) rfl rfl rfl ?_; intro a hE
          refine c_fin ?_
          refine c_cond hE rfl ?_ ?_
          · intro hb15
            have hl13 := ite_t hl13 hb15
            refine wp_region_lit ?_
            refine s_move hE goes_none (by decide) rfl ?_; intro a hE
            refine s_move hE goes_none (by decide) rfl ?_; intro a hE
            refine s_move hE goes_none (by decide) rfl ?_; intro a hE
            obtain ⟨r16, e17, hl13⟩ := bind_some hl13
            refine s_call (vs := [(vI p0), (vB s4.2.2), (vB s4.1)]) hE goes_none (by decide) rfl cb189 (c_impl_field_times _ p0 s4.2.2 s4.1 r16 e17) ?_
            rintro v w a ⟨rfl, hK⟩ hE
            have hM := hM.keep hK
            refine s_assign hE goes_none (by decide) rfl ?_; intro a hE
            refine c_fin0 ?_
            have ht18 := Option.some.inj hl13
            subst ht18
            refine c_mid ?_
            exact ⟨hE.sub ⟨rfl, rfl, rfl, rfl, trivial⟩, hM⟩
          · intro hb15
            have hl13 := ite_f hl13 hb15
            refine wp_skip ?_
            have ht19 := Option.some.inj hl13
            subst ht19
            refine c_mid ?_
            exact ⟨hE.sub ⟨rfl, rfl, rfl, rfl, trivial⟩, hM⟩
        · skip
          rintro a w ⟨hE, hM⟩
          refine wp_region_lit ?_
          refine s_move hE goes_none (by decide) rfl ?_; intro a hE
          refine s_move hE goes_none (by decide) rfl ?_; intro a hE
          refine s_move hE goes_none (by decide) rfl ?_; intro a hE
          obtain ⟨r20, e21, hF14⟩ := bind_some hF14
          refine s_call (vs := [(vI p0), (vB s4.1), (vB s4.1)]) hE goes_none (by decide) rfl cb189 (c_impl_field_times _ p0 s4.1 s4.1 r20 e21) ?_
          rintro v w a ⟨rfl, hK⟩ hE
          have hM := hM.keep hK
          refine s_assign hE goes_none (by decide) rfl ?_; intro a hE
          refine c_fin0 ?_
          refine c_nb ?_
          have ht22 := Option.some.inj hF14
          subst ht22
          refine c_mid ?_
          exact ⟨hE.sub ⟨rfl, rfl, rfl, rfl, trivial⟩, hM⟩
      · skip
        rintro a w ⟨hE, hM⟩
        refine wp_region_lit ?_
        refine s_move hE goes_none (by decide) rfl ?_; intro a hE
        refine s_int hE goes_none (by decide) rfl rfl (bI_quo _ _ (by decide)) ?_; intro a hE
        refine s_assign hE goes_none (by decide) rfl ?_; intro a hE
        refine c_fin0 ?_
        refine c_mid ?_
        exact ⟨_, (Option.some.inj hF11).symm, hE.sub ⟨rfl, rfl, rfl, rfl, trivial⟩, hM⟩
    · intro hb8
      have hs5 := ite_f hs5 hb8
      refine wp_exit (e_then (e_then (e_eq ?_)))
      have ht23 := hx6 _ (Option.some.inj hs5).symm
      subst ht23
      refine c_mid ?_
      exact ⟨hE.sub ⟨rfl, trivial⟩, hM⟩
  · skip
    rintro a w ⟨hE, hM⟩
    refine c_region ?_
    refine s_move hE goes_none (by decide) rfl ?_; intro a hE
    refine s_assign hE goes_none (by decide) rfl ?_; intro a hE
    refine c_fin ?_
    have hr := Option.some.inj hF3
    subst hr
    exact wp_ret (k_ret1 hE rfl (res_tmp hE rfl) ⟨_, rfl, rfl, hM.kept⟩)
noncomputable def F_impl_field_inverse (p0 : Int) (p1 : UInt8) : Option (UInt8) :=
  (F_impl_field_power p0 p1 254).bind fun (r1 : UInt8) => some r1
set_option maxRecDepth 20000 in
set_option maxHeartbeats 400000 in
theorem c_impl_field_inverse (w0 : World) (p0 : Int) (p1 : UInt8) (r : UInt8) (hF : F_impl_field_inverse p0 p1 = some r) :
    Calls Try.prog 190 [(vI p0), (vB p1)].toArray w0 (fun en w' => ∃ v, en = .returned v ∧ (v = (vB r) ∧ Kept (Old w0) w0 w')) := by
  refine c_enter (n := 8) Try.func190 rfl rfl (Nat.le_of_ble_eq_true rfl) rfl ?_
  intro a hE
  have hM := M.start w0
  unfold F_impl_field_inverse at hF
  refine c_region ?_
  refine s_assign hE goes_none (by decide) rfl ?_; intro a hE
  refine c_fin ?_
  refine c_region ?_
  refine s_move hE goes_none (by decide) rfl ?_; intro a hE
  refine s_move hE goes_none (by decide) rfl ?_; intro a hE
  obtain ⟨r1, e2, hF⟩ := bind_some hF
  refine s_call (vs := [(vI p0), (vB p1), (vI 254)]) hE goes_none (by decide) rfl cb202 (c_impl_field_power _ p0 p1 254 r1 e2) ?_
  rintro v w a ⟨rfl, hK⟩ hE
  have hM := hM.keep hK
  refine s_assign hE goes_none (by decide) rfl ?_; intro a hE
  refine c_fin ?_
  have hr := Option.some.inj hF
  subst hr
  exact wp_ret (k_ret1 hE rfl (res_tmp hE rfl) ⟨_, rfl, rfl, hM.kept⟩)
noncomputable def L1_impl_field_valuesAt (p0 : Int) (p1 : (List GShare)) (p2 : UInt8) (x25 : GShare) (s38 : UInt8 × Int) : Option (Fl (UInt8 × Int) UInt8) :=
  if (decide (s38.2 < (p1.length : Int))) = true then (((idx p1 s38.2).bind fun (x46 : GShare) => (if (x46.Place != x25.Place) = true then ((F_impl_field_inverse p0 (x25.Place ^^^ x46.Place)).bind fun (r61 : UInt8) => (F_impl_field_times p0 (p2 ^^^ x46.Place) r61).bind fun (r63 : UInt8) => (F_impl_field_times p0 s38.1 r63).bind fun (r65 : UInt8) => some r65) else (some s38.1) : Option (UInt8)).bind fun (j56 : UInt8) => some j56 : Option (UInt8)).bind fun (j43 : UInt8) => some (Fl.nx (j43, wr (s38.2 + 1)))) else (some (Fl.ex s38.1))
noncomputable def L2_impl_field_valuesAt (p0 : Int) (x25 : GShare) (j35 : UInt8) (s76 : Int × (List UInt8)) : Option (Fl (Int × (List UInt8)) (List UInt8)) :=
  if (decide (s76.1 < (x25.Data.length : Int))) = true then ((idx x25.Data s76.1).bind fun (x83 : UInt8) => (idx s76.2 s76.1).bind fun (x87 : UInt8) => (F_impl_field_times p0 x83 j35).bind fun (r90 : UInt8) => (idx s76.2 s76.1).bind fun (x92 : UInt8) => some (Fl.nx (wr (s76.1 + 1), (s76.2.set (s76.1).toNat (x87 ^^^ r90))))) else (some (Fl.ex s76.2))
noncomputable def L0_impl_field_valuesAt (p0 : Int) (p1 : (List GShare)) (p2 : UInt8) (s18 : Int × (List UInt8)) : Option (Fl (Int × (List UInt8)) (List UInt8)) :=
  if (decide (s18.1 < (p1.length : Int))) = true then ((idx p1 s18.1).bind fun (x25 : GShare) => (iter (L1_impl_field_valuesAt p0 p1 p2 x25) (1, 0) : Option (UInt8)).bind fun (j35 : UInt8) => (iter (L2_impl_field_valuesAt p0 x25 j35) (0, s18.2) : Option ((List UInt8))).bind fun (j71 : (List UInt8)) => some (Fl.nx (wr (s18.1 + 1), j71))) else (some (Fl.ex s18.2))
noncomputable def F_impl_field_valuesAt (p0 : Int) (p1 : (List GShare)) (p2 : UInt8) : Option ((List UInt8)) :=
  (idx p1 (0 : Int)).bind fun (x1 : GShare) => (mkS 1 (0 : UInt8) (x1.Data.length : Int)).bind fun (l9 : (List UInt8)) => (iter (L0_impl_field_valuesAt p0 p1 p2) (0, l9) : Option ((List UInt8))).bind fun (j13 : (List UInt8)) => some j13
set_option maxRecDepth 20000 in
set_option maxHeartbeats 400000 in
theorem c_impl_field_valuesAt (w0 : World) (p0 : Int) (p1 : (List GShare)) (v1_1 : Value) (hv1_1 : Ro w0 p1 [v1_1]) (p2 : UInt8) (r : (List UInt8)) (hF : F_impl_field_valuesAt p0 p1 p2 = some r) :
    Calls Try.prog 139 [(vI p0), v1_1, (vB p2)].toArray w0 (fun en w' => ∃ v, en = .returned v ∧ (∃ (y1 : Value), v = y1 ∧ Fr w0 w' [osl NoB (r : List UInt8) y1] ∧ Kept (Old w0) w0 w')) := by
  refine c_enter (n := 76) Try.func139 rfl rfl (Nat.le_of_ble_eq_true rfl) rfl ?_
  intro a hE
  have hM := M.start w0
  unfold F_impl_field_valuesAt at hF
  refine c_region ?_
  refine s_assign hE goes_none (by decide) rfl ?_; intro a hE
  refine c_fin ?_
  refine c_region ?_
  refine s_move hE goes_none (by decide) rfl ?_; intro a hE
  obtain ⟨x1, e2, hF⟩ := bind_some hF
  have hi3 := idx_some e2
  refine s_indexS hE goes_none (by decide) rfl rfl Try.underlying29 ty26 (hM.rd hv1_1) hi3.1 ?_; intro a hE
  refine s_fieldAddr hE goes_none (by decide) rfl (fd26_1) ?_; intro a hE
  obtain ⟨cs4, hs5, hA6⟩ := sl_atRo hv1_1 hi3.2 -- ^
  obtain ⟨u7, rfl, h8⟩ := un_GShare hs5 -- ^
  refine s_load (v := u7) hE goes_none (by decide) rfl ty24 rfl (At.cat (pre := [[(vB x1.Place)]]) (seg := [u7]) (post := []) (hM.atk hA6 (sl_blk hv1_1 hi3.2)) (cl1 (n := 1) (m := 0) rfl cl0)) ?_; intro a hE
  refine s_len hE goes_none (by decide) rfl Try.underlying24 (hM.rd h8) ?_; intro a hE
  obtain ⟨l9, e10, hF⟩ := bind_some hF
  refine s_make hE hM goes_none (by decide) rfl rfl Try.underlying24 ty5 rfl (by decide) (fun _ => sat_flat.2 ⟨rfl, rfl⟩) e10 ?_; intro u11 w a hM hE
  refine s_assign hE goes_none (by decide) rfl ?_; intro a hE
  refine c_fin ?_
  refine wp_seq ?_
  refine c_region ?_
  refine s_move hE goes_none (by decide) rfl ?_; intro a hE
  refine s_len hE goes_none (by decide) rfl Try.underlying29 (hM.rd hv1_1) ?_; intro a hE
  refine s_move hE goes_none (by decide) rfl ?_; intro a hE
  refine c_fin ?_
  obtain ⟨j13, hl14, hF15⟩ := bind_some hF
  refine c_cut (fun a w => ∃ (u16 : Value), Env 76 a [(7, u16)] ∧ M (Old w0) w0 w [osl NoB (j13 : List UInt8) u16]) ?_ ?_
  · skip
    refine wp_block ?_
    refine c_loop (fun (s18 : Int × (List UInt8)) a w => ∃ (u19 : Value), Env 76 a [(0, (vI p0)), (1, v1_1), (2, (vB p2)), (7, u19), (21, v1_1), (22, (vI (p1.length : Int))), (23, (vI s18.1))] ∧ M (Old w0) w0 w [osl NoB (s18.2 : List UInt8) u19]) hl14 ⟨u11, hE.sub ⟨rfl, rfl, rfl, rfl, rfl, rfl, rfl, trivial⟩, hM⟩ ?_
    rintro s18 a w ⟨u19, hE, hM⟩ o23 hs21 hx22
    unfold L0_impl_field_valuesAt at hs21
    refine c_region ?_
    refine s_int hE goes_none (by decide) rfl rfl rfl ?_; intro a hE
    refine c_fin ?_
    refine wp_seq ?_
    refine c_cond hE rfl ?_ ?_
    · intro hb24
      have hs21 := ite_t hs21 hb24
      refine wp_skip ?_
      refine c_nx ?_
      refine wp_seq ?_
      refine wp_block ?_
      refine c_region ?_
      obtain ⟨x25, e26, hs21⟩ := bind_some hs21
      have hi27 := idx_some e26
      refine s_indexS hE goes_none (by decide) rfl rfl Try.underlying29 ty26 (hM.rd hv1_1) hi27.1 ?_; intro a hE
      obtain ⟨cs28, hs29, hA30⟩ := sl_atRo hv1_1 hi27.2 -- ^
      obtain ⟨u31, rfl, h32⟩ := un_GShare hs29 -- ^
      refine s_loadA (cs := cat [[(vB x25.Place)], [u31]]) hE goes_none (by decide) rfl ty26 rfl (hM.atk hA30 (sl_blk hv1_1 hi27.2)) (cat_len (cl1 (n := 1) (m := 1) rfl (cl1 (n := 1) (m := 0) rfl cl0))) ?_; intro a hE
      refine s_alloc hE hM goes_none (by decide) ty26 ?_; intro b33 w a hM hE
      refine s_store (seg := cat [[(vB x25.Place)], [u31]]) (cs' := cat [[(vB x25.Place)], [u31]]) hE hM goes_none rfl rfl rfl ty26 (cat_len (cl1 (n := 1) (m := 1) rfl (cl1 (n := 1) (m := 0) rfl cl0))) (Nat.le_of_eq ((Nat.zero_add _).trans (Eq.trans (cat_len (cl1 (n := 1) (m := 1) rfl (cl1 (n := 1) (m := 0) rfl cl0))) (Eq.symm (cat_len (cl1 (n := 1) (m := 1) rfl (cl1 (n := 1) (m := 0) rfl cl0))))))) (cat_cell (cc1 (Flat.cell (x25.Place : UInt8)) (cc1 (Rep.cell (hM.rd h32)) cc0))) (splice_all (Eq.trans (cat_len (cl1 (n := 1) (m := 1) rfl (cl1 (n := 1) (m := 0) rfl cl0))) (Eq.symm (cat_len (cl1 (n := 1) (m := 1) rfl (cl1 (n := 1) (m := 0) rfl cl0)))))) ?_; intro w a hM hE
      refine c_fin ?_
      refine c_region ?_
      refine s_assign hE goes_none (by decide) rfl ?_; intro a hE
      refine c_fin ?_
      refine wp_seq ?_
      refine c_region ?_
      refine s_move hE goes_none (by decide) rfl ?_; intro a hE
      refine s_len hE goes_none (by decide) rfl Try.underlying29 (hM.rd hv1_1) ?_; intro a hE
      refine s_move hE goes_none (by decide) rfl ?_; intro a hE
      refine c_fin ?_
      obtain ⟨j35, hl36, hF37⟩ := bind_some hs21
      refine c_cut (fun a w => Env 76 a [(0, (vI p0)), (1, v1_1), (2, (vB p2)), (7, u19), (9, (ptr b33 0)), (10, (vB j35)), (21, v1_1), (22, (vI (p1.length : Int))), (23, (vI s18.1))] ∧ M (Old w0) w0 w [raw b33 (cat [[(vB x25.Place)], [u31]]), osl NoB (s18.2 : List UInt8) u19]) ?_ ?_
      · skip
        refine wp_block ?_
        refine c_loop (fun (s38 : UInt8 × Int) a w => Env 76 a [(0, (vI p0)), (1, v1_1), (2, (vB p2)), (7, u19), (9, (ptr b33 0)), (10, (vB s38.1)), (21, v1_1), (22, (vI (p1.length : Int))), (23, (vI s18.1)), (27, v1_1), (28, (vI (p1.length : Int))), (29, (vI s38.2))] ∧ M (Old w0) w0 w [raw b33 (cat [[(vB x25.Place)], [u31]]), osl NoB (s18.2 : List UInt8) u19]) hl36 ⟨hE.sub ⟨rfl, rfl, rfl, rfl, rfl, rfl, rfl, rfl, rfl, rfl, rfl, rfl, trivial⟩, hM⟩ ?_
        rintro s38 a w ⟨hE, hM⟩ o41 hs39 hx40
        unfold L1_impl_field_valuesAt at hs39
        refine c_region ?_
        refine s_int hE goes_none (by decide) rfl rfl rfl ?_; intro a hE
        refine c_fin ?_
        refine wp_seq ?_
        refine c_cond hE rfl ?_ ?_
        · intro hb42
          have hs39 := ite_t hs39 hb42
          refine wp_skip ?_
          refine c_nx ?_
          obtain ⟨j43, hl44, hF45⟩ := bind_some hs39
          refine c_join (fun a w => Env 76 a [(0, (vI p0)), (1, v1_1), (2, (vB p2)), (7, u19), (9, (ptr b33 0)), (10, (vB j43)), (21, v1_1), (22, (vI (p1.length : Int))), (23, (vI s18.1)), (27, v1_1), (28, (vI (p1.length : Int))), (29, (vI s38.2))] ∧ M (Old w0) w0 w [raw b33 (cat [[(vB x25.Place)], [u31]]), osl NoB (s18.2 : List UInt8) u19]) ?_ ?_
          · skip
            refine wp_block ?_
            refine c_region ?_
            obtain ⟨x46, e47, hl44⟩ := bind_some hl44
            have hi48 := idx_some e47
            refine s_indexS hE goes_none (by decide) rfl rfl Try.underlying29 ty26 (hM.rd hv1_1) hi48.1 ?_; intro a hE
            obtain ⟨cs49, hs50, hA51⟩ := sl_atRo hv1_1 hi48.2 -- ^
            obtain ⟨u52, rfl, h53⟩ := un_GShare hs50 -- ^
            refine s_loadA (cs := cat [[(vB x46.Place)], [u52]]) hE goes_none (by decide) rfl ty26 rfl (hM.atk hA51 (sl_blk hv1_1 hi48.2)) (cat_len (cl1 (n := 1) (m := 1) rfl (cl1 (n := 1) (m := 0) rfl cl0))) ?_; intro a hE
            refine s_alloc hE hM goes_none (by decide) ty26 ?_; intro b54 w a hM hE
            refine s_store (seg := cat [[(vB x46.Place)], [u52]]) (cs' := cat [[(vB x46.Place)], [u52]]) hE hM goes_none rfl rfl rfl ty26 (cat_len (cl1 (n := 1) (m := 1) rfl (cl1 (n := 1) (m := 0) rfl cl0))) (Nat.le_of_eq ((Nat.zero_add _).trans (Eq.trans (cat_len (cl1 (n := 1) (m := 1) rfl (cl1 (n := 1) (m := 0) rfl cl0))) (Eq.symm (cat_len (cl1 (n := 1) (m := 1) rfl (cl1 (n := 1) (m := 0) rfl cl0))))))) (cat_cell (cc1 (Flat.cell (x46.Place : UInt8)) (cc1 (Rep.cell (hM.rd h53)) cc0))) (splice_all (Eq.trans (cat_len (cl1 (n := 1) (m := 1) rfl (cl1 (n := 1) (m := 0) rfl cl0))) (Eq.symm (cat_len (cl1 (n := 1) (m := 1) rfl (cl1 (n := 1) (m := 0) rfl cl0)))))) ?_; intro w a hM hE
            refine c_fin ?_
            refine c_region ?_
            refine s_fieldAddr hE goes_none (by decide) rfl (fd26_0) ?_; intro a hE
            refine s_load (v := (vB x46.Place)) hE goes_none (by decide) rfl ty5 rfl (At.cat (pre := []) (seg := [(vB x46.Place)]) (post := [[u52]]) (hM.rawAt (pre := [])) cl0) ?_; intro a hE
            refine s_fieldAddr hE goes_none (by decide) rfl (fd26_0) ?_; intro a hE
            refine s_load (v := (vB x25.Place)) hE goes_none (by decide) rfl ty5 rfl (At.cat (pre := []) (seg := [(vB x25.Place)]) (post := [[u31]]) (hM.rawAt (pre := [_])) cl0) ?_; intro a hE
            refine s_int hE goes_none (by decide) rfl rfl (bB_neq x46.Place x25.Place) ?_; intro a hE
            refine c_fin ?_
            obtain ⟨j56, hl57, hF58⟩ := bind_some hl44
            refine c_cut (fun a w => Env 76 a [(0, (vI p0)), (1, v1_1), (2, (vB p2)), (7, u19), (9, (ptr b33 0)), (10, (vB j56)), (21, v1_1), (22, (vI (p1.length : Int))), (23, (vI s18.1)), (27, v1_1), (28, (vI (p1.length : Int))), (29, (vI s38.2))] ∧ M (Old w0) w0 w [raw b33 (cat [[(vB x25.Place)], [u31]]), osl NoB (s18.2 : List UInt8) u19]) ?_ ?_
            · skip
              refine c_cond hE rfl ?_ ?_
              · intro hb59
                have hl57 := ite_t hl57 hb59
                obtain ⟨r61, e62, hl57⟩ := bind_some hl57
                obtain ⟨r63, e64, hl57⟩ := bind_some hl57
                obtain ⟨r65, e66, hl57⟩ := bind_some hl57
                refine c_draw (n := 76) (hd := [_, _, _, _, _, _, _, _, _, _, _, _, _, _, _, _]) (tl := [_]) hmix rfl rfl [38, 39, 40, 41, 42, 43, 44, 45, 46, 47, 48, 49, 50, 51, 52, 53] (by decide) (fun w => M (Old w0) w0 w [raw b54 (cat [[(vB x46.Place)], [u52]]), raw b33 (cat [[(vB x25.Place)], [u31]]), osl NoB (s18.2 : List UInt8) u19]) (fun j => ([fun v _ => v = (vI p0), fun v _ => v = (vB s38.1), fun v _ => v = (vI p0), fun v _ => v = (vB p2), fun v _ => v = (ptr b54 (0 + 0)), fun v _ => v = (vB x46.Place), fun v _ => v = (vB (p2 ^^^ x46.Place)), fun v _ => v = (vI p0), fun v _ => v = (ptr b33 (0 + 0)), fun v _ => v = (vB x25.Place), fun v _ => v = (ptr b54 (0 + 0)), fun v _ => v = (vB x46.Place), fun v _ => v = (vB (x25.Place ^^^ x46.Place)), fun v _ => v = (vB r61), fun v _ => v = (vB r63), fun v _ => v = (vB r65)] : List (Value → World → Prop)).getD j (fun _ _ => True)) (fun _ _ h hk => h.keep hk) (gup (gupE (gupE (gupE (gupE (gupE (gupE (gupE (gupE (gupE (gupE (gupE (gupE (gupE (gupE (gupE (gupE gupN))))))))))))))))) hE hM.drew (steps_of (steps_cons ?_ (steps_cons ?_ (steps_cons ?_ (steps_cons ?_ (steps_cons ?_ (steps_cons ?_ (steps_cons ?_ (steps_cons ?_ (steps_cons ?_ (steps_cons ?_ (steps_cons ?_ (steps_cons ?_ (steps_cons ?_ (steps_cons ?_ (steps_cons ?_ (steps_cons ?_ steps_nil))))))))))))))))) ?_
                · intro a w ux60 hE hM hp
                  refine s_move hE goes_none (by decide) rfl ?_; intro a hE
                  exact ⟨Kept.refl _ _, _, _, rfl, hE, rfl⟩
                · intro a w ux60 hE hM hp
                  refine s_move hE goes_none (by decide) rfl ?_; intro a hE
                  exact ⟨Kept.refl _ _, _, _, rfl, hE, rfl⟩
                · intro a w ux60 hE hM hp
                  refine s_move hE goes_none (by decide) rfl ?_; intro a hE
                  exact ⟨Kept.refl _ _, _, _, rfl, hE, rfl⟩
                · intro a w ux60 hE hM hp
                  refine s_move hE goes_none (by decide) rfl ?_; intro a hE
                  exact ⟨Kept.refl _ _, _, _, rfl, hE, rfl⟩
                · intro a w ux60 hE hM hp
                  refine s_fieldAddr hE goes_none (by decide) rfl (fd26_0) ?_; intro a hE
                  exact ⟨Kept.refl _ _, _, _, rfl, hE, rfl⟩
                · intro a w ux60 hE hM hp
                  have f4 : ux60 4 = (ptr b54 (0 + 0)) := hp 0 _ rfl rfl
                  refine s_load (v := (vB x46.Place)) hE goes_none (by decide) (lk rfl f4) ty5 rfl (At.cat (pre := []) (seg := [(vB x46.Place)]) (post := [[u52]]) (hM.rawAt (pre := [])) cl0) ?_; intro a hE
                  exact ⟨Kept.refl _ _, _, _, rfl, hE, rfl⟩
                · intro a w ux60 hE hM hp
                  have f3 : ux60 3 = (vB p2) := hp 0 _ rfl rfl
                  have f5 : ux60 5 = (vB x46.Place) := hp 1 _ rfl rfl
                  refine s_int hE goes_none (by decide) (lk rfl f3) (lk rfl f5) (bB_xor p2 x46.Place) ?_; intro a hE
                  exact ⟨Kept.refl _ _, _, _, rfl, hE, rfl⟩
                · intro a w ux60 hE hM hp
                  refine s_move hE goes_none (by decide) rfl ?_; intro a hE
                  exact ⟨Kept.refl _ _, _, _, rfl, hE, rfl⟩
                · intro a w ux60 hE hM hp
                  refine s_fieldAddr hE goes_none (by decide) rfl (fd26_0) ?_; intro a hE
                  exact ⟨Kept.refl _ _, _, _, rfl, hE, rfl⟩
                · intro a w ux60 hE hM hp
                  have f8 : ux60 8 = (ptr b33 (0 + 0)) := hp 0 _ rfl rfl
                  refine s_load (v := (vB x25.Place)) hE goes_none (by decide) (lk rfl f8) ty5 rfl (At.cat (pre := []) (seg := [(vB x25.Place)]) (post := [[u31]]) (hM.rawAt (pre := [_])) cl0) ?_; intro a hE
                  exact ⟨Kept.refl _ _, _, _, rfl, hE, rfl⟩
                · intro a w ux60 hE hM hp
                  refine s_fieldAddr hE goes_none (by decide) rfl (fd26_0) ?_; intro a hE
                  exact ⟨Kept.refl _ _, _, _, rfl, hE, rfl⟩
                · intro a w ux60 hE hM hp
                  have f10 : ux60 10 = (ptr b54 (0 + 0)) := hp 0 _ rfl rfl
                  refine s_load (v := (vB x46.Place)) hE goes_none (by decide) (lk rfl f10) ty5 rfl (At.cat (pre := []) (seg := [(vB x46.Place)]) (post := [[u52]]) (hM.rawAt (pre := [])) cl0) ?_; intro a hE
                  exact ⟨Kept.refl _ _, _, _, rfl, hE, rfl⟩
                · intro a w ux60 hE hM hp
                  have f9 : ux60 9 = (vB x25.Place) := hp 0 _ rfl rfl
                  have f11 : ux60 11 = (vB x46.Place) := hp 1 _ rfl rfl
                  refine s_int hE goes_none (by decide) (lk rfl f9) (lk rfl f11) (bB_xor x25.Place x46.Place) ?_; intro a hE
                  exact ⟨Kept.refl _ _, _, _, rfl, hE, rfl⟩
                · intro a w ux60 hE hM hp
                  have f7 : ux60 7 = (vI p0) := hp 0 _ rfl rfl
                  have f12 : ux60 12 = (vB (x25.Place ^^^ x46.Place)) := hp 1 _ rfl rfl
                  refine s_call (vs := [(vI p0), (vB (x25.Place ^^^ x46.Place))]) hE goes_none (by decide) (evs_of (evsC (lk rfl f7) (evsC (lk rfl f12) evsN))) cb190 (c_impl_field_inverse _ p0 (x25.Place ^^^ x46.Place) r61 e62) ?_
                  rintro v w a ⟨rfl, hK⟩ hE
                  exact ⟨hK, _, _, rfl, hE, rfl⟩
                · intro a w ux60 hE hM hp
                  have f2 : ux60 2 = (vI p0) := hp 0 _ rfl rfl
                  have f6 : ux60 6 = (vB (p2 ^^^ x46.Place)) := hp 1 _ rfl rfl
                  have f13 : ux60 13 = (vB r61) := hp 2 _ rfl rfl
                  refine s_call (vs := [(vI p0), (vB (p2 ^^^ x46.Place)), (vB r61)]) hE goes_none (by decide) (evs_of (evsC (lk rfl f2) (evsC (lk rfl f6) (evsC (lk rfl f13) evsN)))) cb189 (c_impl_field_times _ p0 (p2 ^^^ x46.Place) r61 r63 e64) ?_
                  rintro v w a ⟨rfl, hK⟩ hE
                  exact ⟨hK, _, _, rfl, hE, rfl⟩
                · intro a w ux60 hE hM hp
                  have f0 : ux60 0 = (vI p0) := hp 0 _ rfl rfl
                  have f1 : ux60 1 = (vB s38.1) := hp 1 _ rfl rfl
                  have f14 : ux60 14 = (vB r63) := hp 2 _ rfl rfl
                  refine s_call (vs := [(vI p0), (vB s38.1), (vB r63)]) hE goes_none (by decide) (evs_of (evsC (lk rfl f0) (evsC (lk rfl f1) (evsC (lk rfl f14) evsN)))) cb189 (c_impl_field_times _ p0 s38.1 r63 r65 e66) ?_
                  rintro v w a ⟨rfl, hK⟩ hE
                  exact ⟨hK, _, _, rfl, hE, rfl⟩
                · intro a w ux60 hE hM hg
                  have f0 : ux60 0 = (vI p0) := hg 0 (by decide)
                  have f1 : ux60 1 = (vB s38.1) := hg 1 (by decide)
                  have f2 : ux60 2 = (vI p0) := hg 2 (by decide)
                  have f3 : ux60 3 = (vB p2) := hg 3 (by decide)
                  have f4 : ux60 4 = (ptr b54 (0 + 0)) := hg 4 (by decide)
                  have f5 : ux60 5 = (vB x46.Place) := hg 5 (by decide)
                  have f6 : ux60 6 = (vB (p2 ^^^ x46.Place)) := hg 6 (by decide)
                  have f7 : ux60 7 = (vI p0) := hg 7 (by decide)
                  have f8 : ux60 8 = (ptr b33 (0 + 0)) := hg 8 (by decide)
                  have f9 : ux60 9 = (vB x25.Place) := hg 9 (by decide)
                  have f10 : ux60 10 = (ptr b54 (0 + 0)) := hg 10 (by decide)
                  have f11 : ux60 11 = (vB x46.Place) := hg 11 (by decide)
                  have f12 : ux60 12 = (vB (x25.Place ^^^ x46.Place)) := hg 12 (by decide)
                  have f13 : ux60 13 = (vB r61) := hg 13 (by decide)
                  have f14 : ux60 14 = (vB r63) := hg 14 (by decide)
                  have f15 : ux60 15 = (vB r65) := hg 15 (by decide)
                  have hE := hE.sub (e' := [(38, (vI p0)), (39, (vB s38.1)), (40, (vI p0)), (41, (vB p2)), (42, (ptr b54 (0 + 0))), (43, (vB x46.Place)), (44, (vB (p2 ^^^ x46.Place))), (45, (vI p0)), (46, (ptr b33 (0 + 0))), (47, (vB x25.Place)), (48, (ptr b54 (0 + 0))), (49, (vB x46.Place)), (50, (vB (x25.Place ^^^ x46.Place))), (51, (vB r61)), (52, (vB r63)), (53, (vB r65)), (0, (vI p0)), (1, v1_1), (2, (vB p2)), (7, u19), (9, (ptr b33 0)), (10, (vB s38.1)), (12, (ptr b54 0)), (21, v1_1), (22, (vI (p1.length : Int))), (23, (vI s18.1)), (27, v1_1), (28, (vI (p1.length : Int))), (29, (vI s38.2)), (30, (vT (decide (s38.2 < (p1.length : Int))))), (31, (ptr (sb v1_1) (so v1_1 + (s38.2).toNat * 2))), (32, (Value.agg (cat [[(vB x46.Place)], [u52]]).toArray)), (33, (ptr b54 (0 + 0))), (34, (vB x46.Place)), (35, (ptr b33 (0 + 0))), (36, (vB x25.Place)), (37, (vT (x46.Place != x25.Place)))]) ⟨lk rfl f0, lk rfl f1, lk rfl f2, lk rfl f3, lk rfl f4, lk rfl f5, lk rfl f6, lk rfl f7, lk rfl f8, lk rfl f9, lk rfl f10, lk rfl f11, lk rfl f12, lk rfl f13, lk rfl f14, lk rfl f15, rfl, rfl, rfl, rfl, rfl, rfl, rfl, rfl, rfl, rfl, rfl, rfl, rfl, rfl, rfl, rfl, rfl, rfl, rfl, rfl, rfl, trivial⟩
                  refine s_assign hE goes_none (by decide) rfl ?_; intro a hE
                  refine c_fin0 ?_
                  have ht67 := Option.some.inj hl57
                  subst ht67
                  refine c_mid ?_
                  have hM := hM.pull (pre := [_, _])
                  have hM := hM.pull (pre := [_, _])
                  have hM := M.fst (l := [_, _]) hM
                  exact ⟨hE.sub ⟨rfl, rfl, rfl, rfl, rfl, rfl, rfl, rfl, rfl, rfl, rfl, rfl, trivial⟩, hM⟩
              · intro hb59
                have hl57 := ite_f hl57 hb59
                refine wp_skip ?_
                have ht68 := Option.some.inj hl57
                subst ht68
                refine c_mid ?_
                have hM := hM.pull (pre := [_, _])
                have hM := hM.pull (pre := [_, _])
                have hM := M.fst (l := [_, _]) hM
                exact ⟨hE.sub ⟨rfl, rfl, rfl, rfl, rfl, rfl, rfl, rfl, rfl, rfl, rfl, rfl, trivial⟩, hM⟩
            · skip
              rintro a w ⟨hE, hM⟩
              refine c_nb ?_
              have ht69 := Option.some.inj hF58
              subst ht69
              refine c_mid ?_
              exact ⟨hE.sub ⟨rfl, rfl, rfl, rfl, rfl, rfl, rfl, rfl, rfl, rfl, rfl, rfl, trivial⟩, hM⟩
          · skip
            rintro a w ⟨hE, hM⟩
            refine wp_region_lit ?_
            refine s_int hE goes_none (by decide) rfl rfl rfl ?_; intro a hE
            refine s_move hE goes_none (by decide) rfl ?_; intro a hE
            refine c_fin0 ?_
            refine c_mid ?_
            exact ⟨_, (Option.some.inj hF45).symm, hE.sub ⟨rfl, rfl, rfl, rfl, rfl, rfl, rfl, rfl, rfl, rfl, rfl, rfl, trivial⟩, hM⟩
        · intro hb42
          have hs39 := ite_f hs39 hb42
          refine wp_exit (e_then (e_then (e_eq ?_)))
          have ht70 := hx40 _ (Option.some.inj hs39).symm
          subst ht70
          refine c_mid ?_
          exact ⟨hE.sub ⟨rfl, rfl, rfl, rfl, rfl, rfl, rfl, rfl, rfl, trivial⟩, hM⟩
      · skip
        rintro a w ⟨hE, hM⟩
        refine c_nx ?_
        refine c_region ?_
        refine s_fieldAddr hE goes_none (by decide) rfl (fd26_1) ?_; intro a hE
        refine s_load (v := u31) hE goes_none (by decide) rfl ty24 rfl (At.cat (pre := [[(vB x25.Place)]]) (seg := [u31]) (post := []) (hM.rawAt (pre := [])) (cl1 (n := 1) (m := 0) rfl cl0)) ?_; intro a hE
        refine s_len hE goes_none (by decide) rfl Try.underlying24 (hM.rd h32) ?_; intro a hE
        refine s_move hE goes_none (by decide) rfl ?_; intro a hE
        refine c_fin ?_
        obtain ⟨j71, hl72, hF73⟩ := bind_some hF37
        refine c_cut (fun a w => ∃ (u74 : Value), Env 76 a [(0, (vI p0)), (1, v1_1), (2, (vB p2)), (7, u74), (21, v1_1), (22, (vI (p1.length : Int))), (23, (vI s18.1))] ∧ M (Old w0) w0 w [osl NoB (j71 : List UInt8) u74]) ?_ ?_
        · skip
          refine wp_block ?_
          have hM := hM.pull (pre := [_])
          have hM := M.fst (l := [_]) hM
          refine c_loop (fun (s76 : Int × (List UInt8)) a w => ∃ (u77 : Value), Env 76 a [(0, (vI p0)), (1, v1_1), (2, (vB p2)), (7, u77), (10, (vB j35)), (21, v1_1), (22, (vI (p1.length : Int))), (23, (vI s18.1)), (56, u31), (57, (vI (x25.Data.length : Int))), (58, (vI s76.1))] ∧ M (Old w0) w0 w [osl NoB (s76.2 : List UInt8) u77]) hl72 ⟨u19, hE.sub ⟨rfl, rfl, rfl, rfl, rfl, rfl, rfl, rfl, rfl, rfl, rfl, trivial⟩, hM⟩ ?_
          rintro s76 a w ⟨u77, hE, hM⟩ o81 hs79 hx80
          unfold L2_impl_field_valuesAt at hs79
          refine c_region ?_
          refine s_int hE goes_none (by decide) rfl rfl rfl ?_; intro a hE
          refine c_fin ?_
          refine wp_seq ?_
          refine c_cond hE rfl ?_ ?_
          · intro hb82
            have hs79 := ite_t hs79 hb82
            refine wp_skip ?_
            refine c_nx ?_
            refine wp_seq ?_
            refine wp_block ?_
            refine c_region ?_
            refine s_move hE goes_none (by decide) rfl ?_; intro a hE
            obtain ⟨x83, e84, hs79⟩ := bind_some hs79
            have hi85 := idx_some e84
            refine s_indexS hE goes_none (by decide) rfl rfl Try.underlying24 ty5 (hM.rd h32) hi85.1 ?_; intro a hE
            refine s_load (v := (vB x83)) hE goes_none (by decide) rfl ty5 rfl (sl_atF (hM.rd h32) hi85.2) ?_; intro a hE
            refine s_assign hE goes_none (by decide) rfl ?_; intro a hE
            refine s_assign hE goes_none (by decide) rfl ?_; intro a hE
            refine c_fin ?_
            obtain ⟨x87, e88, hs79⟩ := bind_some hs79
            have hi89 := idx_some e88
            obtain ⟨r90, e91, hs79⟩ := bind_some hs79
            obtain ⟨x92, e93, hs79⟩ := bind_some hs79
            have hi94 := idx_some e93
            refine c_draw (n := 76) (hd := [_, _, _, _, _, _, _, _, _, _]) (tl := [_]) hmix rfl rfl [63, 64, 65, 66, 67, 68, 69, 70, 71, 72] (by decide) (fun w => M (Old w0) w0 w [osl NoB (s76.2 : List UInt8) u77]) (fun j => ([fun v _ => v = u77, fun v _ => v = (vI s76.1), fun v _ => v = (ptr (sb u77) (so u77 + (s76.1).toNat * 1)), fun v _ => v = (vB x87), fun v _ => v = (vI p0), fun v _ => v = (vB x83), fun v _ => v = (vB j35), fun v _ => v = (vB r90), fun v _ => v = (vB (x87 ^^^ r90)), fun v _ => v = (ptr (sb u77) (so u77 + (s76.1).toNat * 1))] : List (Value → World → Prop)).getD j (fun _ _ => True)) (fun _ _ h hk => h.keep hk) (gup (gupE (gupE (gupE (gupE (gupE (gupE (gupE (gupE (gupE (gupE gupN))))))))))) hE hM.drew (steps_of (steps_cons ?_ (steps_cons ?_ (steps_cons ?_ (steps_cons ?_ (steps_cons ?_ (steps_cons ?_ (steps_cons ?_ (steps_cons ?_ (steps_cons ?_ (steps_cons ?_ steps_nil))))))))))) ?_
            · intro a w ux86 hE hM hp
              refine s_move hE goes_none (by decide) rfl ?_; intro a hE
              exact ⟨Kept.refl _ _, _, _, rfl, hE, rfl⟩
            · intro a w ux86 hE hM hp
              refine s_move hE goes_none (by decide) rfl ?_; intro a hE
              exact ⟨Kept.refl _ _, _, _, rfl, hE, rfl⟩
            · intro a w ux86 hE hM hp
              have f0 : ux86 0 = u77 := hp 0 _ rfl rfl
              have f1 : ux86 1 = (vI s76.1) := hp 1 _ rfl rfl
              refine s_indexS hE goes_none (by decide) (lk rfl f0) (lk rfl f1) Try.underlying24 ty5 (hM.sl (pre := []) noB) hi89.1 ?_; intro a hE
              exact ⟨Kept.refl _ _, _, _, rfl, hE, rfl⟩
            · intro a w ux86 hE hM hp
              have f2 : ux86 2 = (ptr (sb u77) (so u77 + (s76.1).toNat * 1)) := hp 0 _ rfl rfl
              refine s_load (v := (vB x87)) hE goes_none (by decide) (lk rfl f2) ty5 rfl (sl_atF (hM.sl (pre := []) noB) hi89.2) ?_; intro a hE
              exact ⟨Kept.refl _ _, _, _, rfl, hE, rfl⟩
            · intro a w ux86 hE hM hp
              refine s_move hE goes_none (by decide) rfl ?_; intro a hE
              exact ⟨Kept.refl _ _, _, _, rfl, hE, rfl⟩
            · intro a w ux86 hE hM hp
              refine s_move hE goes_none (by decide) rfl ?_; intro a hE
              exact ⟨Kept.refl _ _, _, _, rfl, hE, rfl⟩
            · intro a w ux86 hE hM hp
              refine s_move hE goes_none (by decide) rfl ?_; intro a hE
              exact ⟨Kept.refl _ _, _, _, rfl, hE, rfl⟩
            · intro a w ux86 hE hM hp
              have f4 : ux86 4 = (vI p0) := hp 0 _ rfl rfl
              have f5 : ux86 5 = (vB x83) := hp 1 _ rfl rfl
              have f6 : ux86 6 = (vB j35) := hp 2 _ rfl rfl
              refine s_call (vs := [(vI p0), (vB x83), (vB j35)]) hE goes_none (by decide) (evs_of (evsC (lk rfl f4) (evsC (lk rfl f5) (evsC (lk rfl f6) evsN)))) cb189 (c_impl_field_times _ p0 x83 j35 r90 e91) ?_
              rintro v w a ⟨rfl, hK⟩ hE
              exact ⟨hK, _, _, rfl, hE, rfl⟩
            · intro a w ux86 hE hM hp
              have f3 : ux86 3 = (vB x87) := hp 0 _ rfl rfl
              have f7 : ux86 7 = (vB r90) := hp 1 _ rfl rfl
              refine s_int hE goes_none (by decide) (lk rfl f3) (lk rfl f7) (bB_xor x87 r90) ?_; intro a hE
              exact ⟨Kept.refl _ _, _, _, rfl, hE, rfl⟩
            · intro a w ux86 hE hM hp
              have f0 : ux86 0 = u77 := hp 0 _ rfl rfl
              have f1 : ux86 1 = (vI s76.1) := hp 1 _ rfl rfl
              refine s_indexS hE goes_none (by decide) (lk rfl f0) (lk rfl f1) Try.underlying24 ty5 (hM.sl (pre := []) noB) hi94.1 ?_; intro a hE
              exact ⟨Kept.refl _ _, _, _, rfl, hE, rfl⟩
            · intro a w ux86 hE hM hg
              have f0 : ux86 0 = u77 := hg 0 (by decide)
              have f1 : ux86 1 = (vI s76.1) := hg 1 (by decide)
              have f2 : ux86 2 = (ptr (sb u77) (so u77 + (s76.1).toNat * 1)) := hg 2 (by decide)
              have f3 : ux86 3 = (vB x87) := hg 3 (by decide)
              have f4 : ux86 4 = (vI p0) := hg 4 (by decide)
              have f5 : ux86 5 = (vB x83) := hg 5 (by decide)
              have f6 : ux86 6 = (vB j35) := hg 6 (by decide)
              have f7 : ux86 7 = (vB r90) := hg 7 (by decide)
              have f8 : ux86 8 = (vB (x87 ^^^ r90)) := hg 8 (by decide)
              have f9 : ux86 9 = (ptr (sb u77) (so u77 + (s76.1).toNat * 1)) := hg 9 (by decide)
              have hE := hE.sub (e' := [(63, u77), (64, (vI s76.1)), (65, (ptr (sb u77) (so u77 + (s76.1).toNat * 1))), (66, (vB x87)), (67, (vI p0)), (68, (vB x83)), (69, (vB j35)), (70, (vB r90)), (71, (vB (x87 ^^^ r90))), (72, (ptr (sb u77) (so u77 + (s76.1).toNat * 1))), (0, (vI p0)), (1, v1_1), (2, (vB p2)), (7, u77), (10, (vB j35)), (13, (vI s76.1)), (14, (vB x83)), (21, v1_1), (22, (vI (p1.length : Int))), (23, (vI s18.1)), (56, u31), (57, (vI (x25.Data.length : Int))), (58, (vI s76.1)), (59, (vT (decide (s76.1 < (x25.Data.length : Int))))), (60, (vI s76.1)), (61, (ptr (sb u31) (so u31 + (s76.1).toNat * 1))), (62, (vB x83))]) ⟨lk rfl f0, lk rfl f1, lk rfl f2, lk rfl f3, lk rfl f4, lk rfl f5, lk rfl f6, lk rfl f7, lk rfl f8, lk rfl f9, rfl, rfl, rfl, rfl, rfl, rfl, rfl, rfl, rfl, rfl, rfl, rfl, rfl, rfl, rfl, rfl, rfl, trivial⟩
              refine s_storeS (i := (s76.1).toNat) (k0 := 0) (seg := [(vB (x87 ^^^ r90))]) (xo := x92) (xn := x87 ^^^ r90) hE hM goes_none rfl rfl rfl ty5 rfl (Flat.cell (x87 ^^^ r90 : UInt8)) hi94.2 (fit_num (m := 1) rfl (by decide)) (splice_all (Eq.trans rfl (Eq.symm rfl))) ?_; intro w a hM hE
              refine c_fin0 ?_
              refine c_nb ?_
              refine c_nx ?_
              refine wp_region_lit ?_
              refine s_int hE goes_none (by decide) rfl rfl rfl ?_; intro a hE
              refine s_move hE goes_none (by decide) rfl ?_; intro a hE
              refine c_fin0 ?_
              refine c_mid ?_
              exact ⟨_, (Option.some.inj hs79).symm, u77, hE.sub ⟨rfl, rfl, rfl, rfl, rfl, rfl, rfl, rfl, rfl, rfl, rfl, trivial⟩, hM⟩
          · intro hb82
            have hs79 := ite_f hs79 hb82
            refine wp_exit (e_then (e_then (e_eq ?_)))
            have ht95 := hx80 _ (Option.some.inj hs79).symm
            subst ht95
            refine c_mid ?_
            exact ⟨u77, hE.sub ⟨rfl, rfl, rfl, rfl, rfl, rfl, rfl, trivial⟩, hM⟩
        · skip
          rintro a w ⟨u74, hE, hM⟩
          refine c_nb ?_
          refine c_nx ?_
          refine wp_region_lit ?_
          refine s_int hE goes_none (by decide) rfl rfl rfl ?_; intro a hE
          refine s_move hE goes_none (by decide) rfl ?_; intro a hE
          refine c_fin0 ?_
          refine c_mid ?_
          exact ⟨_, (Option.some.inj hF73).symm, u74, hE.sub ⟨rfl, rfl, rfl, rfl, rfl, rfl, rfl, trivial⟩, hM⟩
    · intro hb24
      have hs21 := ite_f hs21 hb24
      refine wp_exit (e_then (e_then (e_eq ?_)))
      have ht96 := hx22 _ (Option.some.inj hs21).symm
      subst ht96
      refine c_mid ?_
      exact ⟨u19, hE.sub ⟨rfl, trivial⟩, hM⟩
  · skip
    rintro a w ⟨u16, hE, hM⟩
    refine c_nx ?_
    refine c_region ?_
    refine s_move hE goes_none (by decide) rfl ?_; intro a hE
    refine s_assign hE goes_none (by decide) rfl ?_; intro a hE
    refine c_fin ?_
    have hr := Option.some.inj hF15
    subst hr
    exact wp_ret (k_ret1 hE rfl (res_tmp hE rfl) ⟨_, rfl, u16, rfl, hM.outF (locN1 locN0), hM.kept⟩)
noncomputable def F_bytes_Equal (p0 : (List UInt8)) (p1 : (List UInt8)) : Option (Bool) :=
  some (decide ((⟨p0⟩ : Str) = (⟨p1⟩ : Str)))
set_option maxRecDepth 20000 in
set_option maxHeartbeats 400000 in
theorem c_bytes_Equal (w0 : World) (p0 : (List UInt8)) (v0_1 : Value) (hv0_1 : Ro w0 p0 [v0_1]) (p1 : (List UInt8)) (v1_1 : Value) (hv1_1 : Ro w0 p1 [v1_1]) (r : Bool) (hF : F_bytes_Equal p0 p1 = some r) :
    Calls Try.prog 175 [v0_1, v1_1].toArray w0 (fun en w' => ∃ v, en = .returned v ∧ (v = (vT r) ∧ Kept (Old w0) w0 w')) := by
  refine c_enter (n := 10) Try.func175 rfl rfl (Nat.le_of_ble_eq_true rfl) rfl ?_
  intro a hE
  have hM := M.start w0
  unfold F_bytes_Equal at hF
  refine c_region ?_
  refine s_assign hE goes_none (by decide) rfl ?_; intro a hE
  refine c_fin ?_
  refine c_region ?_
  refine s_move hE goes_none (by decide) rfl ?_; intro a hE
  refine s_bytesStr hE goes_none (by decide) rfl Try.underlying24 Try.underlying5 Try.underlying9 (hM.rd hv0_1) ?_; intro a hE
  refine s_move hE goes_none (by decide) rfl ?_; intro a hE
  refine s_bytesStr hE goes_none (by decide) rfl Try.underlying24 Try.underlying5 Try.underlying9 (hM.rd hv1_1) ?_; intro a hE
  refine s_eqS hE goes_none (by decide) rfl rfl ?_; intro a hE
  refine s_assign hE goes_none (by decide) rfl ?_; intro a hE
  refine c_fin ?_
  have hr := Option.some.inj hF
  subst hr
  exact wp_ret (k_ret1 hE rfl (res_tmp hE rfl) ⟨_, rfl, rfl, hM.kept⟩)
noncomputable def L0_impl_field_fit (p0 : Int) (p1 : (List GShare)) (p2 : Int) (s5 : Int) : Option (Fl Int (Fl Unit Bool)) :=
  if (decide (s5 < (p1.length : Int))) = true then (((slc p1 (0 : Int) p2).bind fun (l14 : (List GShare)) => (idx p1 s5).bind fun (x17 : GShare) => (F_impl_field_valuesAt p0 l14 x17.Place).bind fun (r25 : (List UInt8)) => (idx p1 s5).bind fun (x28 : GShare) => (F_bytes_Equal r25 x28.Data).bind fun (r36 : Bool) => some (!r36) : Option (Bool)).bind fun (j10 : Bool) => if j10 = true then (some (Fl.ex (Fl.ex false))) else (some (Fl.nx (wr (s5 + 1))))) else (some (Fl.ex (Fl.nx ())))
noncomputable def F_impl_field_fit (p0 : Int) (p1 : (List GShare)) (p2 : Int) : Option (Bool) :=
  (iter (L0_impl_field_fit p0 p1 p2) p2 : Option (Fl Unit Bool)).bind fun (j1 : Fl Unit Bool) => j1.el (fun (s4 : Unit) => some true) (fun r => some r)
set_option maxRecDepth 20000 in
set_option maxHeartbeats 400000 in
theorem c_impl_field_fit (w0 : World) (p0 : Int) (p1 : (List GShare)) (v1_1 : Value) (hv1_1 : Ro w0 p1 [v1_1]) (p2 : Int) (r : Bool) (hF : F_impl_field_fit p0 p1 p2 = some r) :
    Calls Try.prog 121 [(vI p0), v1_1, (vI p2)].toArray w0 (fun en w' => ∃ v, en = .returned v ∧ (v = (vT r) ∧ Kept (Old w0) w0 w')) := by
  refine c_enter (n := 32) Try.func121 rfl rfl (Nat.le_of_ble_eq_true rfl) rfl ?_
  intro a hE
  have hM := M.start w0
  unfold F_impl_field_fit at hF
  refine c_region ?_
  refine s_assign hE goes_none (by decide) rfl ?_; intro a hE
  refine c_fin ?_
  refine wp_seq ?_
  refine c_region ?_
  refine s_move hE goes_none (by decide) rfl ?_; intro a hE
  refine s_assign hE goes_none (by decide) rfl ?_; intro a hE
  refine c_fin ?_
  obtain ⟨j1, hl2, hF3⟩ := bind_some hF
  refine c_cut (fun a w => ∃ s4 : Unit, j1 = Fl.nx s4 ∧ Env 32 a [] ∧ M (Old w0) w0 w []) ?_ ?_
  · skip
    refine wp_block ?_
    refine c_loop (fun (s5 : Int) a w => Env 32 a [(0, (vI p0)), (1, v1_1), (2, (vI p2)), (7, (vI s5))] ∧ M (Old w0) w0 w []) hl2 ⟨hE.sub ⟨rfl, rfl, rfl, rfl, trivial⟩, hM⟩ ?_
    rintro s5 a w ⟨hE, hM⟩ o8 hs6 hx7
    unfold L0_impl_field_fit at hs6
    refine wp_seq ?_
    refine c_region ?_
    refine s_move hE goes_none (by decide) rfl ?_; intro a hE
    refine s_move hE goes_none (by decide) rfl ?_; intro a hE
    refine s_len hE goes_none (by decide) rfl Try.underlying29 (hM.rd hv1_1) ?_; intro a hE
    refine s_int hE goes_none (by decide) rfl rfl rfl ?_; intro a hE
    refine c_fin ?_
    refine c_cond hE rfl ?_ ?_
    · intro hb9
      have hs6 := ite_t hs6 hb9
      refine wp_skip ?_
      refine c_nx ?_
      refine wp_seq ?_
      refine wp_block ?_
      obtain ⟨j10, hl11, hF12⟩ := bind_some hs6
      refine c_join (fun a w => Env 32 a [(0, (vI p0)), (1, v1_1), (2, (vI p2)), (7, (vI s5)), (31, (vT j10))] ∧ M (Old w0) w0 w []) ?_ ?_
      · skip
        obtain ⟨l14, e15, hl11⟩ := bind_some hl11
        have h16 : Rep.sat (Old w0) w0 l14 [(sliceV v1_1 ((0 : Int)).toNat (p2).toNat 2)] [] := ro_slice hv1_1 e15 -- ^
        obtain ⟨x17, e18, hl11⟩ := bind_some hl11
        have hi19 := idx_some e18
        obtain ⟨cs20, hs21, hA22⟩ := sl_atRo hv1_1 hi19.2 -- ^
        obtain ⟨u23, rfl, h24⟩ := un_GShare hs21 -- ^
        obtain ⟨r25, e26, hl11⟩ := bind_some hl11
        obtain ⟨x28, e29, hl11⟩ := bind_some hl11
        have hi30 := idx_some e29
        obtain ⟨cs31, hs32, hA33⟩ := sl_atRo hv1_1 hi30.2 -- ^
        obtain ⟨u34, rfl, h35⟩ := un_GShare hs32 -- ^
        refine c_draw2 (n := 32) (hd := [_, _, _, _, _, _, _, _, _, _, _, _, _, _, _]) (tl := [_, _]) (its := []) hmix rfl rfl [15, 16, 17, 18, 19, 20, 21, 22, 23, 24, 25, 26, 27, 28, 29] (by decide) [(9, fun v => osl NoB (r25 : List UInt8) v)] rfl (fun j => ([fun v => v = (vI p0), fun v => v = v1_1, fun v => v = (vI p2), fun v => v = (sliceV v1_1 ((0 : Int)).toNat (p2).toNat 2), fun v => v = v1_1, fun v => v = (vI s5), fun v => v = (ptr (sb v1_1) (so v1_1 + (s5).toNat * 2)), fun v => v = (ptr (sb v1_1) (so v1_1 + (s5).toNat * 2 + 0)), fun v => v = (vB x17.Place), fun v => True, fun v => v = v1_1, fun v => v = (vI s5), fun v => v = (ptr (sb v1_1) (so v1_1 + (s5).toNat * 2)), fun v => v = (ptr (sb v1_1) (so v1_1 + (s5).toNat * 2 + 1)), fun v => v = u34] : List (Value → Prop)).getD j (fun _ => True)) hE hM.drew (steps_of (steps_cons ?_ (steps_cons ?_ (steps_cons ?_ (steps_cons ?_ (steps_cons ?_ (steps_cons ?_ (steps_cons ?_ (steps_cons ?_ (steps_cons ?_ (steps_cons ?_ (steps_cons ?_ (steps_cons ?_ (steps_cons ?_ (steps_cons ?_ (steps_cons ?_ steps_nil)))))))))))))))) ?_
        · intro a w ux13 D hE hM hD hp
          have hM0 := hM
          refine s_move hE goes_none (by decide) rfl ?_; intro a hE
          exact ⟨_, _, rfl, hE, rfl, hM0.optKeep rfl⟩
        · intro a w ux13 D hE hM hD hp
          have hM0 := hM
          refine s_move hE goes_none (by decide) rfl ?_; intro a hE
          exact ⟨_, _, rfl, hE, rfl, hM0.optKeep rfl⟩
        · intro a w ux13 D hE hM hD hp
          have hM0 := hM
          refine s_move hE goes_none (by decide) rfl ?_; intro a hE
          exact ⟨_, _, rfl, hE, rfl, hM0.optKeep rfl⟩
        · intro a w ux13 D hE hM hD hp
          have f1 : ux13 1 = v1_1 := (hp 0 _ rfl rfl).2
          have f2 : ux13 2 = (vI p2) := (hp 1 _ rfl rfl).2
          have hM0 := hM
          have hM : M (Old w0) w0 w [opt (D 9) (osl NoB (r25 : List UInt8) (ux13 9))] := hM
          refine s_slice hE goes_none (by decide) (lk rfl f1) rfl (opvo_some (lk rfl f2)) rfl rfl Try.underlying29 ty26 (hM.rd hv1_1) e15 ?_; intro a hE
          exact ⟨_, _, rfl, hE, rfl, hM0.optKeep rfl⟩
        · intro a w ux13 D hE hM hD hp
          have hM0 := hM
          refine s_move hE goes_none (by decide) rfl ?_; intro a hE
          exact ⟨_, _, rfl, hE, rfl, hM0.optKeep rfl⟩
        · intro a w ux13 D hE hM hD hp
          have hM0 := hM
          refine s_move hE goes_none (by decide) rfl ?_; intro a hE
          exact ⟨_, _, rfl, hE, rfl, hM0.optKeep rfl⟩
        · intro a w ux13 D hE hM hD hp
          have f4 : ux13 4 = v1_1 := (hp 0 _ rfl rfl).2
          have f5 : ux13 5 = (vI s5) := (hp 1 _ rfl rfl).2
          have hM0 := hM
          have hM : M (Old w0) w0 w [opt (D 9) (osl NoB (r25 : List UInt8) (ux13 9))] := hM
          refine s_indexS hE goes_none (by decide) (lk rfl f4) (lk rfl f5) Try.underlying29 ty26 (hM.rd hv1_1) hi19.1 ?_; intro a hE
          exact ⟨_, _, rfl, hE, rfl, hM0.optKeep rfl⟩
        · intro a w ux13 D hE hM hD hp
          have f6 : ux13 6 = (ptr (sb v1_1) (so v1_1 + (s5).toNat * 2)) := (hp 0 _ rfl rfl).2
          have hM0 := hM
          refine s_fieldAddr hE goes_none (by decide) (lk rfl f6) (fd26_0) ?_; intro a hE
          exact ⟨_, _, rfl, hE, rfl, hM0.optKeep rfl⟩
        · intro a w ux13 D hE hM hD hp
          have f7 : ux13 7 = (ptr (sb v1_1) (so v1_1 + (s5).toNat * 2 + 0)) := (hp 0 _ rfl rfl).2
          have hM0 := hM
          have hM : M (Old w0) w0 w [opt (D 9) (osl NoB (r25 : List UInt8) (ux13 9))] := hM
          refine s_load (v := (vB x17.Place)) hE goes_none (by decide) (lk rfl f7) ty5 rfl (At.cat (pre := []) (seg := [(vB x17.Place)]) (post := [[u23]]) (hM.atk hA22 (sl_blk hv1_1 hi19.2)) cl0) ?_; intro a hE
          exact ⟨_, _, rfl, hE, rfl, hM0.optKeep rfl⟩
        · intro a w ux13 D hE hM hD hp
          have f0 : ux13 0 = (vI p0) := (hp 0 _ rfl rfl).2
          have f3 : ux13 3 = (sliceV v1_1 ((0 : Int)).toNat (p2).toNat 2) := (hp 1 _ rfl rfl).2
          have f8 : ux13 8 = (vB x17.Place) := (hp 2 _ rfl rfl).2
          have hM0 := hM
          have hM : M (Old w0) w0 w [opt (D 9) (osl NoB (r25 : List UInt8) (ux13 9))] := hM
          refine s_call (vs := [(vI p0), (sliceV v1_1 ((0 : Int)).toNat (p2).toNat 2), (vB x17.Place)]) hE goes_none (by decide) (evs_of (evsC (lk rfl f0) (evsC (lk rfl f3) (evsC (lk rfl f8) evsN)))) cb139 (c_impl_field_valuesAt _ p0 l14 (sliceV v1_1 ((0 : Int)).toNat (p2).toNat 2) (hM.rdo h16) x17.Place r25 e26) ?_
          rintro _ w a ⟨_, rfl, hFr, hK⟩ hE
          have hM := hM0.add hK hFr
          exact ⟨_, _, rfl, hE, trivial, M.optFill (mk1 := []) (mk2 := []) (f := (fun v => osl NoB (r25 : List UInt8) v)) hM rfl hD⟩
        · intro a w ux13 D hE hM hD hp
          have hM0 := hM
          refine s_move hE goes_none (by decide) rfl ?_; intro a hE
          exact ⟨_, _, rfl, hE, rfl, hM0.optKeep rfl⟩
        · intro a w ux13 D hE hM hD hp
          have hM0 := hM
          refine s_move hE goes_none (by decide) rfl ?_; intro a hE
          exact ⟨_, _, rfl, hE, rfl, hM0.optKeep rfl⟩
        · intro a w ux13 D hE hM hD hp
          have f10 : ux13 10 = v1_1 := (hp 0 _ rfl rfl).2
          have f11 : ux13 11 = (vI s5) := (hp 1 _ rfl rfl).2
          have hM0 := hM
          have hM : M (Old w0) w0 w [opt (D 9) (osl NoB (r25 : List UInt8) (ux13 9))] := hM
          refine s_indexS hE goes_none (by decide) (lk rfl f10) (lk rfl f11) Try.underlying29 ty26 (hM.rd hv1_1) hi30.1 ?_; intro a hE
          exact ⟨_, _, rfl, hE, rfl, hM0.optKeep rfl⟩
        · intro a w ux13 D hE hM hD hp
          have f12 : ux13 12 = (ptr (sb v1_1) (so v1_1 + (s5).toNat * 2)) := (hp 0 _ rfl rfl).2
          have hM0 := hM
          refine s_fieldAddr hE goes_none (by decide) (lk rfl f12) (fd26_1) ?_; intro a hE
          exact ⟨_, _, rfl, hE, rfl, hM0.optKeep rfl⟩
        · intro a w ux13 D hE hM hD hp
          have f13 : ux13 13 = (ptr (sb v1_1) (so v1_1 + (s5).toNat * 2 + 1)) := (hp 0 _ rfl rfl).2
          have hM0 := hM
          have hM : M (Old w0) w0 w [opt (D 9) (osl NoB (r25 : List UInt8) (ux13 9))] := hM
          refine s_load (v := u34) hE goes_none (by decide) (lk rfl f13) ty24 rfl (At.cat (pre := [[(vB x28.Place)]]) (seg := [u34]) (post := []) (hM.atk hA33 (sl_blk hv1_1 hi30.2)) (cl1 (n := 1) (m := 0) rfl cl0)) ?_; intro a hE
          exact ⟨_, _, rfl, hE, rfl, hM0.optKeep rfl⟩
        · intro a w ux13 hE hM hg
          have f0 : ux13 0 = (vI p0) := hg 0 (by decide)
          have f1 : ux13 1 = v1_1 := hg 1 (by decide)
          have f2 : ux13 2 = (vI p2) := hg 2 (by decide)
          have f3 : ux13 3 = (sliceV v1_1 ((0 : Int)).toNat (p2).toNat 2) := hg 3 (by decide)
          have f4 : ux13 4 = v1_1 := hg 4 (by decide)
          have f5 : ux13 5 = (vI s5) := hg 5 (by decide)
          have f6 : ux13 6 = (ptr (sb v1_1) (so v1_1 + (s5).toNat * 2)) := hg 6 (by decide)
          have f7 : ux13 7 = (ptr (sb v1_1) (so v1_1 + (s5).toNat * 2 + 0)) := hg 7 (by decide)
          have f8 : ux13 8 = (vB x17.Place) := hg 8 (by decide)
          have f10 : ux13 10 = v1_1 := hg 10 (by decide)
          have f11 : ux13 11 = (vI s5) := hg 11 (by decide)
          have f12 : ux13 12 = (ptr (sb v1_1) (so v1_1 + (s5).toNat * 2)) := hg 12 (by decide)
          have f13 : ux13 13 = (ptr (sb v1_1) (so v1_1 + (s5).toNat * 2 + 1)) := hg 13 (by decide)
          have f14 : ux13 14 = u34 := hg 14 (by decide)
          have hM : M (Old w0) w0 w [osl NoB (r25 : List UInt8) (ux13 9)] := hM
          have hE := hE.sub (e' := [(15, (vI p0)), (16, v1_1), (17, (vI p2)), (18, (sliceV v1_1 ((0 : Int)).toNat (p2).toNat 2)), (19, v1_1), (20, (vI s5)), (21, (ptr (sb v1_1) (so v1_1 + (s5).toNat * 2))), (22, (ptr (sb v1_1) (so v1_1 + (s5).toNat * 2 + 0))), (23, (vB x17.Place)), (24, (ux13 9)), (25, v1_1), (26, (vI s5)), (27, (ptr (sb v1_1) (so v1_1 + (s5).toNat * 2))), (28, (ptr (sb v1_1) (so v1_1 + (s5).toNat * 2 + 1))), (29, u34), (0, (vI p0)), (1, v1_1), (2, (vI p2)), (7, (vI s5)), (9, (vI s5)), (10, v1_1), (11, (vI (p1.length : Int))), (12, (vT (decide (s5 < (p1.length : Int)))))]) ⟨lk rfl f0, lk rfl f1, lk rfl f2, lk rfl f3, lk rfl f4, lk rfl f5, lk rfl f6, lk rfl f7, lk rfl f8, rfl, lk rfl f10, lk rfl f11, lk rfl f12, lk rfl f13, lk rfl f14, rfl, rfl, rfl, rfl, rfl, rfl, rfl, rfl, trivial⟩
          obtain ⟨r36, e37, hl11⟩ := bind_some hl11
          refine s_call (vs := [(ux13 9), u34]) hE goes_none (by decide) rfl cb175 (c_bytes_Equal _ r25 (ux13 9) (hM.sl (pre := []) noB) x28.Data u34 (hM.rdo h35) r36 e37) ?_
          rintro v w a ⟨rfl, hK⟩ hE
          have hM := hM.keep hK
          refine s_not hE goes_none (by decide) rfl ?_; intro a hE
          refine c_fin0 ?_
          have ht38 := Option.some.inj hl11
          subst ht38
          refine c_mid ?_
          have hM := M.fst (l := []) hM
          exact ⟨hE.sub ⟨rfl, rfl, rfl, rfl, rfl, trivial⟩, hM⟩
      · skip
        rintro a w ⟨hE, hM⟩
        refine c_cond hE rfl ?_ ?_
        · intro hb39
          have hF12 := ite_t hF12 hb39
          refine c_region ?_
          refine s_assign hE goes_none (by decide) rfl ?_; intro a hE
          refine c_fin ?_
          have ht40 := hx7 _ (Option.some.inj hF12).symm
          subst ht40
          have hr := Option.some.inj hF3
          subst hr
          exact wp_ret (r_inb (r_then (r_then (r_inb (r_then (r_then (k_ret1 hE rfl (res_tmp hE rfl) ⟨_, rfl, rfl, hM.kept⟩)))))))
        · intro hb39
          have hF12 := ite_f hF12 hb39
          refine wp_skip ?_
          refine c_nb ?_
          refine c_nx ?_
          refine wp_region_lit ?_
          refine s_move hE goes_none (by decide) rfl ?_; intro a hE
          refine s_int hE goes_none (by decide) rfl rfl rfl ?_; intro a hE
          refine s_assign hE goes_none (by decide) rfl ?_; intro a hE
          refine c_fin0 ?_
          refine c_mid ?_
          exact ⟨_, (Option.some.inj hF12).symm, hE.sub ⟨rfl, rfl, rfl, rfl, trivial⟩, hM⟩
    · intro hb9
      have hs6 := ite_f hs6 hb9
      refine wp_exit (e_then (e_then (e_eq ?_)))
      have ht41 := hx7 _ (Option.some.inj hs6).symm
      subst ht41
      refine c_mid ?_
      exact ⟨(), rfl, hE.sub trivial, hM⟩
  · skip
    rintro a w ⟨s4, ht, hE, hM⟩
    subst ht
    have hF3 := el_nx hF3
    refine c_nx ?_
    refine c_region ?_
    refine s_assign hE goes_none (by decide) rfl ?_; intro a hE
    refine c_fin ?_
    have hr := Option.some.inj hF3
    subst hr
    exact wp_ret (k_ret1 hE rfl (res_tmp hE rfl) ⟨_, rfl, rfl, hM.kept⟩)
noncomputable def L0_slices_Index_int_int (p0 : (List Int)) (p1 : Int) (s5 : Int) : Option (Fl Int (Fl Unit Int)) :=
  if (decide (s5 < (p0.length : Int))) = true then ((idx p0 s5).bind fun (x10 : Int) => if (p1 == x10) = true then (some (Fl.ex (Fl.ex s5))) else (some (Fl.nx (wr (s5 + 1))))) else (some (Fl.ex (Fl.nx ())))
noncomputable def F_slices_Index_int_int (p0 : (List Int)) (p1 : Int) : Option (Int) :=
  (iter (L0_slices_Index_int_int p0 p1) 0 : Option (Fl Unit Int)).bind fun (j1 : Fl Unit Int) => j1.el (fun (s4 : Unit) => some (-1)) (fun r => some r)
set_option maxRecDepth 20000 in
set_option maxHeartbeats 400000 in
theorem c_slices_Index_int_int (w0 : World) (p0 : (List Int)) (v0_1 : Value) (hv0_1 : Ro w0 p0 [v0_1]) (p1 : Int) (r : Int) (hF : F_slices_Index_int_int p0 p1 = some r) :
    Calls Try.prog 176 [v0_1, (vI p1)].toArray w0 (fun en w' => ∃ v, en = .returned v ∧ (v = (vI r) ∧ Kept (Old w0) w0 w')) := by
  refine c_enter (n := 19) Try.func176 rfl rfl (Nat.le_of_ble_eq_true rfl) rfl ?_
  intro a hE
  have hM := M.start w0
  unfold F_slices_Index_int_int at hF
  refine c_region ?_
  refine s_assign hE goes_none (by decide) rfl ?_; intro a hE
  refine c_fin ?_
  refine wp_seq ?_
  refine c_region ?_
  refine s_move hE goes_none (by decide) rfl ?_; intro a hE
  refine s_len hE goes_none (by decide) rfl Try.underlying145 (hM.rd hv0_1) ?_; intro a hE
  refine s_move hE goes_none (by decide) rfl ?_; intro a hE
  refine c_fin ?_
  obtain ⟨j1, hl2, hF3⟩ := bind_some hF
  refine c_cut (fun a w => ∃ s4 : Unit, j1 = Fl.nx s4 ∧ Env 19 a [] ∧ M (Old w0) w0 w []) ?_ ?_
  · skip
    refine wp_block ?_
    refine c_loop (fun (s5 : Int) a w => Env 19 a [(0, v0_1), (1, (vI p1)), (7, (vI (p0.length : Int))), (8, (vI s5))] ∧ M (Old w0) w0 w []) hl2 ⟨hE.sub ⟨rfl, rfl, rfl, rfl, trivial⟩, hM⟩ ?_
    rintro s5 a w ⟨hE, hM⟩ o8 hs6 hx7
    unfold L0_slices_Index_int_int at hs6
    refine c_region ?_
    refine s_int hE goes_none (by decide) rfl rfl rfl ?_; intro a hE
    refine c_fin ?_
    refine wp_seq ?_
    refine c_cond hE rfl ?_ ?_
    · intro hb9
      have hs6 := ite_t hs6 hb9
      refine wp_skip ?_
      refine c_nx ?_
      refine wp_seq ?_
      refine wp_block ?_
      refine c_region ?_
      refine s_move hE goes_none (by decide) rfl ?_; intro a hE
      refine s_assign hE goes_none (by decide) rfl ?_; intro a hE
      refine c_fin ?_
      refine c_region ?_
      refine s_move hE goes_none (by decide) rfl ?_; intro a hE
      refine s_move hE goes_none (by decide) rfl ?_; intro a hE
      refine s_move hE goes_none (by decide) rfl ?_; intro a hE
      obtain ⟨x10, e11, hs6⟩ := bind_some hs6
      have hi12 := idx_some e11
      refine s_indexS hE goes_none (by decide) rfl rfl Try.underlying145 ty3 (hM.rd hv0_1) hi12.1 ?_; intro a hE
      refine s_load (v := (vI x10)) hE goes_none (by decide) rfl ty3 rfl (sl_atF (hM.rd hv0_1) hi12.2) ?_; intro a hE
      refine s_int hE goes_none (by decide) rfl rfl rfl ?_; intro a hE
      refine c_fin ?_
      refine c_cond hE rfl ?_ ?_
      · intro hb13
        have hs6 := ite_t hs6 hb13
        refine c_region ?_
        refine s_move hE goes_none (by decide) rfl ?_; intro a hE
        refine s_assign hE goes_none (by decide) rfl ?_; intro a hE
        refine c_fin ?_
        have ht14 := hx7 _ (Option.some.inj hs6).symm
        subst ht14
        have hr := Option.some.inj hF3
        subst hr
        exact wp_ret (r_inb (r_then (r_then (r_inb (r_then (r_then (k_ret1 hE rfl (res_tmp hE rfl) ⟨_, rfl, rfl, hM.kept⟩)))))))
      · intro hb13
        have hs6 := ite_f hs6 hb13
        refine wp_skip ?_
        refine c_nb ?_
        refine c_nx ?_
        refine wp_region_lit ?_
        refine s_int hE goes_none (by decide) rfl rfl rfl ?_; intro a hE
        refine s_move hE goes_none (by decide) rfl ?_; intro a hE
        refine c_fin0 ?_
        refine c_mid ?_
        exact ⟨_, (Option.some.inj hs6).symm, hE.sub ⟨rfl, rfl, rfl, rfl, trivial⟩, hM⟩
    · intro hb9
      have hs6 := ite_f hs6 hb9
      refine wp_exit (e_then (e_then (e_eq ?_)))
      have ht15 := hx7 _ (Option.some.inj hs6).symm
      subst ht15
      refine c_mid ?_
      exact ⟨(), rfl, hE.sub trivial, hM⟩
  · skip
    rintro a w ⟨s4, ht, hE, hM⟩
    subst ht
    have hF3 := el_nx hF3
    refine c_nx ?_
    refine c_region ?_
    refine s_assign hE goes_none (by decide) rfl ?_; intro a hE
    refine c_fin ?_
    have hr := Option.some.inj hF3
    subst hr
    exact wp_ret (k_ret1 hE rfl (res_tmp hE rfl) ⟨_, rfl, rfl, hM.kept⟩)
noncomputable def F_slices_Contains_int_int (p0 : (List Int)) (p1 : Int) : Option (Bool) :=
  (F_slices_Index_int_int p0 p1).bind fun (r1 : Int) => some (decide (r1 ≥ 0))
set_option maxRecDepth 20000 in
set_option maxHeartbeats 400000 in
theorem c_slices_Contains_int_int (w0 : World) (p0 : (List Int)) (v0_1 : Value) (hv0_1 : Ro w0 p0 [v0_1]) (p1 : Int) (r : Bool) (hF : F_slices_Contains_int_int p0 p1 = some r) :
    Calls Try.prog 122 [v0_1, (vI p1)].toArray w0 (fun en w' => ∃ v, en = .returned v ∧ (v = (vT r) ∧ Kept (Old w0) w0 w')) := by
  refine c_enter (n := 9) Try.func122 rfl rfl (Nat.le_of_ble_eq_true rfl) rfl ?_
  intro a hE
  have hM := M.start w0
  unfold F_slices_Contains_int_int at hF
  refine c_region ?_
  refine s_assign hE goes_none (by decide) rfl ?_; intro a hE
  refine c_fin ?_
  refine c_region ?_
  refine s_move hE goes_none (by decide) rfl ?_; intro a hE
  refine s_move hE goes_none (by decide) rfl ?_; intro a hE
  obtain ⟨r1, e2, hF⟩ := bind_some hF
  refine s_call (vs := [v0_1, (vI p1)]) hE goes_none (by decide) rfl cb176 (c_slices_Index_int_int _ p0 v0_1 (hM.rdo hv0_1) p1 r1 e2) ?_
  rintro v w a ⟨rfl, hK⟩ hE
  have hM := hM.keep hK
  refine s_int hE goes_none (by decide) rfl rfl rfl ?_; intro a hE
  refine s_assign hE goes_none (by decide) rfl ?_; intro a hE
  refine c_fin ?_
  have hr := Option.some.inj hF
  subst hr
  exact wp_ret (k_ret1 hE rfl (res_tmp hE rfl) ⟨_, rfl, rfl, hM.kept⟩)
noncomputable def L1_impl_FaultyShares (p1 : (List GShare)) (r29 : (List Int)) (s39 : (List GShare) × Int) : Option (Fl ((List GShare) × Int) (List GShare)) :=
  if (decide (s39.2 < (r29.length : Int))) = true then ((idx r29 s39.2).bind fun (x46 : Int) => (idx p1 x46).bind fun (x49 : GShare) => (app 32 s39.1 ([x49] : List GShare)).bind fun (l59 : (List GShare)) => some (Fl.nx ((s39.1 ++ ([x49] : List GShare)), wr (s39.2 + 1)))) else (some (Fl.ex s39.1))
noncomputable def L0_impl_FaultyShares (p0 : Int) (p1 : (List GShare)) (p2 : Int) (s13 : (List Int) × Int) : Option (Fl ((List Int) × Int) (List Int)) :=
  if (decide (s13.2 < (shlI 1 (p1.length : Int)))) = true then (((F_math_bits_OnesCount (IntKind.u64.wrap s13.2)).bind fun (r25 : Int) => if (decide (r25 < (s13.1.length : Int))) = true then (some s13.1) else ((F_impl_chosen s13.2 (p1.length : Int)).bind fun (r29 : (List Int)) => (iter (L1_impl_FaultyShares p1 r29) (([] : List GShare), 0) : Option ((List GShare))).bind fun (j34 : (List GShare)) => (if ((r29.length : Int) == (s13.1.length : Int)) = true then ((F_slices_Compare_int_int r29 s13.1).bind fun (r69 : Int) => some (decide (r69 ≥ 0))) else (some false) : Option (Bool)).bind fun (j65 : Bool) => if j65 = true then (some s13.1) else ((if (decide ((j34.length : Int) ≤ p2)) = true then (some true) else ((F_impl_field_fit p0 j34 p2).bind fun (r80 : Bool) => some r80) : Option (Bool)).bind fun (j75 : Bool) => (if j75 = true then (some r29) else (some s13.1) : Option ((List Int))).bind fun (j83 : (List Int)) => some j83)) : Option ((List Int))).bind fun (j20 : (List Int)) => some (Fl.nx (j20, wr (s13.2 + 1)))) else (some (Fl.ex s13.1))
noncomputable def L2_impl_FaultyShares (p1 : (List GShare)) (j8 : (List Int)) (s108 : (List Int) × Int) : Option (Fl ((List Int) × Int) (List Int)) :=
  if (decide (s108.2 < (p1.length : Int))) = true then (((F_slices_Contains_int_int j8 s108.2).bind fun (r120 : Bool) => (if (!r120) = true then ((app 8 s108.1 ([s108.2] : List Int)).bind fun (l130 : (List Int)) => some (s108.1 ++ ([s108.2] : List Int))) else (some s108.1) : Option ((List Int))).bind fun (j122 : (List Int)) => some j122 : Option ((List Int))).bind fun (j115 : (List Int)) => some (Fl.nx (j115, wr (s108.2 + 1)))) else (some (Fl.ex s108.1))
noncomputable def F_impl_FaultyShares (p0 : Int) (p1 : (List GShare)) (p2 : Int) : Option ((List Int) × Int) :=
  (F_impl_checkShares p0 p1 p2).bind fun (r1 : Int) => if (r1 != 0) = true then (some ([], r1)) else ((nonneg (p1.length : Int)).bind fun _ => (iter (L0_impl_FaultyShares p0 p1 p2) (([] : List Int), 0) : Option ((List Int))).bind fun (j8 : (List Int)) => (if (decide ((j8.length : Int) ≤ p2)) = true then (some true) else (some (decide ((p1.length : Int) < (wr (p2 + (wr (2 * (wr ((p1.length : Int) - (j8.length : Int)))))))))) : Option (Bool)).bind fun (j93 : Bool) => if j93 = true then (some ([], 4)) else ((iter (L2_impl_FaultyShares p1 j8) (([] : List Int), 0) : Option ((List Int))).bind fun (j103 : (List Int)) => some (j103, 0)))
set_option maxRecDepth 20000 in
set_option maxHeartbeats 400000 in
theorem c_impl_FaultyShares (w0 : World) (p0 : Int) (p1 : (List GShare)) (v1_1 : Value) (hv1_1 : Ro w0 p1 [v1_1]) (p2 : Int) (r : (List Int) × Int) (hF : F_impl_FaultyShares p0 p1 p2 = some r) :
    Calls Try.prog 62 [(vI p0), v1_1, (vI p2)].toArray w0 (fun en w' => ∃ v, en = .returned v ∧ (∃ (y1 : Value), v = (Value.tuple [y1, (vI r.2)].toArray) ∧ Fr w0 w' [osl NoB (r.1 : List Int) y1] ∧ Kept (Old w0) w0 w')) := by
  refine c_enter (n := 112) Try.func62 rfl rfl (Nat.le_of_ble_eq_true rfl) rfl ?_
  intro a hE
  have hM := M.start w0
  unfold F_impl_FaultyShares at hF
  refine c_region ?_
  refine s_assign hE goes_none (by decide) rfl ?_; intro a hE
  refine s_assign hE goes_none (by decide) rfl ?_; intro a hE
  refine c_fin ?_
  refine wp_seq ?_
  refine c_region ?_
  refine s_move hE goes_none (by decide) rfl ?_; intro a hE
  refine s_move hE goes_none (by decide) rfl ?_; intro a hE
  refine s_move hE goes_none (by decide) rfl ?_; intro a hE
  obtain ⟨r1, e2, hF⟩ := bind_some hF
  refine s_call (vs := [(vI p0), v1_1, (vI p2)]) hE goes_none (by decide) rfl cb70 (c_impl_checkShares _ p0 p1 v1_1 (hM.rdo hv1_1) p2 r1 e2) ?_
  rintro v w a ⟨rfl, hK⟩ hE
  have hM := hM.keep hK
  refine s_assign hE goes_none (by decide) rfl ?_; intro a hE
  refine c_fin ?_
  refine c_region ?_
  refine s_move hE goes_none (by decide) rfl ?_; intro a hE
  refine s_int hE goes_none (by decide) rfl rfl rfl ?_; intro a hE
  refine c_fin ?_
  refine c_cond hE rfl ?_ ?_
  · intro hb3
    have hF := ite_t hF hb3
    refine c_region ?_
    refine s_move hE goes_none (by decide) rfl ?_; intro a hE
    refine s_assign hE goes_none (by decide) rfl ?_; intro a hE
    refine s_assign hE goes_none (by decide) rfl ?_; intro a hE
    refine c_fin ?_
    have hM := M.nilS (α := Int) NoB noB hM
    have hr := Option.some.inj hF
    subst hr
    exact wp_ret (r_then (k_ret2 hE rfl (res_tmp hE rfl) (res_tmp hE rfl) ⟨_, rfl, (Value.slice none 0 0), rfl, hM.outF (locN1 locN0), hM.kept⟩))
  · intro hb3
    have hF := ite_f hF hb3
    refine wp_skip ?_
    refine c_nx ?_
    refine c_region ?_
    refine s_move hE goes_none (by decide) rfl ?_; intro a hE
    refine s_len hE goes_none (by decide) rfl Try.underlying29 (hM.rd hv1_1) ?_; intro a hE
    refine s_buildF (xs := []) (l := ([] : List Int)) (vs := []) hE hM goes_none (by decide) rfl rfl Try.underlying145 ty3 rfl (by decide) rfl ?_; intro u5 w a hM hE
    refine s_assign hE goes_none (by decide) rfl ?_; intro a hE
    refine s_assign hE goes_none (by decide) rfl ?_; intro a hE
    refine c_fin ?_
    refine wp_seq ?_
    refine c_region ?_
    refine s_move hE goes_none (by decide) rfl ?_; intro a hE
    obtain ⟨_, e7, hF⟩ := bind_some hF
    have e7 := nonneg_some e7
    refine s_sh hE goes_none (by decide) rfl rfl (bI_shl _ _ e7) ?_; intro a hE
    refine s_move hE goes_none (by decide) rfl ?_; intro a hE
    refine c_fin ?_
    obtain ⟨j8, hl9, hF10⟩ := bind_some hF
    refine c_cut (fun a w => ∃ (u11 : Value), Env 112 a [(2, (vI p2)), (9, (vI (p1.length : Int))), (10, u11)] ∧ M (Old w0) w0 w [osl NoB (j8 : List Int) u11]) ?_ ?_
    · skip
      refine wp_block ?_
      refine c_loop (fun (s13 : (List Int) × Int) a w => ∃ (u14 : Value), Env 112 a [(0, (vI p0)), (1, v1_1), (2, (vI p2)), (9, (vI (p1.length : Int))), (10, u14), (30, (vI (shlI 1 (p1.length : Int)))), (31, (vI s13.2))] ∧ M (Old w0) w0 w [osl NoB (s13.1 : List Int) u14]) hl9 ⟨u5, hE.sub ⟨rfl, rfl, rfl, rfl, rfl, rfl, rfl, trivial⟩, hM⟩ ?_
      rintro s13 a w ⟨u14, hE, hM⟩ o18 hs16 hx17
      unfold L0_impl_FaultyShares at hs16
      refine c_region ?_
      refine s_int hE goes_none (by decide) rfl rfl rfl ?_; intro a hE
      refine c_fin ?_
      refine wp_seq ?_
      refine c_cond hE rfl ?_ ?_
      · intro hb19
        have hs16 := ite_t hs16 hb19
        refine wp_skip ?_
        refine c_nx ?_
        obtain ⟨j20, hl21, hF22⟩ := bind_some hs16
        refine c_join (fun a w => ∃ (u23 : Value), Env 112 a [(0, (vI p0)), (1, v1_1), (2, (vI p2)), (9, (vI (p1.length : Int))), (10, u23), (30, (vI (shlI 1 (p1.length : Int)))), (31, (vI s13.2))] ∧ M (Old w0) w0 w [osl NoB (j20 : List Int) u23]) ?_ ?_
        · skip
          refine wp_block ?_
          refine c_region ?_
          refine s_move hE goes_none (by decide) rfl ?_; intro a hE
          refine s_assign hE goes_none (by decide) rfl ?_; intro a hE
          refine c_fin ?_
          refine wp_seq ?_
          refine c_region ?_
          refine s_move hE goes_none (by decide) rfl ?_; intro a hE
          refine s_conv hE goes_none (by decide) rfl Try.underlying3 Try.underlying147 ?_; intro a hE
          obtain ⟨r25, e26, hl21⟩ := bind_some hl21
          refine s_call (vs := [(Value.int .u64 (IntKind.u64.wrap s13.2))]) hE goes_none (by decide) rfl cb118 (c_math_bits_OnesCount _ (IntKind.u64.wrap s13.2) r25 e26) ?_
          rintro v w a ⟨rfl, hK⟩ hE
          have hM := hM.keep hK
          refine s_move hE goes_none (by decide) rfl ?_; intro a hE
          refine s_len hE goes_none (by decide) rfl Try.underlying145 (hM.sl (pre := []) noB) ?_; intro a hE
          refine s_int hE goes_none (by decide) rfl rfl rfl ?_; intro a hE
          refine c_fin ?_
          refine c_cond hE rfl ?_ ?_
          · intro hb27
            have hl21 := ite_t hl21 hb27
            refine wp_exit (e_then (e_eq ?_))
            have ht28 := Option.some.inj hl21
            subst ht28
            refine c_mid ?_
            exact ⟨u14, hE.sub ⟨rfl, rfl, rfl, rfl, rfl, rfl, rfl, trivial⟩, hM⟩
          · intro hb27
            have hl21 := ite_f hl21 hb27
            refine wp_skip ?_
            refine c_nx ?_
            refine c_region ?_
            refine s_move hE goes_none (by decide) rfl ?_; intro a hE
            refine s_move hE goes_none (by decide) rfl ?_; intro a hE
            obtain ⟨r29, e30, hl21⟩ := bind_some hl21
            refine s_call (vs := [(vI s13.2), (vI (p1.length : Int))]) hE goes_none (by decide) rfl cb119 (c_impl_chosen _ s13.2 (p1.length : Int) r29 e30) ?_
            rintro u31 w a ⟨_, rfl, hFr, hK⟩ hE
            have hM := hM.add hK hFr
            refine s_build (xs := []) (S := NoB) (l := ([] : List GShare)) (vs := []) hE hM.emp noB goes_none (by decide) rfl rfl rfl Try.underlying29 ty26 rfl (by decide) (fun _ h => ⟨rfl, h⟩) (fun _ h => by cases h) ?_; intro u32 w a hM hE
            refine s_assign hE goes_none (by decide) rfl ?_; intro a hE
            refine s_assign hE goes_none (by decide) rfl ?_; intro a hE
            refine c_fin ?_
            refine wp_seq ?_
            refine c_region ?_
            refine s_move hE goes_none (by decide) rfl ?_; intro a hE
            refine s_len hE goes_none (by decide) rfl Try.underlying145 (hM.sl (pre := [_]) noB) ?_; intro a hE
            refine s_move hE goes_none (by decide) rfl ?_; intro a hE
            refine c_fin ?_
            obtain ⟨j34, hl35, hF36⟩ := bind_some hl21
            refine c_cut (fun a w => ∃ (u37 : Value), Env 112 a [(0, (vI p0)), (1, v1_1), (2, (vI p2)), (9, (vI (p1.length : Int))), (10, u14), (12, u31), (13, u37), (30, (vI (shlI 1 (p1.length : Int)))), (31, (vI s13.2))] ∧ M (Old w0) w0 w [osl NoB (r29 : List Int) u31, osl NoB (s13.1 : List Int) u14, osl (Old w0) (j34 : List GShare) u37]) ?_ ?_
            · skip
              refine wp_block ?_
              have hM := hM.oslWk (S' := Old w0) noB (fun _ h => h)
              have hM := hM.pull (pre := [_, _])
              have hM := hM.pull (pre := [_, _])
              refine c_loop (fun (s39 : (List GShare) × Int) a w => ∃ (u40 : Value), Env 112 a [(0, (vI p0)), (1, v1_1), (2, (vI p2)), (9, (vI (p1.length : Int))), (10, u14), (12, u31), (13, u40), (30, (vI (shlI 1 (p1.length : Int)))), (31, (vI s13.2)), (44, u31), (45, (vI (r29.length : Int))), (46, (vI s39.2))] ∧ M (Old w0) w0 w [osl NoB (r29 : List Int) u31, osl NoB (s13.1 : List Int) u14, osl (Old w0) (s39.1 : List GShare) u40]) hl35 ⟨u32, hE.sub ⟨rfl, rfl, rfl, rfl, rfl, rfl, rfl, rfl, rfl, rfl, rfl, rfl, trivial⟩, hM⟩ ?_
              rintro s39 a w ⟨u40, hE, hM⟩ o44 hs42 hx43
              unfold L1_impl_FaultyShares at hs42
              refine c_region ?_
              refine s_int hE goes_none (by decide) rfl rfl rfl ?_; intro a hE
              refine c_fin ?_
              refine wp_seq ?_
              refine c_cond hE rfl ?_ ?_
              · intro hb45
                have hs42 := ite_t hs42 hb45
                refine wp_skip ?_
                refine c_nx ?_
                refine wp_seq ?_
                refine wp_block ?_
                refine c_region ?_
                obtain ⟨x46, e47, hs42⟩ := bind_some hs42
                have hi48 := idx_some e47
                refine s_indexS hE goes_none (by decide) rfl rfl Try.underlying145 ty3 (hM.sl (pre := []) noB) hi48.1 ?_; intro a hE
                refine s_load (v := (vI x46)) hE goes_none (by decide) rfl ty3 rfl (sl_atF (hM.sl (pre := []) noB) hi48.2) ?_; intro a hE
                refine s_assign hE goes_none (by decide) rfl ?_; intro a hE
                refine c_fin ?_
                refine wp_region_lit ?_
                refine s_move hE goes_none (by decide) rfl ?_; intro a hE
                refine s_move hE goes_none (by decide) rfl ?_; intro a hE
                refine s_move hE goes_none (by decide) rfl ?_; intro a hE
                obtain ⟨x49, e50, hs42⟩ := bind_some hs42
                have hi51 := idx_some e50
                refine s_indexS hE goes_none (by decide) rfl rfl Try.underlying29 ty26 (hM.rd hv1_1) hi51.1 ?_; intro a hE
                obtain ⟨cs52, hs53, hA54⟩ := sl_atRo hv1_1 hi51.2 -- ^
                obtain ⟨u55, rfl, h56⟩ := un_GShare hs53 -- ^
                refine s_loadA (cs := cat [[(vB x49.Place)], [u55]]) hE goes_none (by decide) rfl ty26 rfl (hM.atk hA54 (sl_blk hv1_1 hi51.2)) (cat_len (cl1 (n := 1) (m := 1) rfl (cl1 (n := 1) (m := 0) rfl cl0))) ?_; intro a hE
                have hM := hM.addRo (S := (Old w0)) (x := x49) (cs := cat [[(vB x49.Place)], [u55]]) (fun _ h => h) (pk_GShare (hM.rd h56) (by simp))
                refine s_build1 (xs := [.tmp 54]) (seg := cat [[(vB x49.Place)], [u55]]) hE hM (fun _ h => h) goes_none (by decide) rfl rfl Try.underlying29 ty26 rfl (by decide) ?_; intro u57 w a hM hE
                obtain ⟨l59, e60, hs42⟩ := bind_some hs42
                obtain ⟨e63, rfl⟩ := app_some e60
                have hM := hM.pull (pre := [_, _, _])
                refine s_appendR hE hM (fun _ h => h) goes_none (by decide) rfl rfl Try.underlying29 ty26 rfl (by decide) e63 ?_; intro u61 w a hM hE
                refine s_assign hE goes_none (by decide) rfl ?_; intro a hE
                refine c_fin0 ?_
                refine c_nb ?_
                refine c_nx ?_
                refine wp_region_lit ?_
                refine s_int hE goes_none (by decide) rfl rfl rfl ?_; intro a hE
                refine s_move hE goes_none (by decide) rfl ?_; intro a hE
                refine c_fin0 ?_
                refine c_mid ?_
                have hM := hM.pull (pre := [_, _])
                have hM := hM.pull (pre := [_, _])
                exact ⟨_, (Option.some.inj hs42).symm, u61, hE.sub ⟨rfl, rfl, rfl, rfl, rfl, rfl, rfl, rfl, rfl, rfl, rfl, rfl, trivial⟩, hM⟩
              · intro hb45
                have hs42 := ite_f hs42 hb45
                refine wp_exit (e_then (e_then (e_eq ?_)))
                have ht64 := hx43 _ (Option.some.inj hs42).symm
                subst ht64
                refine c_mid ?_
                exact ⟨u40, hE.sub ⟨rfl, rfl, rfl, rfl, rfl, rfl, rfl, rfl, rfl, trivial⟩, hM⟩
            · skip
              rintro a w ⟨u37, hE, hM⟩
              refine c_nx ?_
              refine wp_seq ?_
              obtain ⟨j65, hl66, hF67⟩ := bind_some hF36
              refine c_join (fun a w => Env 112 a [(0, (vI p0)), (1, v1_1), (2, (vI p2)), (9, (vI (p1.length : Int))), (10, u14), (12, u31), (13, u37), (30, (vI (shlI 1 (p1.length : Int)))), (31, (vI s13.2)), (68, (vT j65))] ∧ M (Old w0) w0 w [osl NoB (r29 : List Int) u31, osl NoB (s13.1 : List Int) u14, osl (Old w0) (j34 : List GShare) u37]) ?_ ?_
              · skip
                refine wp_region_lit ?_
                refine s_move hE goes_none (by decide) rfl ?_; intro a hE
                refine s_len hE goes_none (by decide) rfl Try.underlying145 (hM.sl (pre := []) noB) ?_; intro a hE
                refine s_move hE goes_none (by decide) rfl ?_; intro a hE
                refine s_len hE goes_none (by decide) rfl Try.underlying145 (hM.sl (pre := [_]) noB) ?_; intro a hE
                refine s_int hE goes_none (by decide) rfl rfl rfl ?_; intro a hE
                refine s_move hE goes_none (by decide) rfl ?_; intro a hE
                refine splitB ((r29.length : Int) == (s13.1.length : Int)) (fun hb68 => ?_) (fun hb68 => ?_)
                · have hl66 := ite_t hl66 hb68
                  refine s_move hE (goes_yes hE rfl (lkb rfl hb68)) (by decide) rfl ?_; intro a hE
                  refine s_move hE (goes_yes hE rfl (lkb rfl hb68)) (by decide) rfl ?_; intro a hE
                  obtain ⟨r69, e70, hl66⟩ := bind_some hl66
                  refine s_call (vs := [u31, u14]) hE (goes_yes hE rfl (lkb rfl hb68)) (by decide) rfl cb120 (c_slices_Compare_int_int _ r29 u31 (hM.sl (pre := []) noB) s13.1 u14 (hM.sl (pre := [_]) noB) r69 e70) ?_
                  rintro v w a ⟨rfl, hK⟩ hE
                  have hM := hM.keep hK
                  refine s_int hE (goes_yes hE rfl (lkb rfl hb68)) (by decide) rfl rfl rfl ?_; intro a hE
                  refine s_pickT hE goes_none (by decide) (lkb rfl hb68) rfl ?_; intro a hE
                  refine c_fin0 ?_
                  have ht71 := Option.some.inj hl66
                  subst ht71
                  refine c_mid ?_
                  exact ⟨hE.sub ⟨rfl, rfl, rfl, rfl, rfl, rfl, rfl, rfl, rfl, rfl, trivial⟩, hM⟩
                · have hl66 := ite_f hl66 hb68
                  refine s_skip hE rfl (lkb rfl hb68) rfl (by decide) ?_; intro a hE
                  refine s_skip hE rfl (lkb rfl hb68) rfl (by decide) ?_; intro a hE
                  refine s_skip hE rfl (lkb rfl hb68) rfl (by decide) ?_; intro a hE
                  refine s_skip hE rfl (lkb rfl hb68) rfl (by decide) ?_; intro a hE
                  refine s_pickF hE goes_none (by decide) (lkb rfl hb68) rfl ?_; intro a hE
                  refine c_fin0 ?_
                  have ht72 := Option.some.inj hl66
                  subst ht72
                  refine c_mid ?_
                  exact ⟨hE.sub ⟨rfl, rfl, rfl, rfl, rfl, rfl, rfl, rfl, rfl, rfl, trivial⟩, hM⟩
              · skip
                rintro a w ⟨hE, hM⟩
                refine c_cond hE rfl ?_ ?_
                · intro hb73
                  have hF67 := ite_t hF67 hb73
                  refine wp_exit (e_then (e_eq ?_))
                  have ht74 := Option.some.inj hF67
                  subst ht74
                  refine c_mid ?_
                  have hM := hM.pull (pre := [_])
                  have hM := M.fst (l := [_]) hM
                  exact ⟨u14, hE.sub ⟨rfl, rfl, rfl, rfl, rfl, rfl, rfl, trivial⟩, hM⟩
                · intro hb73
                  have hF67 := ite_f hF67 hb73
                  refine wp_skip ?_
                  refine c_nx ?_
                  obtain ⟨j75, hl76, hF77⟩ := bind_some hF67
                  refine c_join (fun a w => Env 112 a [(0, (vI p0)), (1, v1_1), (2, (vI p2)), (9, (vI (p1.length : Int))), (10, u14), (12, u31), (30, (vI (shlI 1 (p1.length : Int)))), (31, (vI s13.2)), (78, (vT j75))] ∧ M (Old w0) w0 w [osl NoB (r29 : List Int) u31, osl NoB (s13.1 : List Int) u14]) ?_ ?_
                  · skip
                    refine wp_region_lit ?_
                    refine s_move hE goes_none (by decide) rfl ?_; intro a hE
                    refine s_len hE goes_none (by decide) rfl Try.underlying29 (hM.sl (pre := [_, _]) (fun _ h => h)) ?_; intro a hE
                    refine s_move hE goes_none (by decide) rfl ?_; intro a hE
                    refine s_int hE goes_none (by decide) rfl rfl rfl ?_; intro a hE
                    refine s_move hE goes_none (by decide) rfl ?_; intro a hE
                    refine splitB (decide ((j34.length : Int) ≤ p2)) (fun hb78 => ?_) (fun hb78 => ?_)
                    · have hl76 := ite_t hl76 hb78
                      refine s_skip hE rfl (lkb rfl hb78) rfl (by decide) ?_; intro a hE
                      refine s_skip hE rfl (lkb rfl hb78) rfl (by decide) ?_; intro a hE
                      refine s_skip hE rfl (lkb rfl hb78) rfl (by decide) ?_; intro a hE
                      refine s_skip hE rfl (lkb rfl hb78) rfl (by decide) ?_; intro a hE
                      refine s_pickT hE goes_none (by decide) (lkb rfl hb78) rfl ?_; intro a hE
                      refine c_fin0 ?_
                      have ht79 := Option.some.inj hl76
                      subst ht79
                      refine c_mid ?_
                      have hM := hM.pull (pre := [_])
                      have hM := hM.pull (pre := [_])
                      have hM := M.fst (l := [_, _]) hM
                      exact ⟨hE.sub ⟨rfl, rfl, rfl, rfl, rfl, rfl, rfl, rfl, rfl, trivial⟩, hM⟩
                    · have hl76 := ite_f hl76 hb78
                      refine s_move hE (goes_yes hE rfl (lkb rfl hb78)) (by decide) rfl ?_; intro a hE
                      refine s_move hE (goes_yes hE rfl (lkb rfl hb78)) (by decide) rfl ?_; intro a hE
                      refine s_move hE (goes_yes hE rfl (lkb rfl hb78)) (by decide) rfl ?_; intro a hE
                      obtain ⟨r80, e81, hl76⟩ := bind_some hl76
                      refine s_call (vs := [(vI p0), u37, (vI p2)]) hE (goes_yes hE rfl (lkb rfl hb78)) (by decide) rfl cb121 (c_impl_field_fit _ p0 j34 u37 (hM.sl (pre := [_, _]) (fun _ h => h)) p2 r80 e81) ?_
                      rintro v w a ⟨rfl, hK⟩ hE
                      have hM := hM.keep hK
                      refine s_pickF hE goes_none (by decide) (lkb rfl hb78) rfl ?_; intro a hE
                      refine c_fin0 ?_
                      have ht82 := Option.some.inj hl76
                      subst ht82
                      refine c_mid ?_
                      have hM := hM.pull (pre := [_])
                      have hM := hM.pull (pre := [_])
                      have hM := M.fst (l := [_, _]) hM
                      exact ⟨hE.sub ⟨rfl, rfl, rfl, rfl, rfl, rfl, rfl, rfl, rfl, trivial⟩, hM⟩
                  · skip
                    rintro a w ⟨hE, hM⟩
                    obtain ⟨j83, hl84, hF85⟩ := bind_some hF77
                    refine c_cut (fun a w => ∃ (u86 : Value), Env 112 a [(0, (vI p0)), (1, v1_1), (2, (vI p2)), (9, (vI (p1.length : Int))), (10, u86), (30, (vI (shlI 1 (p1.length : Int)))), (31, (vI s13.2))] ∧ M (Old w0) w0 w [osl NoB (j83 : List Int) u86]) ?_ ?_
                    · skip
                      refine c_cond hE rfl ?_ ?_
                      · intro hb88
                        have hl84 := ite_t hl84 hb88
                        refine wp_region_lit ?_
                        refine s_move hE goes_none (by decide) rfl ?_; intro a hE
                        refine s_assign hE goes_none (by decide) rfl ?_; intro a hE
                        refine c_fin0 ?_
                        have ht89 := Option.some.inj hl84
                        subst ht89
                        refine c_mid ?_
                        have hM := M.fst (l := [_]) hM
                        exact ⟨u31, hE.sub ⟨rfl, rfl, rfl, rfl, rfl, rfl, rfl, trivial⟩, hM⟩
                      · intro hb88
                        have hl84 := ite_f hl84 hb88
                        refine wp_skip ?_
                        have ht90 := Option.some.inj hl84
                        subst ht90
                        refine c_mid ?_
                        have hM := hM.pull (pre := [_])
                        have hM := M.fst (l := [_]) hM
                        exact ⟨u14, hE.sub ⟨rfl, rfl, rfl, rfl, rfl, rfl, rfl, trivial⟩, hM⟩
                    · skip
                      rintro a w ⟨u86, hE, hM⟩
                      refine c_nb ?_
                      have ht91 := Option.some.inj hF85
                      subst ht91
                      refine c_mid ?_
                      exact ⟨u86, hE.sub ⟨rfl, rfl, rfl, rfl, rfl, rfl, rfl, trivial⟩, hM⟩
        · skip
          rintro a w ⟨u23, hE, hM⟩
          refine wp_region_lit ?_
          refine s_int hE goes_none (by decide) rfl rfl rfl ?_; intro a hE
          refine s_move hE goes_none (by decide) rfl ?_; intro a hE
          refine c_fin0 ?_
          refine c_mid ?_
          exact ⟨_, (Option.some.inj hF22).symm, u23, hE.sub ⟨rfl, rfl, rfl, rfl, rfl, rfl, rfl, trivial⟩, hM⟩
      · intro hb19
        have hs16 := ite_f hs16 hb19
        refine wp_exit (e_then (e_then (e_eq ?_)))
        have ht92 := hx17 _ (Option.some.inj hs16).symm
        subst ht92
        refine c_mid ?_
        exact ⟨u14, hE.sub ⟨rfl, rfl, rfl, trivial⟩, hM⟩
    · skip
      rintro a w ⟨u11, hE, hM⟩
      refine c_nx ?_
      refine c_region ?_
      refine s_move hE goes_none (by decide) rfl ?_; intro a hE
      refine s_move hE goes_none (by decide) rfl ?_; intro a hE
      refine s_len hE goes_none (by decide) rfl Try.underlying145 (hM.sl (pre := []) noB) ?_; intro a hE
      refine s_int hE goes_none (by decide) rfl rfl rfl ?_; intro a hE
      refine s_assign hE goes_none (by decide) rfl ?_; intro a hE
      refine c_fin ?_
      refine wp_seq ?_
      obtain ⟨j93, hl94, hF95⟩ := bind_some hF10
      refine c_join (fun a w => Env 112 a [(9, (vI (p1.length : Int))), (10, u11), (96, (vT j93))] ∧ M (Old w0) w0 w [osl NoB (j8 : List Int) u11]) ?_ ?_
      · skip
        refine wp_region_lit ?_
        refine s_move hE goes_none (by decide) rfl ?_; intro a hE
        refine s_len hE goes_none (by decide) rfl Try.underlying145 (hM.sl (pre := []) noB) ?_; intro a hE
        refine s_move hE goes_none (by decide) rfl ?_; intro a hE
        refine s_int hE goes_none (by decide) rfl rfl rfl ?_; intro a hE
        refine s_move hE goes_none (by decide) rfl ?_; intro a hE
        refine splitB (decide ((j8.length : Int) ≤ p2)) (fun hb96 => ?_) (fun hb96 => ?_)
        · have hl94 := ite_t hl94 hb96
          refine s_skip hE rfl (lkb rfl hb96) rfl (by decide) ?_; intro a hE
          refine s_skip hE rfl (lkb rfl hb96) rfl (by decide) ?_; intro a hE
          refine s_skip hE rfl (lkb rfl hb96) rfl (by decide) ?_; intro a hE
          refine s_skip hE rfl (lkb rfl hb96) rfl (by decide) ?_; intro a hE
          refine s_skip hE rfl (lkb rfl hb96) rfl (by decide) ?_; intro a hE
          refine s_skip hE rfl (lkb rfl hb96) rfl (by decide) ?_; intro a hE
          refine s_pickT hE goes_none (by decide) (lkb rfl hb96) rfl ?_; intro a hE
          refine c_fin0 ?_
          have ht97 := Option.some.inj hl94
          subst ht97
          refine c_mid ?_
          exact ⟨hE.sub ⟨rfl, rfl, rfl, trivial⟩, hM⟩
        · have hl94 := ite_f hl94 hb96
          refine s_move hE (goes_yes hE rfl (lkb rfl hb96)) (by decide) rfl ?_; intro a hE
          refine s_move hE (goes_yes hE rfl (lkb rfl hb96)) (by decide) rfl ?_; intro a hE
          refine s_move hE (goes_yes hE rfl (lkb rfl hb96)) (by decide) rfl ?_; intro a hE
          refine s_int hE (goes_yes hE rfl (lkb rfl hb96)) (by decide) rfl rfl rfl ?_; intro a hE
          refine s_int hE (goes_yes hE rfl (lkb rfl hb96)) (by decide) rfl rfl rfl ?_; intro a hE
          refine s_int hE (goes_yes hE rfl (lkb rfl hb96)) (by decide) rfl rfl rfl ?_; intro a hE
          refine s_pickF hE goes_none (by decide) (lkb rfl hb96) rfl ?_; intro a hE
          refine c_fin0 ?_
          have ht98 := Option.some.inj hl94
          subst ht98
          refine c_mid ?_
          exact ⟨hE.sub ⟨rfl, rfl, rfl, trivial⟩, hM⟩
      · skip
        rintro a w ⟨hE, hM⟩
        refine c_cond hE rfl ?_ ?_
        · intro hb99
          have hF95 := ite_t hF95 hb99
          refine c_region ?_
          refine s_assign hE goes_none (by decide) rfl ?_; intro a hE
          refine s_assign hE goes_none (by decide) rfl ?_; intro a hE
          refine c_fin ?_
          have hM := M.nilS (α := Int) NoB noB hM
          have hr := Option.some.inj hF95
          subst hr
          have hM := M.fst (l := [_]) hM
          exact wp_ret (r_then (k_ret2 hE rfl (res_tmp hE rfl) (res_tmp hE rfl) ⟨_, rfl, (Value.slice none 0 0), rfl, hM.outF (locN1 locN0), hM.kept⟩))
        · intro hb99
          have hF95 := ite_f hF95 hb99
          refine wp_skip ?_
          refine c_nx ?_
          refine c_region ?_
          refine s_buildF (xs := []) (l := ([] : List Int)) (vs := []) hE hM goes_none (by decide) rfl rfl Try.underlying51 ty2 rfl (by decide) rfl ?_; intro u101 w a hM hE
          refine s_assign hE goes_none (by decide) rfl ?_; intro a hE
          refine c_fin ?_
          refine wp_seq ?_
          refine c_region ?_
          refine s_move hE goes_none (by decide) rfl ?_; intro a hE
          refine s_move hE goes_none (by decide) rfl ?_; intro a hE
          refine c_fin ?_
          obtain ⟨j103, hl104, hF105⟩ := bind_some hF95
          refine c_cut (fun a w => ∃ (u106 : Value), Env 112 a [(17, u106)] ∧ M (Old w0) w0 w [osl NoB (j103 : List Int) u106]) ?_ ?_
          · skip
            refine wp_block ?_
            have hM := hM.pull (pre := [_])
            refine c_loop (fun (s108 : (List Int) × Int) a w => ∃ (u109 : Value), Env 112 a [(10, u11), (17, u109), (98, (vI (p1.length : Int))), (99, (vI s108.2))] ∧ M (Old w0) w0 w [osl NoB (j8 : List Int) u11, osl NoB (s108.1 : List Int) u109]) hl104 ⟨u101, hE.sub ⟨rfl, rfl, rfl, rfl, trivial⟩, hM⟩ ?_
            rintro s108 a w ⟨u109, hE, hM⟩ o113 hs111 hx112
            unfold L2_impl_FaultyShares at hs111
            refine c_region ?_
            refine s_int hE goes_none (by decide) rfl rfl rfl ?_; intro a hE
            refine c_fin ?_
            refine wp_seq ?_
            refine c_cond hE rfl ?_ ?_
            · intro hb114
              have hs111 := ite_t hs111 hb114
              refine wp_skip ?_
              refine c_nx ?_
              obtain ⟨j115, hl116, hF117⟩ := bind_some hs111
              refine c_join (fun a w => ∃ (u118 : Value), Env 112 a [(10, u11), (17, u118), (98, (vI (p1.length : Int))), (99, (vI s108.2))] ∧ M (Old w0) w0 w [osl NoB (j8 : List Int) u11, osl NoB (j115 : List Int) u118]) ?_ ?_
              · skip
                refine wp_block ?_
                refine c_region ?_
                refine s_move hE goes_none (by decide) rfl ?_; intro a hE
                refine s_assign hE goes_none (by decide) rfl ?_; intro a hE
                refine c_fin ?_
                refine c_region ?_
                refine s_move hE goes_none (by decide) rfl ?_; intro a hE
                refine s_move hE goes_none (by decide) rfl ?_; intro a hE
                obtain ⟨r120, e121, hl116⟩ := bind_some hl116
                refine s_call (vs := [u11, (vI s108.2)]) hE goes_none (by decide) rfl cb122 (c_slices_Contains_int_int _ j8 u11 (hM.sl (pre := []) noB) s108.2 r120 e121) ?_
                rintro v w a ⟨rfl, hK⟩ hE
                have hM := hM.keep hK
                refine s_not hE goes_none (by decide) rfl ?_; intro a hE
                refine c_fin ?_
                obtain ⟨j122, hl123, hF124⟩ := bind_some hl116
                refine c_cut (fun a w => ∃ (u125 : Value), Env 112 a [(10, u11), (17, u125), (98, (vI (p1.length : Int))), (99, (vI s108.2))] ∧ M (Old w0) w0 w [osl NoB (j8 : List Int) u11, osl NoB (j122 : List Int) u125]) ?_ ?_
                · skip
                  refine c_cond hE rfl ?_ ?_
                  · intro hb127
                    have hl123 := ite_t hl123 hb127
                    refine wp_region_lit ?_
                    refine s_move hE goes_none (by decide) rfl ?_; intro a hE
                    refine s_move hE goes_none (by decide) rfl ?_; intro a hE
                    refine s_buildF (xs := [.tmp 107]) (l := ([s108.2] : List Int)) (vs := [(vI s108.2)]) hE hM goes_none (by decide) rfl rfl Try.underlying51 ty2 rfl (by decide) rfl ?_; intro u128 w a hM hE
                    obtain ⟨l130, e131, hl123⟩ := bind_some hl123
                    obtain ⟨e134, rfl⟩ := app_some e131
                    have hM := hM.pull (pre := [_, _])
                    refine s_appendF hE hM goes_none (by decide) rfl rfl (hM.sl (pre := [_]) noB) Try.underlying51 ty2 rfl (by decide) e134 ?_; intro u132 w a hM hE
                    refine s_assign hE goes_none (by decide) rfl ?_; intro a hE
                    refine c_fin0 ?_
                    have ht135 := Option.some.inj hl123
                    subst ht135
                    refine c_mid ?_
                    have hM := hM.pull (pre := [_, _])
                    have hM := M.fst (l := [_, _]) hM
                    exact ⟨u132, hE.sub ⟨rfl, rfl, rfl, rfl, trivial⟩, hM⟩
                  · intro hb127
                    have hl123 := ite_f hl123 hb127
                    refine wp_skip ?_
                    have ht136 := Option.some.inj hl123
                    subst ht136
                    refine c_mid ?_
                    exact ⟨u109, hE.sub ⟨rfl, rfl, rfl, rfl, trivial⟩, hM⟩
                · skip
                  rintro a w ⟨u125, hE, hM⟩
                  refine c_nb ?_
                  have ht137 := Option.some.inj hF124
                  subst ht137
                  refine c_mid ?_
                  exact ⟨u125, hE.sub ⟨rfl, rfl, rfl, rfl, trivial⟩, hM⟩
              · skip
                rintro a w ⟨u118, hE, hM⟩
                refine wp_region_lit ?_
                refine s_int hE goes_none (by decide) rfl rfl rfl ?_; intro a hE
                refine s_move hE goes_none (by decide) rfl ?_; intro a hE
                refine c_fin0 ?_
                refine c_mid ?_
                exact ⟨_, (Option.some.inj hF117).symm, u118, hE.sub ⟨rfl, rfl, rfl, rfl, trivial⟩, hM⟩
            · intro hb114
              have hs111 := ite_f hs111 hb114
              refine wp_exit (e_then (e_then (e_eq ?_)))
              have ht138 := hx112 _ (Option.some.inj hs111).symm
              subst ht138
              refine c_mid ?_
              have hM := hM.pull (pre := [_])
              have hM := M.fst (l := [_]) hM
              exact ⟨u109, hE.sub ⟨rfl, trivial⟩, hM⟩
          · skip
            rintro a w ⟨u106, hE, hM⟩
            refine c_nx ?_
            refine c_region ?_
            refine s_move hE goes_none (by decide) rfl ?_; intro a hE
            refine s_assign hE goes_none (by decide) rfl ?_; intro a hE
            refine s_assign hE goes_none (by decide) rfl ?_; intro a hE
            refine c_fin ?_
            have hr := Option.some.inj hF105
            subst hr
            exact wp_ret (k_ret2 hE rfl (res_tmp hE rfl) (res_tmp hE rfl) ⟨_, rfl, u106, rfl, hM.outF (locN1 locN0), hM.kept⟩)
noncomputable def L0_laws_eqInt64S (p0 : (List Int)) (p1 : (List Int)) (s6 : Int) : Option (Fl Int (Fl Unit Bool)) :=
  if (decide (s6 < (p0.length : Int))) = true then (((idx p0 s6).bind fun (x15 : Int) => (idx p1 s6).bind fun (x18 : Int) => some (x15 != x18) : Option (Bool)).bind fun (j11 : Bool) => if j11 = true then (some (Fl.ex (Fl.ex false))) else (some (Fl.nx (wr (s6 + 1))))) else (some (Fl.ex (Fl.nx ())))
noncomputable def F_laws_eqInt64S (p0 : (List Int)) (p1 : (List Int)) : Option (Bool) :=
  if ((p0.length : Int) != (p1.length : Int)) = true then (some false) else ((iter (L0_laws_eqInt64S p0 p1) 0 : Option (Fl Unit Bool)).bind fun (j2 : Fl Unit Bool) => j2.el (fun (s5 : Unit) => some true) (fun r => some r))
set_option maxRecDepth 20000 in
set_option maxHeartbeats 400000 in
theorem c_laws_eqInt64S (w0 : World) (p0 : (List Int)) (v0_1 : Value) (hv0_1 : Ro w0 p0 [v0_1]) (p1 : (List Int)) (v1_1 : Value) (hv1_1 : Ro w0 p1 [v1_1]) (r : Bool) (hF : F_laws_eqInt64S p0 p1 = some r) :
    Calls Try.prog 36 [v0_1, v1_1].toArray w0 (fun en w' => ∃ v, en = .returned v ∧ (v = (vT r) ∧ Kept (Old w0) w0 w')) := by
  refine c_enter (n := 26) Try.func36 rfl rfl (Nat.le_of_ble_eq_true rfl) rfl ?_
  intro a hE
  have hM := M.start w0
  unfold F_laws_eqInt64S at hF
  refine c_region ?_
  refine s_assign hE goes_none (by decide) rfl ?_; intro a hE
  refine c_fin ?_
  refine wp_seq ?_
  refine c_region ?_
  refine s_move hE goes_none (by decide) rfl ?_; intro a hE
  refine s_len hE goes_none (by decide) rfl Try.underlying51 (hM.rd hv0_1) ?_; intro a hE
  refine s_move hE goes_none (by decide) rfl ?_; intro a hE
  refine s_len hE goes_none (by decide) rfl Try.underlying51 (hM.rd hv1_1) ?_; intro a hE
  refine s_int hE goes_none (by decide) rfl rfl rfl ?_; intro a hE
  refine c_fin ?_
  refine c_cond hE rfl ?_ ?_
  · intro hb1
    have hF := ite_t hF hb1
    refine c_region ?_
    refine s_assign hE goes_none (by decide) rfl ?_; intro a hE
    refine c_fin ?_
    have hr := Option.some.inj hF
    subst hr
    exact wp_ret (r_then (k_ret1 hE rfl (res_tmp hE rfl) ⟨_, rfl, rfl, hM.kept⟩))
  · intro hb1
    have hF := ite_f hF hb1
    refine wp_skip ?_
    refine c_nx ?_
    refine wp_seq ?_
    refine c_region ?_
    refine s_assign hE goes_none (by decide) rfl ?_; intro a hE
    refine c_fin ?_
    obtain ⟨j2, hl3, hF4⟩ := bind_some hF
    refine c_cut (fun a w => ∃ s5 : Unit, j2 = Fl.nx s5 ∧ Env 26 a [] ∧ M (Old w0) w0 w []) ?_ ?_
    · skip
      refine wp_block ?_
      refine c_loop (fun (s6 : Int) a w => Env 26 a [(0, v0_1), (1, v1_1), (5, (vI s6))] ∧ M (Old w0) w0 w []) hl3 ⟨hE.sub ⟨rfl, rfl, rfl, trivial⟩, hM⟩ ?_
      rintro s6 a w ⟨hE, hM⟩ o9 hs7 hx8
      unfold L0_laws_eqInt64S at hs7
      refine wp_seq ?_
      refine c_region ?_
      refine s_move hE goes_none (by decide) rfl ?_; intro a hE
      refine s_move hE goes_none (by decide) rfl ?_; intro a hE
      refine s_len hE goes_none (by decide) rfl Try.underlying51 (hM.rd hv0_1) ?_; intro a hE
      refine s_int hE goes_none (by decide) rfl rfl rfl ?_; intro a hE
      refine c_fin ?_
      refine c_cond hE rfl ?_ ?_
      · intro hb10
        have hs7 := ite_t hs7 hb10
        refine wp_skip ?_
        refine c_nx ?_
        refine wp_seq ?_
        refine wp_block ?_
        obtain ⟨j11, hl12, hF13⟩ := bind_some hs7
        refine c_join (fun a w => Env 26 a [(0, v0_1), (1, v1_1), (5, (vI s6)), (25, (vT j11))] ∧ M (Old w0) w0 w []) ?_ ?_
        · skip
          obtain ⟨x15, e16, hl12⟩ := bind_some hl12
          have hi17 := idx_some e16
          obtain ⟨x18, e19, hl12⟩ := bind_some hl12
          have hi20 := idx_some e19
          refine c_draw (n := 26) (hd := [_, _, _, _, _, _, _, _, _]) (tl := []) hmix rfl rfl [17, 18, 19, 20, 21, 22, 23, 24, 25] (by decide) (fun w => M (Old w0) w0 w []) (fun j => ([fun v _ => v = v0_1, fun v _ => v = (vI s6), fun v _ => v = (ptr (sb v0_1) (so v0_1 + (s6).toNat * 1)), fun v _ => v = (vI x15), fun v _ => v = v1_1, fun v _ => v = (vI s6), fun v _ => v = (ptr (sb v1_1) (so v1_1 + (s6).toNat * 1)), fun v _ => v = (vI x18), fun v _ => v = (vT (x15 != x18))] : List (Value → World → Prop)).getD j (fun _ _ => True)) (fun _ _ h hk => h.keep hk) (gup (gupE (gupE (gupE (gupE (gupE (gupE (gupE (gupE (gupE gupN)))))))))) hE hM.drew (steps_of (steps_cons ?_ (steps_cons ?_ (steps_cons ?_ (steps_cons ?_ (steps_cons ?_ (steps_cons ?_ (steps_cons ?_ (steps_cons ?_ (steps_cons ?_ steps_nil)))))))))) ?_
          · intro a w ux14 hE hM hp
            refine s_move hE goes_none (by decide) rfl ?_; intro a hE
            exact ⟨Kept.refl _ _, _, _, rfl, hE, rfl⟩
          · intro a w ux14 hE hM hp
            refine s_move hE goes_none (by decide) rfl ?_; intro a hE
            exact ⟨Kept.refl _ _, _, _, rfl, hE, rfl⟩
          · intro a w ux14 hE hM hp
            have f0 : ux14 0 = v0_1 := hp 0 _ rfl rfl
            have f1 : ux14 1 = (vI s6) := hp 1 _ rfl rfl
            refine s_indexS hE goes_none (by decide) (lk rfl f0) (lk rfl f1) Try.underlying51 ty2 (hM.rd hv0_1) hi17.1 ?_; intro a hE
            exact ⟨Kept.refl _ _, _, _, rfl, hE, rfl⟩
          · intro a w ux14 hE hM hp
            have f2 : ux14 2 = (ptr (sb v0_1) (so v0_1 + (s6).toNat * 1)) := hp 0 _ rfl rfl
            refine s_load (v := (vI x15)) hE goes_none (by decide) (lk rfl f2) ty2 rfl (sl_atF (hM.rd hv0_1) hi17.2) ?_; intro a hE
            exact ⟨Kept.refl _ _, _, _, rfl, hE, rfl⟩
          · intro a w ux14 hE hM hp
            refine s_move hE goes_none (by decide) rfl ?_; intro a hE
            exact ⟨Kept.refl _ _, _, _, rfl, hE, rfl⟩
          · intro a w ux14 hE hM hp
            refine s_move hE goes_none (by decide) rfl ?_; intro a hE
            exact ⟨Kept.refl _ _, _, _, rfl, hE, rfl⟩
          · intro a w ux14 hE hM hp
            have f4 : ux14 4 = v1_1 := hp 0 _ rfl rfl
            have f5 : ux14 5 = (vI s6) := hp 1 _ rfl rfl
            refine s_indexS hE goes_none (by decide) (lk rfl f4) (lk rfl f5) Try.underlying51 ty2 (hM.rd hv1_1) hi20.1 ?_; intro a hE
            exact ⟨Kept.refl _ _, _, _, rfl, hE, rfl⟩
          · intro a w ux14 hE hM hp
            have f6 : ux14 6 = (ptr (sb v1_1) (so v1_1 + (s6).toNat * 1)) := hp 0 _ rfl rfl
            refine s_load (v := (vI x18)) hE goes_none (by decide) (lk rfl f6) ty2 rfl (sl_atF (hM.rd hv1_1) hi20.2) ?_; intro a hE
            exact ⟨Kept.refl _ _, _, _, rfl, hE, rfl⟩
          · intro a w ux14 hE hM hp
            have f3 : ux14 3 = (vI x15) := hp 0 _ rfl rfl
            have f7 : ux14 7 = (vI x18) := hp 1 _ rfl rfl
            refine s_int hE goes_none (by decide) (lk rfl f3) (lk rfl f7) rfl ?_; intro a hE
            exact ⟨Kept.refl _ _, _, _, rfl, hE, rfl⟩
          · intro a w ux14 hE hM hg
            have f0 : ux14 0 = v0_1 := hg 0 (by decide)
            have f1 : ux14 1 = (vI s6) := hg 1 (by decide)
            have f2 : ux14 2 = (ptr (sb v0_1) (so v0_1 + (s6).toNat * 1)) := hg 2 (by decide)
            have f3 : ux14 3 = (vI x15) := hg 3 (by decide)
            have f4 : ux14 4 = v1_1 := hg 4 (by decide)
            have f5 : ux14 5 = (vI s6) := hg 5 (by decide)
            have f6 : ux14 6 = (ptr (sb v1_1) (so v1_1 + (s6).toNat * 1)) := hg 6 (by decide)
            have f7 : ux14 7 = (vI x18) := hg 7 (by decide)
            have f8 : ux14 8 = (vT (x15 != x18)) := hg 8 (by decide)
            have hE := hE.sub (e' := [(17, v0_1), (18, (vI s6)), (19, (ptr (sb v0_1) (so v0_1 + (s6).toNat * 1))), (20, (vI x15)), (21, v1_1), (22, (vI s6)), (23, (ptr (sb v1_1) (so v1_1 + (s6).toNat * 1))), (24, (vI x18)), (25, (vT (x15 != x18))), (0, v0_1), (1, v1_1), (5, (vI s6)), (11, (vI s6)), (12, v0_1), (13, (vI (p0.length : Int))), (14, (vT (decide (s6 < (p0.length : Int)))))]) ⟨lk rfl f0, lk rfl f1, lk rfl f2, lk rfl f3, lk rfl f4, lk rfl f5, lk rfl f6, lk rfl f7, lk rfl f8, rfl, rfl, rfl, rfl, rfl, rfl, rfl, trivial⟩
            refine c_fin0 ?_
            have ht21 := Option.some.inj hl12
            subst ht21
            refine c_mid ?_
            exact ⟨hE.sub ⟨rfl, rfl, rfl, rfl, trivial⟩, hM⟩
        · skip
          rintro a w ⟨hE, hM⟩
          refine c_cond hE rfl ?_ ?_
          · intro hb22
            have hF13 := ite_t hF13 hb22
            refine c_region ?_
            refine s_assign hE goes_none (by decide) rfl ?_; intro a hE
            refine c_fin ?_
            have ht23 := hx8 _ (Option.some.inj hF13).symm
            subst ht23
            have hr := Option.some.inj hF4
            subst hr
            exact wp_ret (r_inb (r_then (r_then (r_inb (r_then (r_then (k_ret1 hE rfl (res_tmp hE rfl) ⟨_, rfl, rfl, hM.kept⟩)))))))
          · intro hb22
            have hF13 := ite_f hF13 hb22
            refine wp_skip ?_
            refine c_nb ?_
            refine c_nx ?_
            refine wp_region_lit ?_
            refine s_move hE goes_none (by decide) rfl ?_; intro a hE
            refine s_int hE goes_none (by decide) rfl rfl rfl ?_; intro a hE
            refine s_assign hE goes_none (by decide) rfl ?_; intro a hE
            refine c_fin0 ?_
            refine c_mid ?_
            exact ⟨_, (Option.some.inj hF13).symm, hE.sub ⟨rfl, rfl, rfl, trivial⟩, hM⟩
      · intro hb10
        have hs7 := ite_f hs7 hb10
        refine wp_exit (e_then (e_then (e_eq ?_)))
        have ht24 := hx8 _ (Option.some.inj hs7).symm
        subst ht24
        refine c_mid ?_
        exact ⟨(), rfl, hE.sub trivial, hM⟩
    · skip
      rintro a w ⟨s5, ht, hE, hM⟩
      subst ht
      have hF4 := el_nx hF4
      refine c_nx ?_
      refine c_region ?_
      refine s_assign hE goes_none (by decide) rfl ?_; intro a hE
      refine c_fin ?_
      have hr := Option.some.inj hF4
      subst hr
      exact wp_ret (k_ret1 hE rfl (res_tmp hE rfl) ⟨_, rfl, rfl, hM.kept⟩)
noncomputable def L0_laws_eqByteS (p0 : (List UInt8)) (p1 : (List UInt8)) (s6 : Int) : Option (Fl Int (Fl Unit Bool)) :=
  if (decide (s6 < (p0.length : Int))) = true then (((idx p0 s6).bind fun (x15 : UInt8) => (idx p1 s6).bind fun (x18 : UInt8) => some (x15 != x18) : Option (Bool)).bind fun (j11 : Bool) => if j11 = true then (some (Fl.ex (Fl.ex false))) else (some (Fl.nx (wr (s6 + 1))))) else (some (Fl.ex (Fl.nx ())))
noncomputable def F_laws_eqByteS (p0 : (List UInt8)) (p1 : (List UInt8)) : Option (Bool) :=
  if ((p0.length : Int) != (p1.length : Int)) = true then (some false) else ((iter (L0_laws_eqByteS p0 p1) 0 : Option (Fl Unit Bool)).bind fun (j2 : Fl Unit Bool) => j2.el (fun (s5 : Unit) => some true) (fun r => some r))
set_option maxRecDepth 20000 in
set_option maxHeartbeats 400000 in
theorem c_laws_eqByteS (w0 : World) (p0 : (List UInt8)) (v0_1 : Value) (hv0_1 : Ro w0 p0 [v0_1]) (p1 : (List UInt8)) (v1_1 : Value) (hv1_1 : Ro w0 p1 [v1_1]) (r : Bool) (hF : F_laws_eqByteS p0 p1 = some r) :
    Calls Try.prog 72 [v0_1, v1_1].toArray w0 (fun en w' => ∃ v, en = .returned v ∧ (v = (vT r) ∧ Kept (Old w0) w0 w')) := by
  refine c_enter (n := 26) Try.func72 rfl rfl (Nat.le_of_ble_eq_true rfl) rfl ?_
  intro a hE
  have hM := M.start w0
  unfold F_laws_eqByteS at hF
  refine c_region ?_
  refine s_assign hE goes_none (by decide) rfl ?_; intro a hE
  refine c_fin ?_
  refine wp_seq ?_
  refine c_region ?_
  refine s_move hE goes_none (by decide) rfl ?_; intro a hE
  refine s_len hE goes_none (by decide) rfl Try.underlying24 (hM.rd hv0_1) ?_; intro a hE
  refine s_move hE goes_none (by decide) rfl ?_; intro a hE
  refine s_len hE goes_none (by decide) rfl Try.underlying24 (hM.rd hv1_1) ?_; intro a hE
  refine s_int hE goes_none (by decide) rfl rfl rfl ?_; intro a hE
  refine c_fin ?_
  refine c_cond hE rfl ?_ ?_
  · intro hb1
    have hF := ite_t hF hb1
    refine c_region ?_
    refine s_assign hE goes_none (by decide) rfl ?_; intro a hE
    refine c_fin ?_
    have hr := Option.some.inj hF
    subst hr
    exact wp_ret (r_then (k_ret1 hE rfl (res_tmp hE rfl) ⟨_, rfl, rfl, hM.kept⟩))
  · intro hb1
    have hF := ite_f hF hb1
    refine wp_skip ?_
    refine c_nx ?_
    refine wp_seq ?_
    refine c_region ?_
    refine s_assign hE goes_none (by decide) rfl ?_; intro a hE
    refine c_fin ?_
    obtain ⟨j2, hl3, hF4⟩ := bind_some hF
    refine c_cut (fun a w => ∃ s5 : Unit, j2 = Fl.nx s5 ∧ Env 26 a [] ∧ M (Old w0) w0 w []) ?_ ?_
    · skip
      refine wp_block ?_
      refine c_loop (fun (s6 : Int) a w => Env 26 a [(0, v0_1), (1, v1_1), (5, (vI s6))] ∧ M (Old w0) w0 w []) hl3 ⟨hE.sub ⟨rfl, rfl, rfl, trivial⟩, hM⟩ ?_
      rintro s6 a w ⟨hE, hM⟩ o9 hs7 hx8
      unfold L0_laws_eqByteS at hs7
      refine wp_seq ?_
      refine c_region ?_
      refine s_move hE goes_none (by decide) rfl ?_; intro a hE
      refine s_move hE goes_none (by decide) rfl ?_; intro a hE
      refine s_len hE goes_none (by decide) rfl Try.underlying24 (hM.rd hv0_1) ?_; intro a hE
      refine s_int hE goes_none (by decide) rfl rfl rfl ?_; intro a hE
      refine c_fin ?_
      refine c_cond hE rfl ?_ ?_
      · intro hb10
        have hs7 := ite_t hs7 hb10
        refine wp_skip ?_
        refine c_nx ?_
        refine wp_seq ?_
        refine wp_block ?_
        obtain ⟨j11, hl12, hF13⟩ := bind_some hs7
        refine c_join (fun a w => Env 26 a [(0, v0_1), (1, v1_1), (5, (vI s6)), (25, (vT j11))] ∧ M (Old w0) w0 w []) ?_ ?_
        · skip
          obtain ⟨x15, e16, hl12⟩ := bind_some hl12
          have hi17 := idx_some e16
          obtain ⟨x18, e19, hl12⟩ := bind_some hl12
          have hi20 := idx_some e19
          refine c_draw (n := 26) (hd := [_, _, _, _, _, _, _, _, _]) (tl := []) hmix rfl rfl [17, 18, 19, 20, 21, 22, 23, 24, 25] (by decide) (fun w => M (Old w0) w0 w []) (fun j => ([fun v _ => v = v0_1, fun v _ => v = (vI s6), fun v _ => v = (ptr (sb v0_1) (so v0_1 + (s6).toNat * 1)), fun v _ => v = (vB x15), fun v _ => v = v1_1, fun v _ => v = (vI s6), fun v _ => v = (ptr (sb v1_1) (so v1_1 + (s6).toNat * 1)), fun v _ => v = (vB x18), fun v _ => v = (vT (x15 != x18))] : List (Value → World → Prop)).getD j (fun _ _ => True)) (fun _ _ h hk => h.keep hk) (gup (gupE (gupE (gupE (gupE (gupE (gupE (gupE (gupE (gupE gupN)))))))))) hE hM.drew (steps_of (steps_cons ?_ (steps_cons ?_ (steps_cons ?_ (steps_cons ?_ (steps_cons ?_ (steps_cons ?_ (steps_cons ?_ (steps_cons ?_ (steps_cons ?_ steps_nil)))))))))) ?_
          · intro a w ux14 hE hM hp
            refine s_move hE goes_none (by decide) rfl ?_; intro a hE
            exact ⟨Kept.refl _ _, _, _, rfl, hE, rfl⟩
          · intro a w ux14 hE hM hp
            refine s_move hE goes_none (by decide) rfl ?_; intro a hE
            exact ⟨Kept.refl _ _, _, _, rfl, hE, rfl⟩
          · intro a w ux14 hE hM hp
            have f0 : ux14 0 = v0_1 := hp 0 _ rfl rfl
            have f1 : ux14 1 = (vI s6) := hp 1 _ rfl rfl
            refine s_indexS hE goes_none (by decide) (lk rfl f0) (lk rfl f1) Try.underlying24 ty5 (hM.rd hv0_1) hi17.1 ?_; intro a hE
            exact ⟨Kept.refl _ _, _, _, rfl, hE, rfl⟩
          · intro a w ux14 hE hM hp
            have f2 : ux14 2 = (ptr (sb v0_1) (so v0_1 + (s6).toNat * 1)) := hp 0 _ rfl rfl
            refine s_load (v := (vB x15)) hE goes_none (by decide) (lk rfl f2) ty5 rfl (sl_atF (hM.rd hv0_1) hi17.2) ?_; intro a hE
            exact ⟨Kept.refl _ _, _, _, rfl, hE, rfl⟩
          · intro a w ux14 hE hM hp
            refine s_move hE goes_none (by decide) rfl ?_; intro a hE
            exact ⟨Kept.refl _ _, _, _, rfl, hE, rfl⟩
          · intro a w ux14 hE hM hp
            refine s_move hE goes_none (by decide) rfl ?_; intro a hE
            exact ⟨Kept.refl _ _, _, _, rfl, hE, rfl⟩
          · intro a w ux14 hE hM hp
            have f4 : ux14 4 = v1_1 := hp 0 _ rfl rfl
            have f5 : ux14 5 = (vI s6) := hp 1 _ rfl rfl
            refine s_indexS hE goes_none (by decide) (lk rfl f4) (lk rfl f5) Try.underlying24 ty5 (hM.rd hv1_1) hi20.1 ?_; intro a hE
            exact ⟨Kept.refl _ _, _, _, rfl, hE, rfl⟩
          · intro a w ux14 hE hM hp
            have f6 : ux14 6 = (ptr (sb v1_1) (so v1_1 + (s6).toNat * 1)) := hp 0 _ rfl rfl
            refine s_load (v := (vB x18)) hE goes_none (by decide) (lk rfl f6) ty5 rfl (sl_atF (hM.rd hv1_1) hi20.2) ?_; intro a hE
            exact ⟨Kept.refl _ _, _, _, rfl, hE, rfl⟩
          · intro a w ux14 hE hM hp
            have f3 : ux14 3 = (vB x15) := hp 0 _ rfl rfl
            have f7 : ux14 7 = (vB x18) := hp 1 _ rfl rfl
            refine s_int hE goes_none (by decide) (lk rfl f3) (lk rfl f7) (bB_neq x15 x18) ?_; intro a hE
            exact ⟨Kept.refl _ _, _, _, rfl, hE, rfl⟩
          · intro a w ux14 hE hM hg
            have f0 : ux14 0 = v0_1 := hg 0 (by decide)
            have f1 : ux14 1 = (vI s6) := hg 1 (by decide)
            have f2 : ux14 2 = (ptr (sb v0_1) (so v0_1 + (s6).toNat * 1)) := hg 2 (by decide)
            have f3 : ux14 3 = (vB x15) := hg 3 (by decide)
            have f4 : ux14 4 = v1_1 := hg 4 (by decide)
            have f5 : ux14 5 = (vI s6) := hg 5 (by decide)
            have f6 : ux14 6 = (ptr (sb v1_1) (so v1_1 + (s6).toNat * 1)) := hg 6 (by decide)
            have f7 : ux14 7 = (vB x18) := hg 7 (by decide)
            have f8 : ux14 8 = (vT (x15 != x18)) := hg 8 (by decide)
            have hE := hE.sub (e' := [(17, v0_1), (18, (vI s6)), (19, (ptr (sb v0_1) (so v0_1 + (s6).toNat * 1))), (20, (vB x15)), (21, v1_1), (22, (vI s6)), (23, (ptr (sb v1_1) (so v1_1 + (s6).toNat * 1))), (24, (vB x18)), (25, (vT (x15 != x18))), (0, v0_1), (1, v1_1), (5, (vI s6)), (11, (vI s6)), (12, v0_1), (13, (vI (p0.length : Int))), (14, (vT (decide (s6 < (p0.length : Int)))))]) ⟨lk rfl f0, lk rfl f1, lk rfl f2, lk rfl f3, lk rfl f4, lk rfl f5, lk rfl f6, lk rfl f7, lk rfl f8, rfl, rfl, rfl, rfl, rfl, rfl, rfl, trivial⟩
            refine c_fin0 ?_
            have ht21 := Option.some.inj hl12
            subst ht21
            refine c_mid ?_
            exact ⟨hE.sub ⟨rfl, rfl, rfl, rfl, trivial⟩, hM⟩
        · skip
          rintro a w ⟨hE, hM⟩
          refine c_cond hE rfl ?_ ?_
          · intro hb22
            have hF13 := ite_t hF13 hb22
            refine c_region ?_
            refine s_assign hE goes_none (by decide) rfl ?_; intro a hE
            refine c_fin ?_
            have ht23 := hx8 _ (Option.some.inj hF13).symm
            subst ht23
            have hr := Option.some.inj hF4
            subst hr
            exact wp_ret (r_inb (r_then (r_then (r_inb (r_then (r_then (k_ret1 hE rfl (res_tmp hE rfl) ⟨_, rfl, rfl, hM.kept⟩)))))))
          · intro hb22
            have hF13 := ite_f hF13 hb22
            refine wp_skip ?_
            refine c_nb ?_
            refine c_nx ?_
            refine wp_region_lit ?_
            refine s_move hE goes_none (by decide) rfl ?_; intro a hE
            refine s_int hE goes_none (by decide) rfl rfl rfl ?_; intro a hE
            refine s_assign hE goes_none (by decide) rfl ?_; intro a hE
            refine c_fin0 ?_
            refine c_mid ?_
            exact ⟨_, (Option.some.inj hF13).symm, hE.sub ⟨rfl, rfl, rfl, trivial⟩, hM⟩
      · intro hb10
        have hs7 := ite_f hs7 hb10
        refine wp_exit (e_then (e_then (e_eq ?_)))
        have ht24 := hx8 _ (Option.some.inj hs7).symm
        subst ht24
        refine c_mid ?_
        exact ⟨(), rfl, hE.sub trivial, hM⟩
    · skip
      rintro a w ⟨s5, ht, hE, hM⟩
      subst ht
      have hF4 := el_nx hF4
      refine c_nx ?_
      refine c_region ?_
      refine s_assign hE goes_none (by decide) rfl ?_; intro a hE
      refine c_fin ?_
      have hr := Option.some.inj hF4
      subst hr
      exact wp_ret (k_ret1 hE rfl (res_tmp hE rfl) ⟨_, rfl, rfl, hM.kept⟩)
noncomputable def F_laws_eqShare (p0 : GShare) (p1 : GShare) : Option (Bool) :=
  if (p0.Place != p1.Place) = true then (some false) else ((F_laws_eqByteS p0.Data p1.Data).bind fun (r6 : Bool) => if (!r6) = true then (some false) else (some true))
set_option maxRecDepth 20000 in
set_option maxHeartbeats 400000 in
theorem c_laws_eqShare (w0 : World) (p0 : GShare) (v0_1 : Value) (hv0_1 : Ro w0 p0.Data [v0_1]) (p1 : GShare) (v1_1 : Value) (hv1_1 : Ro w0 p1.Data [v1_1]) (r : Bool) (hF : F_laws_eqShare p0 p1 = some r) :
    Calls Try.prog 19 [(Value.agg (cat [[(vB p0.Place)], [v0_1]]).toArray), (Value.agg (cat [[(vB p1.Place)], [v1_1]]).toArray)].toArray w0 (fun en w' => ∃ v, en = .returned v ∧ (v = (vT r) ∧ Kept (Old w0) w0 w')) := by
  refine c_enter (n := 16) Try.func19 rfl rfl (Nat.le_of_ble_eq_true rfl) rfl ?_
  intro a hE
  have hM := M.start w0
  unfold F_laws_eqShare at hF
  refine c_region ?_
  refine s_box (cs := cat [[(vB p0.Place)], [v0_1]]) hE hM goes_none (by decide) rfl rfl ?_; intro b1 w a hM hE
  refine s_box (cs := cat [[(vB p1.Place)], [v1_1]]) hE hM goes_none (by decide) rfl rfl ?_; intro b3 w a hM hE
  refine s_assign hE goes_none (by decide) rfl ?_; intro a hE
  refine c_fin ?_
  refine wp_seq ?_
  refine c_region ?_
  refine s_fieldAddr hE goes_none (by decide) rfl (fd26_0) ?_; intro a hE
  refine s_load (v := (vB p0.Place)) hE goes_none (by decide) rfl ty5 rfl (At.cat (pre := []) (seg := [(vB p0.Place)]) (post := [[v0_1]]) (hM.rawAt (pre := [_])) cl0) ?_; intro a hE
  refine s_fieldAddr hE goes_none (by decide) rfl (fd26_0) ?_; intro a hE
  refine s_load (v := (vB p1.Place)) hE goes_none (by decide) rfl ty5 rfl (At.cat (pre := []) (seg := [(vB p1.Place)]) (post := [[v1_1]]) (hM.rawAt (pre := [])) cl0) ?_; intro a hE
  refine s_int hE goes_none (by decide) rfl rfl (bB_neq p0.Place p1.Place) ?_; intro a hE
  refine c_fin ?_
  refine c_cond hE rfl ?_ ?_
  · intro hb5
    have hF := ite_t hF hb5
    refine c_region ?_
    refine s_assign hE goes_none (by decide) rfl ?_; intro a hE
    refine c_fin ?_
    have hr := Option.some.inj hF
    subst hr
    have hM := M.fst (l := []) hM
    exact wp_ret (r_then (k_ret1 hE rfl (res_tmp hE rfl) ⟨_, rfl, rfl, hM.kept⟩))
  · intro hb5
    have hF := ite_f hF hb5
    refine wp_skip ?_
    refine c_nx ?_
    refine wp_seq ?_
    refine c_region ?_
    refine s_fieldAddr hE goes_none (by decide) rfl (fd26_1) ?_; intro a hE
    refine s_load (v := v0_1) hE goes_none (by decide) rfl ty24 rfl (At.cat (pre := [[(vB p0.Place)]]) (seg := [v0_1]) (post := []) (hM.rawAt (pre := [_])) (cl1 (n := 1) (m := 0) rfl cl0)) ?_; intro a hE
    refine s_fieldAddr hE goes_none (by decide) rfl (fd26_1) ?_; intro a hE
    refine s_load (v := v1_1) hE goes_none (by decide) rfl ty24 rfl (At.cat (pre := [[(vB p1.Place)]]) (seg := [v1_1]) (post := []) (hM.rawAt (pre := [])) (cl1 (n := 1) (m := 0) rfl cl0)) ?_; intro a hE
    obtain ⟨r6, e7, hF⟩ := bind_some hF
    refine s_call (vs := [v0_1, v1_1]) hE goes_none (by decide) rfl cb72 (c_laws_eqByteS _ p0.Data v0_1 (hM.rdo hv0_1) p1.Data v1_1 (hM.rdo hv1_1) r6 e7) ?_
    rintro v w a ⟨rfl, hK⟩ hE
    have hM := hM.keep hK
    refine s_not hE goes_none (by decide) rfl ?_; intro a hE
    refine c_fin ?_
    refine c_cond hE rfl ?_ ?_
    · intro hb8
      have hF := ite_t hF hb8
      refine c_region ?_
      refine s_assign hE goes_none (by decide) rfl ?_; intro a hE
      refine c_fin ?_
      have hr := Option.some.inj hF
      subst hr
      have hM := M.fst (l := []) hM
      exact wp_ret (r_then (k_ret1 hE rfl (res_tmp hE rfl) ⟨_, rfl, rfl, hM.kept⟩))
    · intro hb8
      have hF := ite_f hF hb8
      refine wp_skip ?_
      refine c_nx ?_
      refine c_region ?_
      refine s_assign hE goes_none (by decide) rfl ?_; intro a hE
      refine c_fin ?_
      have hr := Option.some.inj hF
      subst hr
      have hM := M.fst (l := []) hM
      exact wp_ret (k_ret1 hE rfl (res_tmp hE rfl) ⟨_, rfl, rfl, hM.kept⟩)
noncomputable def L0_laws_eqShareS (p0 : (List GShare)) (p1 : (List GShare)) (s6 : Int) : Option (Fl Int (Fl Unit Bool)) :=
  if (decide (s6 < (p0.length : Int))) = true then (((idx p0 s6).bind fun (x15 : GShare) => (idx p1 s6).bind fun (x23 : GShare) => (F_laws_eqShare x15 x23).bind fun (r31 : Bool) => some (!r31) : Option (Bool)).bind fun (j11 : Bool) => if j11 = true then (some (Fl.ex (Fl.ex false))) else (some (Fl.nx (wr (s6 + 1))))) else (some (Fl.ex (Fl.nx ())))
noncomputable def F_laws_eqShareS (p0 : (List GShare)) (p1 : (List GShare)) : Option (Bool) :=
  if ((p0.length : Int) != (p1.length : Int)) = true then (some false) else ((iter (L0_laws_eqShareS p0 p1) 0 : Option (Fl Unit Bool)).bind fun (j2 : Fl Unit Bool) => j2.el (fun (s5 : Unit) => some true) (fun r => some r))
set_option maxRecDepth 20000 in
set_option maxHeartbeats 400000 in
theorem c_laws_eqShareS (w0 : World) (p0 : (List GShare)) (v0_1 : Value) (hv0_1 : Ro w0 p0 [v0_1]) (p1 : (List GShare)) (v1_1 : Value) (hv1_1 : Ro w0 p1 [v1_1]) (r : Bool) (hF : F_laws_eqShareS p0 p1 = some r) :
    Calls Try.prog 20 [v0_1, v1_1].toArray w0 (fun en w' => ∃ v, en = .returned v ∧ (v = (vT r) ∧ Kept (Old w0) w0 w')) := by
  refine c_enter (n := 27) Try.func20 rfl rfl (Nat.le_of_ble_eq_true rfl) rfl ?_
  intro a hE
  have hM := M.start w0
  unfold F_laws_eqShareS at hF
  refine c_region ?_
  refine s_assign hE goes_none (by decide) rfl ?_; intro a hE
  refine c_fin ?_
  refine wp_seq ?_
  refine c_region ?_
  refine s_move hE goes_none (by decide) rfl ?_; intro a hE
  refine s_len hE goes_none (by decide) rfl Try.underlying29 (hM.rd hv0_1) ?_; intro a hE
  refine s_move hE goes_none (by decide) rfl ?_; intro a hE
  refine s_len hE goes_none (by decide) rfl Try.underlying29 (hM.rd hv1_1) ?_; intro a hE
  refine s_int hE goes_none (by decide) rfl rfl rfl ?_; intro a hE
  refine c_fin ?_
  refine c_cond hE rfl ?_ ?_
  · intro hb1
    have hF := ite_t hF hb1
    refine c_region ?_
    refine s_assign hE goes_none (by decide) rfl ?_; intro a hE
    refine c_fin ?_
    have hr := Option.some.inj hF
    subst hr
    exact wp_ret (r_then (k_ret1 hE rfl (res_tmp hE rfl) ⟨_, rfl, rfl, hM.kept⟩))
  · intro hb1
    have hF := ite_f hF hb1
    refine wp_skip ?_
    refine c_nx ?_
    refine wp_seq ?_
    refine c_region ?_
    refine s_assign hE goes_none (by decide) rfl ?_; intro a hE
    refine c_fin ?_
    obtain ⟨j2, hl3, hF4⟩ := bind_some hF
    refine c_cut (fun a w => ∃ s5 : Unit, j2 = Fl.nx s5 ∧ Env 27 a [] ∧ M (Old w0) w0 w []) ?_ ?_
    · skip
      refine wp_block ?_
      refine c_loop (fun (s6 : Int) a w => Env 27 a [(0, v0_1), (1, v1_1), (5, (vI s6))] ∧ M (Old w0) w0 w []) hl3 ⟨hE.sub ⟨rfl, rfl, rfl, trivial⟩, hM⟩ ?_
      rintro s6 a w ⟨hE, hM⟩ o9 hs7 hx8
      unfold L0_laws_eqShareS at hs7
      refine wp_seq ?_
      refine c_region ?_
      refine s_move hE goes_none (by decide) rfl ?_; intro a hE
      refine s_move hE goes_none (by decide) rfl ?_; intro a hE
      refine s_len hE goes_none (by decide) rfl Try.underlying29 (hM.rd hv0_1) ?_; intro a hE
      refine s_int hE goes_none (by decide) rfl rfl rfl ?_; intro a hE
      refine c_fin ?_
      refine c_cond hE rfl ?_ ?_
      · intro hb10
        have hs7 := ite_t hs7 hb10
        refine wp_skip ?_
        refine c_nx ?_
        refine wp_seq ?_
        refine wp_block ?_
        obtain ⟨j11, hl12, hF13⟩ := bind_some hs7
        refine c_join (fun a w => Env 27 a [(0, v0_1), (1, v1_1), (5, (vI s6)), (26, (vT j11))] ∧ M (Old w0) w0 w []) ?_ ?_
        · skip
          obtain ⟨x15, e16, hl12⟩ := bind_some hl12
          have hi17 := idx_some e16
          obtain ⟨cs18, hs19, hA20⟩ := sl_atRo hv0_1 hi17.2 -- ^
          obtain ⟨u21, rfl, h22⟩ := un_GShare hs19 -- ^
          obtain ⟨x23, e24, hl12⟩ := bind_some hl12
          have hi25 := idx_some e24
          obtain ⟨cs26, hs27, hA28⟩ := sl_atRo hv1_1 hi25.2 -- ^
          obtain ⟨u29, rfl, h30⟩ := un_GShare hs27 -- ^
          obtain ⟨r31, e32, hl12⟩ := bind_some hl12
          refine c_draw (n := 27) (hd := [_, _, _, _, _, _, _, _, _, _]) (tl := []) hmix rfl rfl [17, 18, 19, 20, 21, 22, 23, 24, 25, 26] (by decide) (fun w => M (Old w0) w0 w []) (fun j => ([fun v _ => v = v0_1, fun v _ => v = (vI s6), fun v _ => v = (ptr (sb v0_1) (so v0_1 + (s6).toNat * 2)), fun v _ => v = (Value.agg (cat [[(vB x15.Place)], [u21]]).toArray), fun v _ => v = v1_1, fun v _ => v = (vI s6), fun v _ => v = (ptr (sb v1_1) (so v1_1 + (s6).toNat * 2)), fun v _ => v = (Value.agg (cat [[(vB x23.Place)], [u29]]).toArray), fun v _ => v = (vT r31), fun v _ => v = (vT (!r31))] : List (Value → World → Prop)).getD j (fun _ _ => True)) (fun _ _ h hk => h.keep hk) (gup (gupE (gupE (gupE (gupE (gupE (gupE (gupE (gupE (gupE (gupE gupN))))))))))) hE hM.drew (steps_of (steps_cons ?_ (steps_cons ?_ (steps_cons ?_ (steps_cons ?_ (steps_cons ?_ (steps_cons ?_ (steps_cons ?_ (steps_cons ?_ (steps_cons ?_ (steps_cons ?_ steps_nil))))))))))) ?_
          · intro a w ux14 hE hM hp
            refine s_move hE goes_none (by decide) rfl ?_; intro a hE
            exact ⟨Kept.refl _ _, _, _, rfl, hE, rfl⟩
          · intro a w ux14 hE hM hp
            refine s_move hE goes_none (by decide) rfl ?_; intro a hE
            exact ⟨Kept.refl _ _, _, _, rfl, hE, rfl⟩
          · intro a w ux14 hE hM hp
            have f0 : ux14 0 = v0_1 := hp 0 _ rfl rfl
            have f1 : ux14 1 = (vI s6) := hp 1 _ rfl rfl
            refine s_indexS hE goes_none (by decide) (lk rfl f0) (lk rfl f1) Try.underlying29 ty26 (hM.rd hv0_1) hi17.1 ?_; intro a hE
            exact ⟨Kept.refl _ _, _, _, rfl, hE, rfl⟩
          · intro a w ux14 hE hM hp
            have f2 : ux14 2 = (ptr (sb v0_1) (so v0_1 + (s6).toNat * 2)) := hp 0 _ rfl rfl
            refine s_loadA (cs := cat [[(vB x15.Place)], [u21]]) hE goes_none (by decide) (lk rfl f2) ty26 rfl (hM.atk hA20 (sl_blk hv0_1 hi17.2)) (cat_len (cl1 (n := 1) (m := 1) rfl (cl1 (n := 1) (m := 0) rfl cl0))) ?_; intro a hE
            exact ⟨Kept.refl _ _, _, _, rfl, hE, rfl⟩
          · intro a w ux14 hE hM hp
            refine s_move hE goes_none (by decide) rfl ?_; intro a hE
            exact ⟨Kept.refl _ _, _, _, rfl, hE, rfl⟩
          · intro a w ux14 hE hM hp
            refine s_move hE goes_none (by decide) rfl ?_; intro a hE
            exact ⟨Kept.refl _ _, _, _, rfl, hE, rfl⟩
          · intro a w ux14 hE hM hp
            have f4 : ux14 4 = v1_1 := hp 0 _ rfl rfl
            have f5 : ux14 5 = (vI s6) := hp 1 _ rfl rfl
            refine s_indexS hE goes_none (by decide) (lk rfl f4) (lk rfl f5) Try.underlying29 ty26 (hM.rd hv1_1) hi25.1 ?_; intro a hE
            exact ⟨Kept.refl _ _, _, _, rfl, hE, rfl⟩
          · intro a w ux14 hE hM hp
            have f6 : ux14 6 = (ptr (sb v1_1) (so v1_1 + (s6).toNat * 2)) := hp 0 _ rfl rfl
            refine s_loadA (cs := cat [[(vB x23.Place)], [u29]]) hE goes_none (by decide) (lk rfl f6) ty26 rfl (hM.atk hA28 (sl_blk hv1_1 hi25.2)) (cat_len (cl1 (n := 1) (m := 1) rfl (cl1 (n := 1) (m := 0) rfl cl0))) ?_; intro a hE
            exact ⟨Kept.refl _ _, _, _, rfl, hE, rfl⟩
          · intro a w ux14 hE hM hp
            have f3 : ux14 3 = (Value.agg (cat [[(vB x15.Place)], [u21]]).toArray) := hp 0 _ rfl rfl
            have f7 : ux14 7 = (Value.agg (cat [[(vB x23.Place)], [u29]]).toArray) := hp 1 _ rfl rfl
            refine s_call (vs := [(Value.agg (cat [[(vB x15.Place)], [u21]]).toArray), (Value.agg (cat [[(vB x23.Place)], [u29]]).toArray)]) hE goes_none (by decide) (evs_of (evsC (lk rfl f3) (evsC (lk rfl f7) evsN))) cb19 (c_laws_eqShare _ x15 u21 (hM.rdo h22) x23 u29 (hM.rdo h30) r31 e32) ?_
            rintro v w a ⟨rfl, hK⟩ hE
            exact ⟨hK, _, _, rfl, hE, rfl⟩
          · intro a w ux14 hE hM hp
            have f8 : ux14 8 = (vT r31) := hp 0 _ rfl rfl
            refine s_not hE goes_none (by decide) (lk rfl f8) ?_; intro a hE
            exact ⟨Kept.refl _ _, _, _, rfl, hE, rfl⟩
          · intro a w ux14 hE hM hg
            have f0 : ux14 0 = v0_1 := hg 0 (by decide)
            have f1 : ux14 1 = (vI s6) := hg 1 (by decide)
            have f2 : ux14 2 = (ptr (sb v0_1) (so v0_1 + (s6).toNat * 2)) := hg 2 (by decide)
            have f3 : ux14 3 = (Value.agg (cat [[(vB x15.Place)], [u21]]).toArray) := hg 3 (by decide)
            have f4 : ux14 4 = v1_1 := hg 4 (by decide)
            have f5 : ux14 5 = (vI s6) := hg 5 (by decide)
            have f6 : ux14 6 = (ptr (sb v1_1) (so v1_1 + (s6).toNat * 2)) := hg 6 (by decide)
            have f7 : ux14 7 = (Value.agg (cat [[(vB x23.Place)], [u29]]).toArray) := hg 7 (by decide)
            have f8 : ux14 8 = (vT r31) := hg 8 (by decide)
            have f9 : ux14 9 = (vT (!r31)) := hg 9 (by decide)
            have hE := hE.sub (e' := [(17, v0_1), (18, (vI s6)), (19, (ptr (sb v0_1) (so v0_1 + (s6).toNat * 2))), (20, (Value.agg (cat [[(vB x15.Place)], [u21]]).toArray)), (21, v1_1), (22, (vI s6)), (23, (ptr (sb v1_1) (so v1_1 + (s6).toNat * 2))), (24, (Value.agg (cat [[(vB x23.Place)], [u29]]).toArray)), (25, (vT r31)), (26, (vT (!r31))), (0, v0_1), (1, v1_1), (5, (vI s6)), (11, (vI s6)), (12, v0_1), (13, (vI (p0.length : Int))), (14, (vT (decide (s6 < (p0.length : Int)))))]) ⟨lk rfl f0, lk rfl f1, lk rfl f2, lk rfl f3, lk rfl f4, lk rfl f5, lk rfl f6, lk rfl f7, lk rfl f8, lk rfl f9, rfl, rfl, rfl, rfl, rfl, rfl, rfl, trivial⟩
            refine c_fin0 ?_
            have ht33 := Option.some.inj hl12
            subst ht33
            refine c_mid ?_
            exact ⟨hE.sub ⟨rfl, rfl, rfl, rfl, trivial⟩, hM⟩
        · skip
          rintro a w ⟨hE, hM⟩
          refine c_cond hE rfl ?_ ?_
          · intro hb34
            have hF13 := ite_t hF13 hb34
            refine c_region ?_
            refine s_assign hE goes_none (by decide) rfl ?_; intro a hE
            refine c_fin ?_
            have ht35 := hx8 _ (Option.some.inj hF13).symm
            subst ht35
            have hr := Option.some.inj hF4
            subst hr
            exact wp_ret (r_inb (r_then (r_then (r_inb (r_then (r_then (k_ret1 hE rfl (res_tmp hE rfl) ⟨_, rfl, rfl, hM.kept⟩)))))))
          · intro hb34
            have hF13 := ite_f hF13 hb34
            refine wp_skip ?_
            refine c_nb ?_
            refine c_nx ?_
            refine wp_region_lit ?_
            refine s_move hE goes_none (by decide) rfl ?_; intro a hE
            refine s_int hE goes_none (by decide) rfl rfl rfl ?_; intro a hE
            refine s_assign hE goes_none (by decide) rfl ?_; intro a hE
            refine c_fin0 ?_
            refine c_mid ?_
            exact ⟨_, (Option.some.inj hF13).symm, hE.sub ⟨rfl, rfl, rfl, trivial⟩, hM⟩
      · intro hb10
        have hs7 := ite_f hs7 hb10
        refine wp_exit (e_then (e_then (e_eq ?_)))
        have ht36 := hx8 _ (Option.some.inj hs7).symm
        subst ht36
        refine c_mid ?_
        exact ⟨(), rfl, hE.sub trivial, hM⟩
    · skip
      rintro a w ⟨s5, ht, hE, hM⟩
      subst ht
      have hF4 := el_nx hF4
      refine c_nx ?_
      refine c_region ?_
      refine s_assign hE goes_none (by decide) rfl ?_; intro a hE
      refine c_fin ?_
      have hr := Option.some.inj hF4
      subst hr
      exact wp_ret (k_ret1 hE rfl (res_tmp hE rfl) ⟨_, rfl, rfl, hM.kept⟩)
noncomputable def L0_laws_markByteS (s4 : (List UInt8) × Int × Int) : Option (Fl ((List UInt8) × Int × Int) ((List UInt8) × Int)) :=
  if (decide (s4.2.2 < (s4.1.length : Int))) = true then ((idx s4.1 s4.2.2).bind fun (x9 : UInt8) => some (Fl.nx ((s4.1.set (s4.2.2).toNat (byteI s4.2.1)), wr (s4.2.1 + 1), wr (s4.2.2 + 1)))) else (some (Fl.ex (s4.1, s4.2.1)))
noncomputable def F_laws_markByteS (p0 : (List UInt8)) (p1 : Int) : Option ((List UInt8) × Int) :=
  (iter (L0_laws_markByteS) (p0, p1, 0) : Option ((List UInt8) × Int)).bind fun (j1 : (List UInt8) × Int) => some (j1.1, j1.2)
set_option maxRecDepth 20000 in
set_option maxHeartbeats 400000 in
theorem c_laws_markByteS (St : Nat → Prop) (W w0 : World) (its : List Item) (p0 : (List UInt8)) (v0_1 : Value) (p1 : Int) (hM : M St W w0 (own NoB (p0 : (List UInt8)) [v0_1] :: its)) (r : (List UInt8) × Int) (hF : F_laws_markByteS p0 p1 = some r) :
    Calls Try.prog 73 [v0_1, (vI p1)].toArray w0 (fun en w' => ∃ v, en = .returned v ∧ (v = (vI r.2) ∧ M St W w' (own NoB (r.1 : (List UInt8)) [v0_1] :: its))) := by
  refine c_enter (n := 20) Try.func73 rfl rfl (Nat.le_of_ble_eq_true rfl) rfl ?_
  intro a hE
  unfold F_laws_markByteS at hF
  refine c_region ?_
  refine s_assign hE goes_none (by decide) rfl ?_; intro a hE
  refine c_fin ?_
  refine wp_seq ?_
  refine c_region ?_
  refine s_assign hE goes_none (by decide) rfl ?_; intro a hE
  refine c_fin ?_
  obtain ⟨j1, hl2, hF3⟩ := bind_some hF
  refine c_cut (fun a w => Env 20 a [(0, v0_1), (1, (vI j1.2))] ∧ M St W w (own NoB (j1.1 : (List UInt8)) [v0_1] :: its)) ?_ ?_
  · skip
    refine wp_block ?_
    refine c_loop (fun (s4 : (List UInt8) × Int × Int) a w => Env 20 a [(0, v0_1), (1, (vI s4.2.1)), (5, (vI s4.2.2))] ∧ M St W w (own NoB (s4.1 : (List UInt8)) [v0_1] :: its)) hl2 ⟨hE.sub ⟨rfl, rfl, rfl, trivial⟩, hM⟩ ?_
    rintro s4 a w ⟨hE, hM⟩ o7 hs5 hx6
    unfold L0_laws_markByteS at hs5
    refine wp_seq ?_
    refine c_region ?_
    refine s_move hE goes_none (by decide) rfl ?_; intro a hE
    refine s_move hE goes_none (by decide) rfl ?_; intro a hE
    refine s_len hE goes_none (by decide) rfl Try.underlying24 (hM.ro (pre := []) noB) ?_; intro a hE
    refine s_int hE goes_none (by decide) rfl rfl rfl ?_; intro a hE
    refine c_fin ?_
    refine c_cond hE rfl ?_ ?_
    · intro hb8
      have hs5 := ite_t hs5 hb8
      refine wp_skip ?_
      refine c_nx ?_
      refine wp_seq ?_
      refine wp_block ?_
      refine c_region ?_
      refine s_move hE goes_none (by decide) rfl ?_; intro a hE
      refine s_move hE goes_none (by decide) rfl ?_; intro a hE
      refine s_move hE goes_none (by decide) rfl ?_; intro a hE
      refine s_conv hE goes_none (by decide) rfl Try.underlying3 Try.underlying5 ?_; intro a hE
      rw [byteI_val] at hE
      obtain ⟨x9, e10, hs5⟩ := bind_some hs5
      have hi11 := idx_some e10
      refine s_indexS hE goes_none (by decide) rfl rfl Try.underlying24 ty5 (hM.ro (pre := []) noB) hi11.1 ?_; intro a hE
      have hM := hM.toOsl (List.getElem?_eq_some_iff.1 hi11.2).1
      refine s_storeS (i := (s4.2.2).toNat) (k0 := 0) (seg := [(vB (byteI s4.2.1))]) (xo := x9) (xn := byteI s4.2.1) hE hM goes_none rfl rfl rfl ty5 rfl (Flat.cell (byteI s4.2.1 : UInt8)) hi11.2 (fit_num (m := 1) rfl (by decide)) (splice_all (Eq.trans rfl (Eq.symm rfl))) ?_; intro w a hM hE
      have hM := hM.toOwn noB
      refine c_fin ?_
      refine wp_region_lit ?_
      refine s_move hE goes_none (by decide) rfl ?_; intro a hE
      refine s_int hE goes_none (by decide) rfl rfl rfl ?_; intro a hE
      refine s_assign hE goes_none (by decide) rfl ?_; intro a hE
      refine c_fin0 ?_
      refine c_nb ?_
      refine c_nx ?_
      refine wp_region_lit ?_
      refine s_move hE goes_none (by decide) rfl ?_; intro a hE
      refine s_int hE goes_none (by decide) rfl rfl rfl ?_; intro a hE
      refine s_assign hE goes_none (by decide) rfl ?_; intro a hE
      refine c_fin0 ?_
      refine c_mid ?_
      exact ⟨_, (Option.some.inj hs5).symm, hE.sub ⟨rfl, rfl, rfl, trivial⟩, hM⟩
    · intro hb8
      have hs5 := ite_f hs5 hb8
      refine wp_exit (e_then (e_then (e_eq ?_)))
      have ht12 := hx6 _ (Option.some.inj hs5).symm
      subst ht12
      refine c_mid ?_
      exact ⟨hE.sub ⟨rfl, rfl, trivial⟩, hM⟩
  · skip
    rintro a w ⟨hE, hM⟩
    refine c_nx ?_
    refine c_region ?_
    refine s_move hE goes_none (by decide) rfl ?_; intro a hE
    refine s_assign hE goes_none (by decide) rfl ?_; intro a hE
    refine c_fin ?_
    have hr := Option.some.inj hF3
    subst hr
    exact wp_ret (k_ret1 hE (by rfl) (res_tmp hE rfl) ⟨_, rfl, rfl, hM⟩)
noncomputable def L0_laws_markShareS (s4 : (List GShare) × Int × Int) : Option (Fl ((List GShare) × Int × Int) ((List GShare) × Int)) :=
  if (decide (s4.2.2 < (s4.1.length : Int))) = true then ((idx s4.1 s4.2.2).bind fun (x9 : GShare) => (idx (s4.1.set (s4.2.2).toNat (⟨byteI s4.2.1, x9.Data⟩ : GShare)) s4.2.2).bind fun (x12 : GShare) => (F_laws_markByteS x12.Data (wr (s4.2.1 + 1))).bind fun (r19 : (List UInt8) × Int) => some (Fl.nx (((s4.1.set (s4.2.2).toNat (⟨byteI s4.2.1, x9.Data⟩ : GShare)).set (s4.2.2).toNat (⟨x12.Place, r19.1⟩ : GShare)), r19.2, wr (s4.2.2 + 1)))) else (some (Fl.ex (s4.1, s4.2.1)))
noncomputable def F_laws_markShareS (p0 : (List GShare)) (p1 : Int) : Option ((List GShare) × Int) :=
  (iter (L0_laws_markShareS) (p0, p1, 0) : Option ((List GShare) × Int)).bind fun (j1 : (List GShare) × Int) => some (j1.1, j1.2)
set_option maxRecDepth 20000 in
set_option maxHeartbeats 400000 in
theorem c_laws_markShareS (St : Nat → Prop) (W w0 : World) (its : List Item) (p0 : (List GShare)) (v0_1 : Value) (p1 : Int) (hM : M St W w0 (own NoB (p0 : (List GShare)) [v0_1] :: its)) (r : (List GShare) × Int) (hF : F_laws_markShareS p0 p1 = some r) :
    Calls Try.prog 21 [v0_1, (vI p1)].toArray w0 (fun en w' => ∃ v, en = .returned v ∧ (v = (vI r.2) ∧ M St W w' (own NoB (r.1 : (List GShare)) [v0_1] :: its))) := by
  refine c_enter (n := 28) Try.func21 rfl rfl (Nat.le_of_ble_eq_true rfl) rfl ?_
  intro a hE
  unfold F_laws_markShareS at hF
  refine c_region ?_
  refine s_assign hE goes_none (by decide) rfl ?_; intro a hE
  refine c_fin ?_
  refine wp_seq ?_
  refine c_region ?_
  refine s_assign hE goes_none (by decide) rfl ?_; intro a hE
  refine c_fin ?_
  obtain ⟨j1, hl2, hF3⟩ := bind_some hF
  refine c_cut (fun a w => Env 28 a [(0, v0_1), (1, (vI j1.2))] ∧ M St W w (own NoB (j1.1 : (List GShare)) [v0_1] :: its)) ?_ ?_
  · skip
    refine wp_block ?_
    refine c_loop (fun (s4 : (List GShare) × Int × Int) a w => Env 28 a [(0, v0_1), (1, (vI s4.2.1)), (5, (vI s4.2.2))] ∧ M St W w (own NoB (s4.1 : (List GShare)) [v0_1] :: its)) hl2 ⟨hE.sub ⟨rfl, rfl, rfl, trivial⟩, hM⟩ ?_
    rintro s4 a w ⟨hE, hM⟩ o7 hs5 hx6
    unfold L0_laws_markShareS at hs5
    refine wp_seq ?_
    refine c_region ?_
    refine s_move hE goes_none (by decide) rfl ?_; intro a hE
    refine s_move hE goes_none (by decide) rfl ?_; intro a hE
    refine s_len hE goes_none (by decide) rfl Try.underlying29 (hM.ro (pre := []) noB) ?_; intro a hE
    refine s_int hE goes_none (by decide) rfl rfl rfl ?_; intro a hE
    refine c_fin ?_
    refine c_cond hE rfl ?_ ?_
    · intro hb8
      have hs5 := ite_t hs5 hb8
      refine wp_skip ?_
      refine c_nx ?_
      refine wp_seq ?_
      refine wp_block ?_
      refine c_region ?_
      refine s_move hE goes_none (by decide) rfl ?_; intro a hE
      refine s_move hE goes_none (by decide) rfl ?_; intro a hE
      refine s_move hE goes_none (by decide) rfl ?_; intro a hE
      refine s_conv hE goes_none (by decide) rfl Try.underlying3 Try.underlying5 ?_; intro a hE
      rw [byteI_val] at hE
      obtain ⟨x9, e10, hs5⟩ := bind_some hs5
      have hi11 := idx_some e10
      refine s_indexS hE goes_none (by decide) rfl rfl Try.underlying29 ty26 (hM.ro (pre := []) noB) hi11.1 ?_; intro a hE
      refine s_fieldAddr hE goes_none (by decide) rfl (fd26_0) ?_; intro a hE
      have hM := hM.toOsl (List.getElem?_eq_some_iff.1 hi11.2).1
      refine s_storeRF (i := (s4.2.2).toNat) (k0 := 0 + 0) (seg := [(vB (byteI s4.2.1))]) (xo := x9) (xn := (⟨byteI s4.2.1, x9.Data⟩ : GShare)) hE hM noB goes_none rfl rfl rfl ty5 rfl (Flat.cell (byteI s4.2.1 : UInt8)) hi11.2 (fit_num (m := 1) rfl (by decide)) (fun S w cs f h => by obtain ⟨y1, _, rfl, rfl, s1⟩ := unf_GShare h; exact sat_cast (splice_cat (pre := []) (seg := [(vB x9.Place)]) (post := [[y1]]) cl0 (Eq.trans rfl (Eq.symm rfl))) (pk_GShare s1 (by simp))) ?_; intro w a hM hE
      have hM := hM.toOwn noB
      refine c_fin ?_
      refine c_region ?_
      refine s_move hE goes_none (by decide) rfl ?_; intro a hE
      refine s_int hE goes_none (by decide) rfl rfl rfl ?_; intro a hE
      refine s_assign hE goes_none (by decide) rfl ?_; intro a hE
      refine c_fin ?_
      refine wp_region_lit ?_
      refine s_move hE goes_none (by decide) rfl ?_; intro a hE
      refine s_move hE goes_none (by decide) rfl ?_; intro a hE
      obtain ⟨x12, e13, hs5⟩ := bind_some hs5
      have hi14 := idx_some e13
      refine s_indexS hE goes_none (by decide) rfl rfl Try.underlying29 ty26 (hM.ro (pre := []) noB) hi14.1 ?_; intro a hE
      refine s_fieldAddr hE goes_none (by decide) rfl (fd26_1) ?_; intro a hE
      have hM := (hM.toOsl (List.getElem?_eq_some_iff.1 hi14.2).1).open1 noB hi14.2
      obtain ⟨cs15, hM, hA16⟩ := hM
      obtain ⟨_, hx, _⟩ := hM.head
      obtain ⟨u17, _, rfl, _, _⟩ := unf_GShare hx
      have hM := hM.unpackL (m := [own NoB (x12.Data : (List UInt8)) [u17]]) (fun fp h => by obtain ⟨_, rfl, s1⟩ := unc_GShare h; exact SepR.one (own_loc noB) s1)
      simp only [List.cons_append, List.nil_append] at hM
      refine s_load (v := u17) hE goes_none (by decide) rfl ty24 rfl (At.cat (pre := [[(vB x12.Place)]]) (seg := [u17]) (post := []) hA16 (cl1 (n := 1) (m := 0) rfl cl0)) ?_; intro a hE
      refine s_move hE goes_none (by decide) rfl ?_; intro a hE
      obtain ⟨r19, e20, hs5⟩ := bind_some hs5
      refine s_call (vs := [u17, (vI (wr (s4.2.1 + 1)))]) hE goes_none (by decide) rfl cb73 (c_laws_markByteS _ _ _ _ x12.Data u17 (wr (s4.2.1 + 1)) hM r19 e20) ?_
      rintro v w a ⟨rfl, hM⟩ hE
      have hM := hM.pull (pre := [_])
      have hM := hM.pull (pre := [_])
      have hM := hM.packL (m := [own NoB (r19.1 : (List UInt8)) [u17]]) (it := own NoB (⟨x12.Place, r19.1⟩ : GShare) (cat [[(vB x12.Place)], [u17]])) (own_loc noB) (fun fp h => by obtain ⟨_, _, rfl, _, s1, rfl⟩ := h; exact pk_GShare s1 (by simp))
      have hM := (hM.close1 noB).toOwn noB
      refine s_assign hE goes_none (by decide) rfl ?_; intro a hE
      refine c_fin0 ?_
      refine c_nb ?_
      refine c_nx ?_
      refine wp_region_lit ?_
      refine s_move hE goes_none (by decide) rfl ?_; intro a hE
      refine s_int hE goes_none (by decide) rfl rfl rfl ?_; intro a hE
      refine s_assign hE goes_none (by decide) rfl ?_; intro a hE
      refine c_fin0 ?_
      refine c_mid ?_
      exact ⟨_, (Option.some.inj hs5).symm, hE.sub ⟨rfl, rfl, rfl, trivial⟩, hM⟩
    · intro hb8
      have hs5 := ite_f hs5 hb8
      refine wp_exit (e_then (e_then (e_eq ?_)))
      have ht21 := hx6 _ (Option.some.inj hs5).symm
      subst ht21
      refine c_mid ?_
      exact ⟨hE.sub ⟨rfl, rfl, trivial⟩, hM⟩
  · skip
    rintro a w ⟨hE, hM⟩
    refine c_nx ?_
    refine c_region ?_
    refine s_move hE goes_none (by decide) rfl ?_; intro a hE
    refine s_assign hE goes_none (by decide) rfl ?_; intro a hE
    refine c_fin ?_
    have hr := Option.some.inj hF3
    subst hr
    exact wp_ret (k_ret1 hE (by rfl) (res_tmp hE rfl) ⟨_, rfl, rfl, hM⟩)
noncomputable def L0_laws_markInt64S (s4 : (List Int) × Int × Int) : Option (Fl ((List Int) × Int × Int) ((List Int) × Int)) :=
  if (decide (s4.2.2 < (s4.1.length : Int))) = true then ((idx s4.1 s4.2.2).bind fun (x9 : Int) => some (Fl.nx ((s4.1.set (s4.2.2).toNat s4.2.1), wr (s4.2.1 + 1), wr (s4.2.2 + 1)))) else (some (Fl.ex (s4.1, s4.2.1)))
noncomputable def F_laws_markInt64S (p0 : (List Int)) (p1 : Int) : Option ((List Int) × Int) :=
  (iter (L0_laws_markInt64S) (p0, p1, 0) : Option ((List Int) × Int)).bind fun (j1 : (List Int) × Int) => some (j1.1, j1.2)
set_option maxRecDepth 20000 in
set_option maxHeartbeats 400000 in
theorem c_laws_markInt64S (St : Nat → Prop) (W w0 : World) (its : List Item) (p0 : (List Int)) (v0_1 : Value) (p1 : Int) (hM : M St W w0 (own NoB (p0 : (List Int)) [v0_1] :: its)) (r : (List Int) × Int) (hF : F_laws_markInt64S p0 p1 = some r) :
    Calls Try.prog 39 [v0_1, (vI p1)].toArray w0 (fun en w' => ∃ v, en = .returned v ∧ (v = (vI r.2) ∧ M St W w' (own NoB (r.1 : (List Int)) [v0_1] :: its))) := by
  refine c_enter (n := 19) Try.func39 rfl rfl (Nat.le_of_ble_eq_true rfl) rfl ?_
  intro a hE
  unfold F_laws_markInt64S at hF
  refine c_region ?_
  refine s_assign hE goes_none (by decide) rfl ?_; intro a hE
  refine c_fin ?_
  refine wp_seq ?_
  refine c_region ?_
  refine s_assign hE goes_none (by decide) rfl ?_; intro a hE
  refine c_fin ?_
  obtain ⟨j1, hl2, hF3⟩ := bind_some hF
  refine c_cut (fun a w => Env 19 a [(0, v0_1), (1, (vI j1.2))] ∧ M St W w (own NoB (j1.1 : (List Int)) [v0_1] :: its)) ?_ ?_
  · skip
    refine wp_block ?_
    refine c_loop (fun (s4 : (List Int) × Int × Int) a w => Env 19 a [(0, v0_1), (1, (vI s4.2.1)), (5, (vI s4.2.2))] ∧ M St W w (own NoB (s4.1 : (List Int)) [v0_1] :: its)) hl2 ⟨hE.sub ⟨rfl, rfl, rfl, trivial⟩, hM⟩ ?_
    rintro s4 a w ⟨hE, hM⟩ o7 hs5 hx6
    unfold L0_laws_markInt64S at hs5
    refine wp_seq ?_
    refine c_region ?_
    refine s_move hE goes_none (by decide) rfl ?_; intro a hE
    refine s_move hE goes_none (by decide) rfl ?_; intro a hE
    refine s_len hE goes_none (by decide) rfl Try.underlying51 (hM.ro (pre := []) noB) ?_; intro a hE
    refine s_int hE goes_none (by decide) rfl rfl rfl ?_; intro a hE
    refine c_fin ?_
    refine c_cond hE rfl ?_ ?_
    · intro hb8
      have hs5 := ite_t hs5 hb8
      refine wp_skip ?_
      refine c_nx ?_
      refine wp_seq ?_
      refine wp_block ?_
      refine c_region ?_
      refine s_move hE goes_none (by decide) rfl ?_; intro a hE
      refine s_move hE goes_none (by decide) rfl ?_; intro a hE
      refine s_move hE goes_none (by decide) rfl ?_; intro a hE
      obtain ⟨x9, e10, hs5⟩ := bind_some hs5
      have hi11 := idx_some e10
      refine s_indexS hE goes_none (by decide) rfl rfl Try.underlying51 ty2 (hM.ro (pre := []) noB) hi11.1 ?_; intro a hE
      have hM := hM.toOsl (List.getElem?_eq_some_iff.1 hi11.2).1
      refine s_storeS (i := (s4.2.2).toNat) (k0 := 0) (seg := [(vI s4.2.1)]) (xo := x9) (xn := s4.2.1) hE hM goes_none rfl rfl rfl ty2 rfl (Flat.cell (s4.2.1 : Int)) hi11.2 (fit_num (m := 1) rfl (by decide)) (splice_all (Eq.trans rfl (Eq.symm rfl))) ?_; intro w a hM hE
      have hM := hM.toOwn noB
      refine c_fin ?_
      refine wp_region_lit ?_
      refine s_move hE goes_none (by decide) rfl ?_; intro a hE
      refine s_int hE goes_none (by decide) rfl rfl rfl ?_; intro a hE
      refine s_assign hE goes_none (by decide) rfl ?_; intro a hE
      refine c_fin0 ?_
      refine c_nb ?_
      refine c_nx ?_
      refine wp_region_lit ?_
      refine s_move hE goes_none (by decide) rfl ?_; intro a hE
      refine s_int hE goes_none (by decide) rfl rfl rfl ?_; intro a hE
      refine s_assign hE goes_none (by decide) rfl ?_; intro a hE
      refine c_fin0 ?_
      refine c_mid ?_
      exact ⟨_, (Option.some.inj hs5).symm, hE.sub ⟨rfl, rfl, rfl, trivial⟩, hM⟩
    · intro hb8
      have hs5 := ite_f hs5 hb8
      refine wp_exit (e_then (e_then (e_eq ?_)))
      have ht12 := hx6 _ (Option.some.inj hs5).symm
      subst ht12
      refine c_mid ?_
      exact ⟨hE.sub ⟨rfl, rfl, trivial⟩, hM⟩
  · skip
    rintro a w ⟨hE, hM⟩
    refine c_nx ?_
    refine c_region ?_
    refine s_move hE goes_none (by decide) rfl ?_; intro a hE
    refine s_assign hE goes_none (by decide) rfl ?_; intro a hE
    refine c_fin ?_
    have hr := Option.some.inj hF3
    subst hr
    exact wp_ret (k_ret1 hE (by rfl) (res_tmp hE rfl) ⟨_, rfl, rfl, hM⟩)
noncomputable def L0_laws_heldInt64S (p0 : (List Int)) (s5 : Int × Int) : Option (Fl (Int × Int) (Fl Int Int)) :=
  if (decide (s5.2 < (p0.length : Int))) = true then ((idx p0 s5.2).bind fun (x10 : Int) => if (x10 != s5.1) = true then (some (Fl.ex (Fl.ex (-1)))) else (some (Fl.nx (wr (s5.1 + 1), wr (s5.2 + 1))))) else (some (Fl.ex (Fl.nx s5.1)))
noncomputable def F_laws_heldInt64S (p0 : (List Int)) (p1 : Int) : Option (Int) :=
  (iter (L0_laws_heldInt64S p0) (p1, 0) : Option (Fl Int Int)).bind fun (j1 : Fl Int Int) => j1.el (fun (s4 : Int) => some s4) (fun r => some r)
set_option maxRecDepth 20000 in
set_option maxHeartbeats 400000 in
theorem c_laws_heldInt64S (w0 : World) (p0 : (List Int)) (v0_1 : Value) (hv0_1 : Ro w0 p0 [v0_1]) (p1 : Int) (r : Int) (hF : F_laws_heldInt64S p0 p1 = some r) :
    Calls Try.prog 40 [v0_1, (vI p1)].toArray w0 (fun en w' => ∃ v, en = .returned v ∧ (v = (vI r) ∧ Kept (Old w0) w0 w')) := by
  refine c_enter (n := 21) Try.func40 rfl rfl (Nat.le_of_ble_eq_true rfl) rfl ?_
  intro a hE
  have hM := M.start w0
  unfold F_laws_heldInt64S at hF
  refine c_region ?_
  refine s_assign hE goes_none (by decide) rfl ?_; intro a hE
  refine c_fin ?_
  refine wp_seq ?_
  refine c_region ?_
  refine s_assign hE goes_none (by decide) rfl ?_; intro a hE
  refine c_fin ?_
  obtain ⟨j1, hl2, hF3⟩ := bind_some hF
  refine c_cut (fun a w => ∃ s4 : Int, j1 = Fl.nx s4 ∧ Env 21 a [(1, (vI s4))] ∧ M (Old w0) w0 w []) ?_ ?_
  · skip
    refine wp_block ?_
    refine c_loop (fun (s5 : Int × Int) a w => Env 21 a [(0, v0_1), (1, (vI s5.1)), (5, (vI s5.2))] ∧ M (Old w0) w0 w []) hl2 ⟨hE.sub ⟨rfl, rfl, rfl, trivial⟩, hM⟩ ?_
    rintro s5 a w ⟨hE, hM⟩ o8 hs6 hx7
    unfold L0_laws_heldInt64S at hs6
    refine wp_seq ?_
    refine c_region ?_
    refine s_move hE goes_none (by decide) rfl ?_; intro a hE
    refine s_move hE goes_none (by decide) rfl ?_; intro a hE
    refine s_len hE goes_none (by decide) rfl Try.underlying51 (hM.rd hv0_1) ?_; intro a hE
    refine s_int hE goes_none (by decide) rfl rfl rfl ?_; intro a hE
    refine c_fin ?_
    refine c_cond hE rfl ?_ ?_
    · intro hb9
      have hs6 := ite_t hs6 hb9
      refine wp_skip ?_
      refine c_nx ?_
      refine wp_seq ?_
      refine wp_block ?_
      refine wp_seq ?_
      refine c_region ?_
      refine s_move hE goes_none (by decide) rfl ?_; intro a hE
      refine s_move hE goes_none (by decide) rfl ?_; intro a hE
      obtain ⟨x10, e11, hs6⟩ := bind_some hs6
      have hi12 := idx_some e11
      refine s_indexS hE goes_none (by decide) rfl rfl Try.underlying51 ty2 (hM.rd hv0_1) hi12.1 ?_; intro a hE
      refine s_load (v := (vI x10)) hE goes_none (by decide) rfl ty2 rfl (sl_atF (hM.rd hv0_1) hi12.2) ?_; intro a hE
      refine s_move hE goes_none (by decide) rfl ?_; intro a hE
      refine s_int hE goes_none (by decide) rfl rfl rfl ?_; intro a hE
      refine c_fin ?_
      refine c_cond hE rfl ?_ ?_
      · intro hb13
        have hs6 := ite_t hs6 hb13
        refine c_region ?_
        refine s_assign hE goes_none (by decide) rfl ?_; intro a hE
        refine c_fin ?_
        have ht14 := hx7 _ (Option.some.inj hs6).symm
        subst ht14
        have hr := Option.some.inj hF3
        subst hr
        exact wp_ret (r_then (r_inb (r_then (r_then (r_inb (r_then (r_then (k_ret1 hE rfl (res_tmp hE rfl) ⟨_, rfl, rfl, hM.kept⟩))))))))
      · intro hb13
        have hs6 := ite_f hs6 hb13
        refine wp_skip ?_
        refine c_nx ?_
        refine wp_region_lit ?_
        refine s_move hE goes_none (by decide) rfl ?_; intro a hE
        refine s_int hE goes_none (by decide) rfl rfl rfl ?_; intro a hE
        refine s_assign hE goes_none (by decide) rfl ?_; intro a hE
        refine c_fin0 ?_
        refine c_nb ?_
        refine c_nx ?_
        refine wp_region_lit ?_
        refine s_move hE goes_none (by decide) rfl ?_; intro a hE
        refine s_int hE goes_none (by decide) rfl rfl rfl ?_; intro a hE
        refine s_assign hE goes_none (by decide) rfl ?_; intro a hE
        refine c_fin0 ?_
        refine c_mid ?_
        exact ⟨_, (Option.some.inj hs6).symm, hE.sub ⟨rfl, rfl, rfl, trivial⟩, hM⟩
    · intro hb9
      have hs6 := ite_f hs6 hb9
      refine wp_exit (e_then (e_then (e_eq ?_)))
      have ht15 := hx7 _ (Option.some.inj hs6).symm
      subst ht15
      refine c_mid ?_
      exact ⟨s5.1, rfl, hE.sub ⟨rfl, trivial⟩, hM⟩
  · skip
    rintro a w ⟨s4, ht, hE, hM⟩
    subst ht
    have hF3 := el_nx hF3
    refine c_nx ?_
    refine c_region ?_
    refine s_move hE goes_none (by decide) rfl ?_; intro a hE
    refine s_assign hE goes_none (by decide) rfl ?_; intro a hE
    refine c_fin ?_
    have hr := Option.some.inj hF3
    subst hr
    exact wp_ret (k_ret1 hE rfl (res_tmp hE rfl) ⟨_, rfl, rfl, hM.kept⟩)
noncomputable def F_laws_FnExactFaultyShares (p0 : Int) (p1 : (List GShare)) (p2 : Int) : Option (Bool) :=
  (F_laws_szShareS p1 1048576).bind fun (r1 : Int) => if (decide (r1 < 0)) = true then (some true) else ((F_laws_toShareS p1).bind fun (r4 : (List GShare)) => (F_spec_FaultyShares p0 r4 p2).bind fun (r7 : (List Int) × Int) => (F_laws_toShareS p1).bind fun (r10 : (List GShare)) => (F_impl_FaultyShares p0 r10 p2).bind fun (r13 : (List Int) × Int) => ((F_laws_eqInt64S r13.1 r7.1).bind fun (r19 : Bool) => if (!r19) = true then (some true) else (some (r13.2 != r7.2)) : Option (Bool)).bind fun (j16 : Bool) => if j16 = true then (some false) else ((F_laws_toShareS p1).bind fun (r25 : (List GShare)) => (F_laws_eqShareS r10 r25).bind fun (r28 : Bool) => if (!r28) = true then (some false) else ((F_laws_markShareS r10 1).bind fun (r31 : (List GShare) × Int) => (if (decide (r31.2 < 0)) = true then (some true) else ((F_laws_eqInt64S r13.1 r7.1).bind fun (r38 : Bool) => if (!r38) = true then (some true) else (some (r13.2 != r7.2))) : Option (Bool)).bind fun (j33 : Bool) => if j33 = true then (some false) else ((F_laws_markInt64S r13.1 1).bind fun (r44 : (List Int) × Int) => (F_laws_heldInt64S r44.1 1).bind fun (r46 : Int) => if (decide (r46 < 0)) = true then (some false) else (if (r46 != r44.2) = true then (some false) else ((F_laws_toShareS p1).bind fun (r50 : (List GShare)) => (F_impl_FaultyShares p0 r50 p2).bind fun (r53 : (List Int) × Int) => ((F_laws_eqInt64S r53.1 r7.1).bind fun (r59 : Bool) => if (!r59) = true then (some true) else (some (r53.2 != r7.2)) : Option (Bool)).bind fun (j56 : Bool) => if j56 = true then (some false) else ((F_laws_heldInt64S r44.1 1).bind fun (r65 : Int) => if (decide (r65 < 0)) = true then (some false) else (if (r65 != r44.2) = true then (some false) else (some true)))))))))
end Go.Proofs.Ythlmkdjednppkaa
