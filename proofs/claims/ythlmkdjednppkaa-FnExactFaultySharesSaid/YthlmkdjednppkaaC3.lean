/- The walk of what the law reaches: contracts of functions. -/
import Derived.Test.YthlmkdjednppkaaC2
set_option linter.unusedVariables false
set_option linter.unusedSimpArgs false
namespace Go.Proofs.Ythlmkdjednppkaa
open Go
set_option maxRecDepth 20000 in
set_option maxHeartbeats 400000 in
theorem c_laws_FnExactFaultyShares (w0 : World) (p0 : Int) (p1 : (List GShare)) (v1_1 : Value) (hv1_1 : Ro w0 p1 [v1_1]) (p2 : Int) (r : Bool) (hF : F_laws_FnExactFaultyShares p0 p1 p2 = some r) :
    Calls Try.prog 13 [(vI p0), v1_1, (vI p2)].toArray w0 (fun en w' => ∃ v, en = .returned v ∧ (v = (vT r) ∧ Kept (Old w0) w0 w')) := by
  refine c_enter (n := 106) Try.func13 rfl rfl (Nat.le_of_ble_eq_true rfl) rfl ?_
  intro a hE
  have hM := M.start w0
  unfold F_laws_FnExactFaultyShares at hF
  refine c_region ?_
  refine s_assign hE goes_none (by decide) rfl ?_; intro a hE
  refine c_fin ?_
  refine c_region ?_
  refine s_assign hE goes_none (by decide) rfl ?_; intro a hE
  refine c_fin ?_
  refine c_region ?_
  refine s_move hE goes_none (by decide) rfl ?_; intro a hE
  refine s_move hE goes_none (by decide) rfl ?_; intro a hE
  obtain ⟨r1, e2, hF⟩ := bind_some hF
  refine s_call (vs := [v1_1, (vI 1048576)]) hE goes_none (by decide) rfl cb15 (c_laws_szShareS _ p1 v1_1 (hM.rdo hv1_1) 1048576 r1 e2) ?_
  rintro v w a ⟨rfl, hK⟩ hE
  have hM := hM.keep hK
  refine s_assign hE goes_none (by decide) rfl ?_; intro a hE
  refine c_fin ?_
  refine wp_seq ?_
  refine c_region ?_
  refine s_move hE goes_none (by decide) rfl ?_; intro a hE
  refine s_int hE goes_none (by decide) rfl rfl rfl ?_; intro a hE
  refine c_fin ?_
  refine c_cond hE rfl ?_ ?_
  · intro hb3
    have hF := ite_t hF hb3
    refine c_region ?_
    refine s_assign hE goes_none (by decide) rfl ?_; intro a hE
    refine c_fin ?_
    have hr := Option.some.inj hF
    subst hr
    exact wp_ret (r_then (k_ret1 hE rfl (res_tmp hE rfl) ⟨_, rfl, rfl, hM.kept⟩))
  · intro hb3
    have hF := ite_f hF hb3
    refine wp_skip ?_
    refine c_nx ?_
    refine c_region ?_
    refine s_move hE goes_none (by decide) rfl ?_; intro a hE
    refine s_move hE goes_none (by decide) rfl ?_; intro a hE
    obtain ⟨r4, e5, hF⟩ := bind_some hF
    refine s_call (vs := [v1_1]) hE goes_none (by decide) rfl cb17 (c_laws_toShareS _ p1 v1_1 (hM.rdo hv1_1) r4 e5) ?_
    rintro u6 w a ⟨_, rfl, hFr, hK⟩ hE
    have hM := hM.add hK hFr
    refine s_move hE goes_none (by decide) rfl ?_; intro a hE
    obtain ⟨r7, e8, hF⟩ := bind_some hF
    refine s_call (vs := [(vI p0), u6, (vI p2)]) hE goes_none (by decide) rfl cb61 (c_spec_FaultyShares _ p0 r4 u6 (hM.sl (pre := []) noB) p2 r7 e8) ?_
    rintro v w a ⟨u9, rfl, hFr, hK⟩ hE
    have hM := hM.add hK hFr
    refine s_move hE goes_none (by decide) rfl ?_; intro a hE
    refine s_extract hE goes_none (by decide) rfl rfl ?_; intro a hE
    refine s_extract hE goes_none (by decide) rfl rfl ?_; intro a hE
    refine s_assign hE goes_none (by decide) rfl ?_; intro a hE
    refine s_assign hE goes_none (by decide) rfl ?_; intro a hE
    refine c_fin ?_
    refine c_region ?_
    refine s_move hE goes_none (by decide) rfl ?_; intro a hE
    obtain ⟨r10, e11, hF⟩ := bind_some hF
    refine s_call (vs := [v1_1]) hE goes_none (by decide) rfl cb17 (c_laws_toShareS _ p1 v1_1 (hM.rdo hv1_1) r10 e11) ?_
    rintro u12 w a ⟨_, rfl, hFr, hK⟩ hE
    have hM := hM.add hK hFr
    refine s_assign hE goes_none (by decide) rfl ?_; intro a hE
    refine c_fin ?_
    refine c_region ?_
    refine s_move hE goes_none (by decide) rfl ?_; intro a hE
    refine s_move hE goes_none (by decide) rfl ?_; intro a hE
    refine s_move hE goes_none (by decide) rfl ?_; intro a hE
    obtain ⟨r13, e14, hF⟩ := bind_some hF
    refine s_call (vs := [(vI p0), u12, (vI p2)]) hE goes_none (by decide) rfl cb62 (c_impl_FaultyShares _ p0 r10 u12 (hM.sl (pre := []) noB) p2 r13 e14) ?_
    rintro v w a ⟨u15, rfl, hFr, hK⟩ hE
    have hM := hM.add hK hFr
    refine s_move hE goes_none (by decide) rfl ?_; intro a hE
    refine s_extract hE goes_none (by decide) rfl rfl ?_; intro a hE
    refine s_extract hE goes_none (by decide) rfl rfl ?_; intro a hE
    refine s_assign hE goes_none (by decide) rfl ?_; intro a hE
    refine s_assign hE goes_none (by decide) rfl ?_; intro a hE
    refine c_fin ?_
    refine wp_seq ?_
    obtain ⟨j16, hl17, hF18⟩ := bind_some hF
    refine c_join (fun a w => Env 106 a [(0, (vI p0)), (1, v1_1), (2, (vI p2)), (8, u9), (9, (vI r7.2)), (10, u12), (11, u15), (12, (vI r13.2)), (48, (vT j16))] ∧ M (Old w0) w0 w [osl NoB (r13.1 : List Int) u15, osl NoB (r10 : List GShare) u12, osl NoB (r7.1 : List Int) u9]) ?_ ?_
    · skip
      refine wp_region_lit ?_
      refine s_move hE goes_none (by decide) rfl ?_; intro a hE
      refine s_move hE goes_none (by decide) rfl ?_; intro a hE
      obtain ⟨r19, e20, hl17⟩ := bind_some hl17
      refine s_call (vs := [u15, u9]) hE goes_none (by decide) rfl cb36 (c_laws_eqInt64S _ r13.1 u15 (hM.sl (pre := []) noB) r7.1 u9 (hM.sl (pre := [_, _]) noB) r19 e20) ?_
      rintro v w a ⟨rfl, hK⟩ hE
      have hM := hM.keep hK
      refine s_not hE goes_none (by decide) rfl ?_; intro a hE
      refine s_move hE goes_none (by decide) rfl ?_; intro a hE
      refine splitB (!r19) (fun hb21 => ?_) (fun hb21 => ?_)
      · have hl17 := ite_t hl17 hb21
        refine s_skip hE rfl (lkb rfl hb21) rfl (by decide) ?_; intro a hE
        refine s_skip hE rfl (lkb rfl hb21) rfl (by decide) ?_; intro a hE
        refine s_skip hE rfl (lkb rfl hb21) rfl (by decide) ?_; intro a hE
        refine s_pickT hE goes_none (by decide) (lkb rfl hb21) rfl ?_; intro a hE
        refine c_fin0 ?_
        have ht22 := Option.some.inj hl17
        subst ht22
        refine c_mid ?_
        have hM := hM.pull (pre := [_, _])
        have hM := hM.pull (pre := [_, _])
        have hM := hM.pull (pre := [_, _])
        have hM := M.fst (l := [_, _, _]) hM
        exact ⟨hE.sub ⟨rfl, rfl, rfl, rfl, rfl, rfl, rfl, rfl, rfl, trivial⟩, hM⟩
      · have hl17 := ite_f hl17 hb21
        refine s_move hE (goes_yes hE rfl (lkb rfl hb21)) (by decide) rfl ?_; intro a hE
        refine s_move hE (goes_yes hE rfl (lkb rfl hb21)) (by decide) rfl ?_; intro a hE
        refine s_int hE (goes_yes hE rfl (lkb rfl hb21)) (by decide) rfl rfl rfl ?_; intro a hE
        refine s_pickF hE goes_none (by decide) (lkb rfl hb21) rfl ?_; intro a hE
        refine c_fin0 ?_
        have ht23 := Option.some.inj hl17
        subst ht23
        refine c_mid ?_
        have hM := hM.pull (pre := [_, _])
        have hM := hM.pull (pre := [_, _])
        have hM := hM.pull (pre := [_, _])
        have hM := M.fst (l := [_, _, _]) hM
        exact ⟨hE.sub ⟨rfl, rfl, rfl, rfl, rfl, rfl, rfl, rfl, rfl, trivial⟩, hM⟩
    · skip
      rintro a w ⟨hE, hM⟩
      refine c_cond hE rfl ?_ ?_
      · intro hb24
        have hF18 := ite_t hF18 hb24
        refine c_region ?_
        refine s_assign hE goes_none (by decide) rfl ?_; intro a hE
        refine c_fin ?_
        have hr := Option.some.inj hF18
        subst hr
        have hM := M.fst (l := []) hM
        exact wp_ret (r_then (k_ret1 hE rfl (res_tmp hE rfl) ⟨_, rfl, rfl, hM.kept⟩))
      · intro hb24
        have hF18 := ite_f hF18 hb24
        refine wp_skip ?_
        refine c_nx ?_
        refine wp_seq ?_
        refine c_region ?_
        refine s_move hE goes_none (by decide) rfl ?_; intro a hE
        refine s_move hE goes_none (by decide) rfl ?_; intro a hE
        obtain ⟨r25, e26, hF18⟩ := bind_some hF18
        refine s_call (vs := [v1_1]) hE goes_none (by decide) rfl cb17 (c_laws_toShareS _ p1 v1_1 (hM.rdo hv1_1) r25 e26) ?_
        rintro u27 w a ⟨_, rfl, hFr, hK⟩ hE
        have hM := hM.add hK hFr
        obtain ⟨r28, e29, hF18⟩ := bind_some hF18
        refine s_call (vs := [u12, u27]) hE goes_none (by decide) rfl cb20 (c_laws_eqShareS _ r10 u12 (hM.sl (pre := [_, _]) noB) r25 u27 (hM.sl (pre := []) noB) r28 e29) ?_
        rintro v w a ⟨rfl, hK⟩ hE
        have hM := hM.keep hK
        refine s_not hE goes_none (by decide) rfl ?_; intro a hE
        refine c_fin ?_
        refine c_cond hE rfl ?_ ?_
        · intro hb30
          have hF18 := ite_t hF18 hb30
          refine c_region ?_
          refine s_assign hE goes_none (by decide) rfl ?_; intro a hE
          refine c_fin ?_
          have hr := Option.some.inj hF18
          subst hr
          have hM := M.fst (l := []) hM
          exact wp_ret (r_then (k_ret1 hE rfl (res_tmp hE rfl) ⟨_, rfl, rfl, hM.kept⟩))
        · intro hb30
          have hF18 := ite_f hF18 hb30
          refine wp_skip ?_
          refine c_nx ?_
          refine c_region ?_
          refine s_assign hE goes_none (by decide) rfl ?_; intro a hE
          refine c_fin ?_
          refine c_region ?_
          refine s_move hE goes_none (by decide) rfl ?_; intro a hE
          refine s_move hE goes_none (by decide) rfl ?_; intro a hE
          have hM := hM.pull (pre := [_, _])
          have hM := hM.toOwn noB
          obtain ⟨r31, e32, hF18⟩ := bind_some hF18
          refine s_call (vs := [u12, (vI 1)]) hE goes_none (by decide) rfl cb21 (c_laws_markShareS _ _ _ _ r10 u12 1 hM r31 e32) ?_
          rintro v w a ⟨rfl, hM⟩ hE
          refine s_assign hE goes_none (by decide) rfl ?_; intro a hE
          refine c_fin ?_
          refine wp_seq ?_
          obtain ⟨j33, hl34, hF35⟩ := bind_some hF18
          refine c_join (fun a w => Env 106 a [(0, (vI p0)), (1, v1_1), (2, (vI p2)), (8, u9), (9, (vI r7.2)), (11, u15), (69, (vT j33))] ∧ M (Old w0) w0 w [osl NoB (r13.1 : List Int) u15, osl NoB (r7.1 : List Int) u9]) ?_ ?_
          · skip
            refine wp_region_lit ?_
            refine s_move hE goes_none (by decide) rfl ?_; intro a hE
            refine s_int hE goes_none (by decide) rfl rfl rfl ?_; intro a hE
            refine s_move hE goes_none (by decide) rfl ?_; intro a hE
            refine splitB (decide (r31.2 < 0)) (fun hb36 => ?_) (fun hb36 => ?_)
            · have hl34 := ite_t hl34 hb36
              refine s_skip hE rfl (lkb rfl hb36) rfl (by decide) ?_; intro a hE
              refine s_skip hE rfl (lkb rfl hb36) rfl (by decide) ?_; intro a hE
              refine s_skip hE rfl (lkb rfl hb36) rfl (by decide) ?_; intro a hE
              refine s_skip hE rfl (lkb rfl hb36) rfl (by decide) ?_; intro a hE
              refine s_pickT hE goes_none (by decide) (lkb rfl hb36) rfl ?_; intro a hE
              refine s_move hE goes_none (by decide) rfl ?_; intro a hE
              refine s_skip hE rfl rfl rfl (by decide) ?_; intro a hE
              refine s_skip hE rfl rfl rfl (by decide) ?_; intro a hE
              refine s_skip hE rfl rfl rfl (by decide) ?_; intro a hE
              refine s_pickT hE goes_none (by decide) rfl rfl ?_; intro a hE
              refine c_fin0 ?_
              have ht37 := Option.some.inj hl34
              subst ht37
              refine c_mid ?_
              have hM := hM.pull (pre := [_, _, _])
              have hM := hM.pull (pre := [_, _, _])
              have hM := M.fst (l := [_, _]) hM
              exact ⟨hE.sub ⟨rfl, rfl, rfl, rfl, rfl, rfl, rfl, trivial⟩, hM⟩
            · have hl34 := ite_f hl34 hb36
              refine s_move hE (goes_yes hE rfl (lkb rfl hb36)) (by decide) rfl ?_; intro a hE
              refine s_move hE (goes_yes hE rfl (lkb rfl hb36)) (by decide) rfl ?_; intro a hE
              obtain ⟨r38, e39, hl34⟩ := bind_some hl34
              refine s_call (vs := [u15, u9]) hE (goes_yes hE rfl (lkb rfl hb36)) (by decide) rfl cb36 (c_laws_eqInt64S _ r13.1 u15 (hM.sl (pre := [_, _]) noB) r7.1 u9 (hM.sl (pre := [_, _, _]) noB) r38 e39) ?_
              rintro v w a ⟨rfl, hK⟩ hE
              have hM := hM.keep hK
              refine s_not hE (goes_yes hE rfl (lkb rfl hb36)) (by decide) rfl ?_; intro a hE
              refine s_pickF hE goes_none (by decide) (lkb rfl hb36) rfl ?_; intro a hE
              refine s_move hE goes_none (by decide) rfl ?_; intro a hE
              refine splitB (!r38) (fun hb40 => ?_) (fun hb40 => ?_)
              · have hl34 := ite_t hl34 hb40
                refine s_skip hE rfl (lkb rfl hb40) rfl (by decide) ?_; intro a hE
                refine s_skip hE rfl (lkb rfl hb40) rfl (by decide) ?_; intro a hE
                refine s_skip hE rfl (lkb rfl hb40) rfl (by decide) ?_; intro a hE
                refine s_pickT hE goes_none (by decide) (lkb rfl hb40) rfl ?_; intro a hE
                refine c_fin0 ?_
                have ht41 := Option.some.inj hl34
                subst ht41
                refine c_mid ?_
                have hM := hM.pull (pre := [_, _, _])
                have hM := hM.pull (pre := [_, _, _])
                have hM := M.fst (l := [_, _]) hM
                exact ⟨hE.sub ⟨rfl, rfl, rfl, rfl, rfl, rfl, rfl, trivial⟩, hM⟩
              · have hl34 := ite_f hl34 hb40
                refine s_move hE (goes_yes hE rfl (lkb rfl hb40)) (by decide) rfl ?_; intro a hE
                refine s_move hE (goes_yes hE rfl (lkb rfl hb40)) (by decide) rfl ?_; intro a hE
                refine s_int hE (goes_yes hE rfl (lkb rfl hb40)) (by decide) rfl rfl rfl ?_; intro a hE
                refine s_pickF hE goes_none (by decide) (lkb rfl hb40) rfl ?_; intro a hE
                refine c_fin0 ?_
                have ht42 := Option.some.inj hl34
                subst ht42
                refine c_mid ?_
                have hM := hM.pull (pre := [_, _, _])
                have hM := hM.pull (pre := [_, _, _])
                have hM := M.fst (l := [_, _]) hM
                exact ⟨hE.sub ⟨rfl, rfl, rfl, rfl, rfl, rfl, rfl, trivial⟩, hM⟩
          · skip
            rintro a w ⟨hE, hM⟩
            refine c_cond hE rfl ?_ ?_
            · intro hb43
              have hF35 := ite_t hF35 hb43
              refine c_region ?_
              refine s_assign hE goes_none (by decide) rfl ?_; intro a hE
              refine c_fin ?_
              have hr := Option.some.inj hF35
              subst hr
              have hM := M.fst (l := []) hM
              exact wp_ret (r_then (k_ret1 hE rfl (res_tmp hE rfl) ⟨_, rfl, rfl, hM.kept⟩))
            · intro hb43
              have hF35 := ite_f hF35 hb43
              refine wp_skip ?_
              refine c_nx ?_
              refine c_region ?_
              refine s_assign hE goes_none (by decide) rfl ?_; intro a hE
              refine c_fin ?_
              refine c_region ?_
              refine s_move hE goes_none (by decide) rfl ?_; intro a hE
              refine s_move hE goes_none (by decide) rfl ?_; intro a hE
              have hM := hM.toOwn noB
              obtain ⟨r44, e45, hF35⟩ := bind_some hF35
              refine s_call (vs := [u15, (vI 1)]) hE goes_none (by decide) rfl cb39 (c_laws_markInt64S _ _ _ _ r13.1 u15 1 hM r44 e45) ?_
              rintro v w a ⟨rfl, hM⟩ hE
              refine s_assign hE goes_none (by decide) rfl ?_; intro a hE
              refine c_fin ?_
              refine c_region ?_
              refine s_assign hE goes_none (by decide) rfl ?_; intro a hE
              refine c_fin ?_
              refine c_region ?_
              refine s_move hE goes_none (by decide) rfl ?_; intro a hE
              refine s_move hE goes_none (by decide) rfl ?_; intro a hE
              obtain ⟨r46, e47, hF35⟩ := bind_some hF35
              refine s_call (vs := [u15, (vI 1)]) hE goes_none (by decide) rfl cb40 (c_laws_heldInt64S _ r44.1 u15 (hM.ro (pre := []) noB) 1 r46 e47) ?_
              rintro v w a ⟨rfl, hK⟩ hE
              have hM := hM.keep hK
              refine s_assign hE goes_none (by decide) rfl ?_; intro a hE
              refine c_fin ?_
              refine wp_seq ?_
              refine c_region ?_
              refine s_move hE goes_none (by decide) rfl ?_; intro a hE
              refine s_int hE goes_none (by decide) rfl rfl rfl ?_; intro a hE
              refine c_fin ?_
              refine c_cond hE rfl ?_ ?_
              · intro hb48
                have hF35 := ite_t hF35 hb48
                refine c_region ?_
                refine s_assign hE goes_none (by decide) rfl ?_; intro a hE
                refine c_fin ?_
                have hr := Option.some.inj hF35
                subst hr
                have hM := M.fst (l := []) hM
                exact wp_ret (r_then (k_ret1 hE rfl (res_tmp hE rfl) ⟨_, rfl, rfl, hM.kept⟩))
              · intro hb48
                have hF35 := ite_f hF35 hb48
                refine wp_skip ?_
                refine c_nx ?_
                refine wp_seq ?_
                refine c_region ?_
                refine s_move hE goes_none (by decide) rfl ?_; intro a hE
                refine s_move hE goes_none (by decide) rfl ?_; intro a hE
                refine s_int hE goes_none (by decide) rfl rfl rfl ?_; intro a hE
                refine c_fin ?_
                refine c_cond hE rfl ?_ ?_
                · intro hb49
                  have hF35 := ite_t hF35 hb49
                  refine c_region ?_
                  refine s_assign hE goes_none (by decide) rfl ?_; intro a hE
                  refine c_fin ?_
                  have hr := Option.some.inj hF35
                  subst hr
                  have hM := M.fst (l := []) hM
                  exact wp_ret (r_then (k_ret1 hE rfl (res_tmp hE rfl) ⟨_, rfl, rfl, hM.kept⟩))
                · intro hb49
                  have hF35 := ite_f hF35 hb49
                  refine wp_skip ?_
                  refine c_nx ?_
                  refine c_region ?_
                  refine s_move hE goes_none (by decide) rfl ?_; intro a hE
                  refine s_move hE goes_none (by decide) rfl ?_; intro a hE
                  obtain ⟨r50, e51, hF35⟩ := bind_some hF35
                  refine s_call (vs := [v1_1]) hE goes_none (by decide) rfl cb17 (c_laws_toShareS _ p1 v1_1 (hM.rdo hv1_1) r50 e51) ?_
                  rintro u52 w a ⟨_, rfl, hFr, hK⟩ hE
                  have hM := hM.add hK hFr
                  refine s_move hE goes_none (by decide) rfl ?_; intro a hE
                  obtain ⟨r53, e54, hF35⟩ := bind_some hF35
                  refine s_call (vs := [(vI p0), u52, (vI p2)]) hE goes_none (by decide) rfl cb62 (c_impl_FaultyShares _ p0 r50 u52 (hM.sl (pre := []) noB) p2 r53 e54) ?_
                  rintro v w a ⟨u55, rfl, hFr, hK⟩ hE
                  have hM := hM.add hK hFr
                  refine s_move hE goes_none (by decide) rfl ?_; intro a hE
                  refine s_extract hE goes_none (by decide) rfl rfl ?_; intro a hE
                  refine s_extract hE goes_none (by decide) rfl rfl ?_; intro a hE
                  refine s_assign hE goes_none (by decide) rfl ?_; intro a hE
                  refine s_assign hE goes_none (by decide) rfl ?_; intro a hE
                  refine c_fin ?_
                  refine wp_seq ?_
                  obtain ⟨j56, hl57, hF58⟩ := bind_some hF35
                  refine c_join (fun a w => Env 106 a [(11, u15), (14, (vI r44.2)), (97, (vT j56))] ∧ M (Old w0) w0 w [own NoB (r44.1 : (List Int)) [u15]]) ?_ ?_
                  · skip
                    refine wp_region_lit ?_
                    refine s_move hE goes_none (by decide) rfl ?_; intro a hE
                    refine s_move hE goes_none (by decide) rfl ?_; intro a hE
                    obtain ⟨r59, e60, hl57⟩ := bind_some hl57
                    refine s_call (vs := [u55, u9]) hE goes_none (by decide) rfl cb36 (c_laws_eqInt64S _ r53.1 u55 (hM.sl (pre := []) noB) r7.1 u9 (hM.sl (pre := [_, _, _]) noB) r59 e60) ?_
                    rintro v w a ⟨rfl, hK⟩ hE
                    have hM := hM.keep hK
                    refine s_not hE goes_none (by decide) rfl ?_; intro a hE
                    refine s_move hE goes_none (by decide) rfl ?_; intro a hE
                    refine splitB (!r59) (fun hb61 => ?_) (fun hb61 => ?_)
                    · have hl57 := ite_t hl57 hb61
                      refine s_skip hE rfl (lkb rfl hb61) rfl (by decide) ?_; intro a hE
                      refine s_skip hE rfl (lkb rfl hb61) rfl (by decide) ?_; intro a hE
                      refine s_skip hE rfl (lkb rfl hb61) rfl (by decide) ?_; intro a hE
                      refine s_pickT hE goes_none (by decide) (lkb rfl hb61) rfl ?_; intro a hE
                      refine c_fin0 ?_
                      have ht62 := Option.some.inj hl57
                      subst ht62
                      refine c_mid ?_
                      have hM := hM.pull (pre := [_, _])
                      have hM := M.fst (l := [_]) hM
                      exact ⟨hE.sub ⟨rfl, rfl, rfl, trivial⟩, hM⟩
                    · have hl57 := ite_f hl57 hb61
                      refine s_move hE (goes_yes hE rfl (lkb rfl hb61)) (by decide) rfl ?_; intro a hE
                      refine s_move hE (goes_yes hE rfl (lkb rfl hb61)) (by decide) rfl ?_; intro a hE
                      refine s_int hE (goes_yes hE rfl (lkb rfl hb61)) (by decide) rfl rfl rfl ?_; intro a hE
                      refine s_pickF hE goes_none (by decide) (lkb rfl hb61) rfl ?_; intro a hE
                      refine c_fin0 ?_
                      have ht63 := Option.some.inj hl57
                      subst ht63
                      refine c_mid ?_
                      have hM := hM.pull (pre := [_, _])
                      have hM := M.fst (l := [_]) hM
                      exact ⟨hE.sub ⟨rfl, rfl, rfl, trivial⟩, hM⟩
                  · skip
                    rintro a w ⟨hE, hM⟩
                    refine c_cond hE rfl ?_ ?_
                    · intro hb64
                      have hF58 := ite_t hF58 hb64
                      refine c_region ?_
                      refine s_assign hE goes_none (by decide) rfl ?_; intro a hE
                      refine c_fin ?_
                      have hr := Option.some.inj hF58
                      subst hr
                      have hM := M.fst (l := []) hM
                      exact wp_ret (r_then (k_ret1 hE rfl (res_tmp hE rfl) ⟨_, rfl, rfl, hM.kept⟩))
                    · intro hb64
                      have hF58 := ite_f hF58 hb64
                      refine wp_skip ?_
                      refine c_nx ?_
                      refine c_region ?_
                      refine s_assign hE goes_none (by decide) rfl ?_; intro a hE
                      refine c_fin ?_
                      refine c_region ?_
                      refine s_move hE goes_none (by decide) rfl ?_; intro a hE
                      refine s_move hE goes_none (by decide) rfl ?_; intro a hE
                      obtain ⟨r65, e66, hF58⟩ := bind_some hF58
                      refine s_call (vs := [u15, (vI 1)]) hE goes_none (by decide) rfl cb40 (c_laws_heldInt64S _ r44.1 u15 (hM.ro (pre := []) noB) 1 r65 e66) ?_
                      rintro v w a ⟨rfl, hK⟩ hE
                      have hM := hM.keep hK
                      refine s_assign hE goes_none (by decide) rfl ?_; intro a hE
                      refine c_fin ?_
                      refine wp_seq ?_
                      refine c_region ?_
                      refine s_move hE goes_none (by decide) rfl ?_; intro a hE
                      refine s_int hE goes_none (by decide) rfl rfl rfl ?_; intro a hE
                      refine c_fin ?_
                      refine c_cond hE rfl ?_ ?_
                      · intro hb67
                        have hF58 := ite_t hF58 hb67
                        refine c_region ?_
                        refine s_assign hE goes_none (by decide) rfl ?_; intro a hE
                        refine c_fin ?_
                        have hr := Option.some.inj hF58
                        subst hr
                        have hM := M.fst (l := []) hM
                        exact wp_ret (r_then (k_ret1 hE rfl (res_tmp hE rfl) ⟨_, rfl, rfl, hM.kept⟩))
                      · intro hb67
                        have hF58 := ite_f hF58 hb67
                        refine wp_skip ?_
                        refine c_nx ?_
                        refine wp_seq ?_
                        refine c_region ?_
                        refine s_move hE goes_none (by decide) rfl ?_; intro a hE
                        refine s_move hE goes_none (by decide) rfl ?_; intro a hE
                        refine s_int hE goes_none (by decide) rfl rfl rfl ?_; intro a hE
                        refine c_fin ?_
                        refine c_cond hE rfl ?_ ?_
                        · intro hb68
                          have hF58 := ite_t hF58 hb68
                          refine c_region ?_
                          refine s_assign hE goes_none (by decide) rfl ?_; intro a hE
                          refine c_fin ?_
                          have hr := Option.some.inj hF58
                          subst hr
                          have hM := M.fst (l := []) hM
                          exact wp_ret (r_then (k_ret1 hE rfl (res_tmp hE rfl) ⟨_, rfl, rfl, hM.kept⟩))
                        · intro hb68
                          have hF58 := ite_f hF58 hb68
                          refine wp_skip ?_
                          refine c_nx ?_
                          refine c_region ?_
                          refine s_assign hE goes_none (by decide) rfl ?_; intro a hE
                          refine c_fin ?_
                          have hr := Option.some.inj hF58
                          subst hr
                          have hM := M.fst (l := []) hM
                          exact wp_ret (k_ret1 hE rfl (res_tmp hE rfl) ⟨_, rfl, rfl, hM.kept⟩)
end Go.Proofs.Ythlmkdjednppkaa
