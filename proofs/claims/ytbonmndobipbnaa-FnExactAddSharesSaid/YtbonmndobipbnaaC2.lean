/- The walk of what the law reaches: contracts of functions. -/
import Derived.Test.YtbonmndobipbnaaC1
set_option linter.unusedVariables false
set_option linter.unusedSimpArgs false
namespace Go.Proofs.Ytbonmndobipbnaa
open Go
set_option maxRecDepth 20000 in
set_option maxHeartbeats 400000 in
theorem c_impl_added (w0 : World) (p0 : (List GShare)) (v0_1 : Value) (hv0_1 : Ro w0 p0 [v0_1]) (p1 : (List GShare)) (v1_1 : Value) (hv1_1 : Ro w0 p1 [v1_1]) (r : (List GShare)) (hF : F_impl_added p0 p1 = some r) :
    Calls Try.prog 99 [v0_1, v1_1].toArray w0 (fun en w' => ∃ v, en = .returned v ∧ (∃ (y1 : Value), v = y1 ∧ Fr w0 w' [osl NoB (r : List GShare) y1] ∧ Kept (Old w0) w0 w')) := by
  refine c_enter (n := 50) Try.func99 rfl rfl (Nat.le_of_ble_eq_true rfl) rfl ?_
  intro a hE
  have hM := M.start w0
  unfold F_impl_added at hF
  refine c_region ?_
  refine s_assign hE goes_none (by decide) rfl ?_; intro a hE
  refine c_fin ?_
  refine c_region ?_
  refine s_build (xs := []) (S := NoB) (l := ([] : List GShare)) (vs := []) hE hM.emp noB goes_none (by decide) rfl rfl rfl Try.underlying25 ty81 rfl (by decide) (fun _ h => ⟨rfl, h⟩) (fun _ h => by cases h) ?_; intro u1 w a hM hE
  refine s_assign hE goes_none (by decide) rfl ?_; intro a hE
  refine c_fin ?_
  refine wp_seq ?_
  refine c_region ?_
  refine s_move hE goes_none (by decide) rfl ?_; intro a hE
  refine s_len hE goes_none (by decide) rfl Try.underlying25 (hM.rd hv0_1) ?_; intro a hE
  refine s_move hE goes_none (by decide) rfl ?_; intro a hE
  refine c_fin ?_
  obtain ⟨j3, hl4, hF5⟩ := bind_some hF
  refine c_cut (fun a w => ∃ (u6 : Value), Env 50 a [(5, u6)] ∧ M (Old w0) w0 w [osl NoB (j3 : List GShare) u6]) ?_ ?_
  · skip
    refine wp_block ?_
    refine c_loop (fun (s8 : Int × (List GShare)) a w => ∃ (u9 : Value), Env 50 a [(1, v1_1), (5, u9), (11, v0_1), (12, (vI (p0.length : Int))), (13, (vI s8.1))] ∧ M (Old w0) w0 w [osl NoB (s8.2 : List GShare) u9]) hl4 ⟨u1, hE.sub ⟨rfl, rfl, rfl, rfl, rfl, trivial⟩, hM⟩ ?_
    rintro s8 a w ⟨u9, hE, hM⟩ o13 hs11 hx12
    unfold L0_impl_added at hs11
    refine c_region ?_
    refine s_int hE goes_none (by decide) rfl rfl rfl ?_; intro a hE
    refine c_fin ?_
    refine wp_seq ?_
    refine c_cond hE rfl ?_ ?_
    · intro hb14
      have hs11 := ite_t hs11 hb14
      refine wp_skip ?_
      refine c_nx ?_
      refine wp_seq ?_
      refine wp_block ?_
      refine c_region ?_
      refine s_move hE goes_none (by decide) rfl ?_; intro a hE
      obtain ⟨x15, e16, hs11⟩ := bind_some hs11
      have hi17 := idx_some e16
      refine s_indexS hE goes_none (by decide) rfl rfl Try.underlying25 ty81 (hM.rd hv0_1) hi17.1 ?_; intro a hE
      obtain ⟨cs18, hs19, hA20⟩ := sl_atRo hv0_1 hi17.2 -- ^
      obtain ⟨u21, rfl, h22⟩ := un_GShare hs19 -- ^
      refine s_loadA (cs := cat [[(vB x15.Place)], [u21]]) hE goes_none (by decide) rfl ty81 rfl (hM.atk hA20 (sl_blk hv0_1 hi17.2)) (cat_len (cl1 (n := 1) (m := 1) rfl (cl1 (n := 1) (m := 0) rfl cl0))) ?_; intro a hE
      refine s_alloc hE hM goes_none (by decide) ty81 ?_; intro b23 w a hM hE
      refine s_assign hE goes_none (by decide) rfl ?_; intro a hE
      refine s_store (seg := cat [[(vB x15.Place)], [u21]]) (cs' := cat [[(vB x15.Place)], [u21]]) hE hM goes_none rfl rfl rfl ty81 (cat_len (cl1 (n := 1) (m := 1) rfl (cl1 (n := 1) (m := 0) rfl cl0))) (Nat.le_of_eq ((Nat.zero_add _).trans (Eq.trans (cat_len (cl1 (n := 1) (m := 1) rfl (cl1 (n := 1) (m := 0) rfl cl0))) (Eq.symm (cat_len (cl1 (n := 1) (m := 1) rfl (cl1 (n := 1) (m := 0) rfl cl0))))))) (cat_cell (cc1 (Flat.cell (x15.Place : UInt8)) (cc1 (Rep.cell (hM.rd h22)) cc0))) (splice_all (Eq.trans (cat_len (cl1 (n := 1) (m := 1) rfl (cl1 (n := 1) (m := 0) rfl cl0))) (Eq.symm (cat_len (cl1 (n := 1) (m := 1) rfl (cl1 (n := 1) (m := 0) rfl cl0)))))) ?_; intro w a hM hE
      refine c_fin ?_
      refine c_region ?_
      refine s_fieldAddr hE goes_none (by decide) rfl (fd81_1) ?_; intro a hE
      refine s_load (v := u21) hE goes_none (by decide) rfl ty29 rfl (At.cat (pre := [[(vB x15.Place)]]) (seg := [u21]) (post := []) (hM.rawAt (pre := [])) (cl1 (n := 1) (m := 0) rfl cl0)) ?_; intro a hE
      obtain ⟨r25, e26, hs11⟩ := bind_some hs11
      refine s_call (vs := [u21]) hE goes_none (by decide) rfl cb140 (c_slices_Clone_byte_byte _ x15.Data u21 (hM.rdo h22) r25 e26) ?_
      rintro u27 w a ⟨_, rfl, hFr, hK⟩ hE
      have hM := hM.add hK hFr
      refine s_assign hE goes_none (by decide) rfl ?_; intro a hE
      refine c_fin ?_
      refine wp_seq ?_
      refine c_region ?_
      refine s_move hE goes_none (by decide) rfl ?_; intro a hE
      refine s_len hE goes_none (by decide) rfl Try.underlying29 (hM.sl (pre := []) noB) ?_; intro a hE
      refine s_move hE goes_none (by decide) rfl ?_; intro a hE
      refine c_fin ?_
      obtain ⟨j28, hl29, hF30⟩ := bind_some hs11
      refine c_cut (fun a w => ∃ (u31 : Value), Env 50 a [(1, v1_1), (5, u9), (7, (ptr b23 0)), (8, u31), (11, v0_1), (12, (vI (p0.length : Int))), (13, (vI s8.1))] ∧ M (Old w0) w0 w [raw b23 (cat [[(vB x15.Place)], [u21]]), osl NoB (s8.2 : List GShare) u9, osl NoB (j28 : List UInt8) u31]) ?_ ?_
      · skip
        refine wp_block ?_
        have hM := hM.pull (pre := [_, _])
        have hM := hM.pull (pre := [_, _])
        refine c_loop (fun (s33 : Int × (List UInt8)) a w => ∃ (u34 : Value), Env 50 a [(1, v1_1), (5, u9), (6, (vI s8.1)), (7, (ptr b23 0)), (8, u34), (11, v0_1), (12, (vI (p0.length : Int))), (13, (vI s8.1)), (22, (vI (r25.length : Int))), (23, (vI s33.1))] ∧ M (Old w0) w0 w [raw b23 (cat [[(vB x15.Place)], [u21]]), osl NoB (s8.2 : List GShare) u9, osl NoB (s33.2 : List UInt8) u34]) hl29 ⟨u27, hE.sub ⟨rfl, rfl, rfl, rfl, rfl, rfl, rfl, rfl, rfl, rfl, trivial⟩, hM⟩ ?_
        rintro s33 a w ⟨u34, hE, hM⟩ o38 hs36 hx37
        unfold L1_impl_added at hs36
        refine c_region ?_
        refine s_int hE goes_none (by decide) rfl rfl rfl ?_; intro a hE
        refine c_fin ?_
        refine wp_seq ?_
        refine c_cond hE rfl ?_ ?_
        · intro hb39
          have hs36 := ite_t hs36 hb39
          refine wp_skip ?_
          refine c_nx ?_
          refine wp_seq ?_
          refine wp_block ?_
          refine c_region ?_
          refine s_move hE goes_none (by decide) rfl ?_; intro a hE
          refine s_assign hE goes_none (by decide) rfl ?_; intro a hE
          refine c_fin ?_
          obtain ⟨x41, e42, hs36⟩ := bind_some hs36
          have hi43 := idx_some e42
          obtain ⟨x44, e45, hs36⟩ := bind_some hs36
          have hi46 := idx_some e45
          obtain ⟨cs47, hs48, hA49⟩ := sl_atRo hv1_1 hi46.2 -- ^
          obtain ⟨u50, rfl, h51⟩ := un_GShare hs48 -- ^
          obtain ⟨x52, e53, hs36⟩ := bind_some hs36
          have hi54 := idx_some e53
          obtain ⟨x55, e56, hs36⟩ := bind_some hs36
          have hi57 := idx_some e56
          refine c_draw (n := 50) (hd := [_, _, _, _, _, _, _, _, _, _, _, _, _, _]) (tl := [_]) hmix rfl rfl [26, 27, 28, 29, 30, 31, 32, 33, 34, 35, 36, 37, 38, 39] (by decide) (fun w => M (Old w0) w0 w [raw b23 (cat [[(vB x15.Place)], [u21]]), osl NoB (s8.2 : List GShare) u9, osl NoB (s33.2 : List UInt8) u34]) (fun j => ([fun v _ => v = u34, fun v _ => v = (vI s33.1), fun v _ => v = (ptr (sb u34) (so u34 + (s33.1).toNat * 1)), fun v _ => v = (vB x41), fun v _ => v = v1_1, fun v _ => v = (vI s8.1), fun v _ => v = (ptr (sb v1_1) (so v1_1 + (s8.1).toNat * 2)), fun v _ => v = (ptr (sb v1_1) (so v1_1 + (s8.1).toNat * 2 + 1)), fun v _ => v = u50, fun v _ => v = (vI s33.1), fun v _ => v = (ptr (sb u50) (so u50 + (s33.1).toNat * 1)), fun v _ => v = (vB x52), fun v _ => v = (vB (x41 ^^^ x52)), fun v _ => v = (ptr (sb u34) (so u34 + (s33.1).toNat * 1))] : List (Value → World → Prop)).getD j (fun _ _ => True)) (fun _ _ h hk => h.keep hk) (gup (gupE (gupE (gupE (gupE (gupE (gupE (gupE (gupE (gupE (gupE (gupE (gupE (gupE (gupE gupN))))))))))))))) hE hM.drew (steps_of (steps_cons ?_ (steps_cons ?_ (steps_cons ?_ (steps_cons ?_ (steps_cons ?_ (steps_cons ?_ (steps_cons ?_ (steps_cons ?_ (steps_cons ?_ (steps_cons ?_ (steps_cons ?_ (steps_cons ?_ (steps_cons ?_ (steps_cons ?_ steps_nil))))))))))))))) ?_
          · intro a w ux40 hE hM hp
            refine s_move hE goes_none (by decide) rfl ?_; intro a hE
            exact ⟨Kept.refl _ _, _, _, rfl, hE, rfl⟩
          · intro a w ux40 hE hM hp
            refine s_move hE goes_none (by decide) rfl ?_; intro a hE
            exact ⟨Kept.refl _ _, _, _, rfl, hE, rfl⟩
          · intro a w ux40 hE hM hp
            have f0 : ux40 0 = u34 := hp 0 _ rfl rfl
            have f1 : ux40 1 = (vI s33.1) := hp 1 _ rfl rfl
            refine s_indexS hE goes_none (by decide) (lk rfl f0) (lk rfl f1) Try.underlying29 ty5 (hM.sl (pre := [_, _]) noB) hi43.1 ?_; intro a hE
            exact ⟨Kept.refl _ _, _, _, rfl, hE, rfl⟩
          · intro a w ux40 hE hM hp
            have f2 : ux40 2 = (ptr (sb u34) (so u34 + (s33.1).toNat * 1)) := hp 0 _ rfl rfl
            refine s_load (v := (vB x41)) hE goes_none (by decide) (lk rfl f2) ty5 rfl (sl_atF (hM.sl (pre := [_, _]) noB) hi43.2) ?_; intro a hE
            exact ⟨Kept.refl _ _, _, _, rfl, hE, rfl⟩
          · intro a w ux40 hE hM hp
            refine s_move hE goes_none (by decide) rfl ?_; intro a hE
            exact ⟨Kept.refl _ _, _, _, rfl, hE, rfl⟩
          · intro a w ux40 hE hM hp
            refine s_move hE goes_none (by decide) rfl ?_; intro a hE
            exact ⟨Kept.refl _ _, _, _, rfl, hE, rfl⟩
          · intro a w ux40 hE hM hp
            have f4 : ux40 4 = v1_1 := hp 0 _ rfl rfl
            have f5 : ux40 5 = (vI s8.1) := hp 1 _ rfl rfl
            refine s_indexS hE goes_none (by decide) (lk rfl f4) (lk rfl f5) Try.underlying25 ty81 (hM.rd hv1_1) hi46.1 ?_; intro a hE
            exact ⟨Kept.refl _ _, _, _, rfl, hE, rfl⟩
          · intro a w ux40 hE hM hp
            have f6 : ux40 6 = (ptr (sb v1_1) (so v1_1 + (s8.1).toNat * 2)) := hp 0 _ rfl rfl
            refine s_fieldAddr hE goes_none (by decide) (lk rfl f6) (fd81_1) ?_; intro a hE
            exact ⟨Kept.refl _ _, _, _, rfl, hE, rfl⟩
          · intro a w ux40 hE hM hp
            have f7 : ux40 7 = (ptr (sb v1_1) (so v1_1 + (s8.1).toNat * 2 + 1)) := hp 0 _ rfl rfl
            refine s_load (v := u50) hE goes_none (by decide) (lk rfl f7) ty29 rfl (At.cat (pre := [[(vB x44.Place)]]) (seg := [u50]) (post := []) (hM.atk hA49 (sl_blk hv1_1 hi46.2)) (cl1 (n := 1) (m := 0) rfl cl0)) ?_; intro a hE
            exact ⟨Kept.refl _ _, _, _, rfl, hE, rfl⟩
          · intro a w ux40 hE hM hp
            refine s_move hE goes_none (by decide) rfl ?_; intro a hE
            exact ⟨Kept.refl _ _, _, _, rfl, hE, rfl⟩
          · intro a w ux40 hE hM hp
            have f8 : ux40 8 = u50 := hp 0 _ rfl rfl
            have f9 : ux40 9 = (vI s33.1) := hp 1 _ rfl rfl
            refine s_indexS hE goes_none (by decide) (lk rfl f8) (lk rfl f9) Try.underlying29 ty5 (hM.rd h51) hi54.1 ?_; intro a hE
            exact ⟨Kept.refl _ _, _, _, rfl, hE, rfl⟩
          · intro a w ux40 hE hM hp
            have f10 : ux40 10 = (ptr (sb u50) (so u50 + (s33.1).toNat * 1)) := hp 0 _ rfl rfl
            refine s_load (v := (vB x52)) hE goes_none (by decide) (lk rfl f10) ty5 rfl (sl_atF (hM.rd h51) hi54.2) ?_; intro a hE
            exact ⟨Kept.refl _ _, _, _, rfl, hE, rfl⟩
          · intro a w ux40 hE hM hp
            have f3 : ux40 3 = (vB x41) := hp 0 _ rfl rfl
            have f11 : ux40 11 = (vB x52) := hp 1 _ rfl rfl
            refine s_int hE goes_none (by decide) (lk rfl f3) (lk rfl f11) (bB_xor x41 x52) ?_; intro a hE
            exact ⟨Kept.refl _ _, _, _, rfl, hE, rfl⟩
          · intro a w ux40 hE hM hp
            have f0 : ux40 0 = u34 := hp 0 _ rfl rfl
            have f1 : ux40 1 = (vI s33.1) := hp 1 _ rfl rfl
            refine s_indexS hE goes_none (by decide) (lk rfl f0) (lk rfl f1) Try.underlying29 ty5 (hM.sl (pre := [_, _]) noB) hi57.1 ?_; intro a hE
            exact ⟨Kept.refl _ _, _, _, rfl, hE, rfl⟩
          · intro a w ux40 hE hM hg
            have f0 : ux40 0 = u34 := hg 0 (by decide)
            have f1 : ux40 1 = (vI s33.1) := hg 1 (by decide)
            have f2 : ux40 2 = (ptr (sb u34) (so u34 + (s33.1).toNat * 1)) := hg 2 (by decide)
            have f3 : ux40 3 = (vB x41) := hg 3 (by decide)
            have f4 : ux40 4 = v1_1 := hg 4 (by decide)
            have f5 : ux40 5 = (vI s8.1) := hg 5 (by decide)
            have f6 : ux40 6 = (ptr (sb v1_1) (so v1_1 + (s8.1).toNat * 2)) := hg 6 (by decide)
            have f7 : ux40 7 = (ptr (sb v1_1) (so v1_1 + (s8.1).toNat * 2 + 1)) := hg 7 (by decide)
            have f8 : ux40 8 = u50 := hg 8 (by decide)
            have f9 : ux40 9 = (vI s33.1) := hg 9 (by decide)
            have f10 : ux40 10 = (ptr (sb u50) (so u50 + (s33.1).toNat * 1)) := hg 10 (by decide)
            have f11 : ux40 11 = (vB x52) := hg 11 (by decide)
            have f12 : ux40 12 = (vB (x41 ^^^ x52)) := hg 12 (by decide)
            have f13 : ux40 13 = (ptr (sb u34) (so u34 + (s33.1).toNat * 1)) := hg 13 (by decide)
            have hE := hE.sub (e' := [(26, u34), (27, (vI s33.1)), (28, (ptr (sb u34) (so u34 + (s33.1).toNat * 1))), (29, (vB x41)), (30, v1_1), (31, (vI s8.1)), (32, (ptr (sb v1_1) (so v1_1 + (s8.1).toNat * 2))), (33, (ptr (sb v1_1) (so v1_1 + (s8.1).toNat * 2 + 1))), (34, u50), (35, (vI s33.1)), (36, (ptr (sb u50) (so u50 + (s33.1).toNat * 1))), (37, (vB x52)), (38, (vB (x41 ^^^ x52))), (39, (ptr (sb u34) (so u34 + (s33.1).toNat * 1))), (1, v1_1), (5, u9), (6, (vI s8.1)), (7, (ptr b23 0)), (8, u34), (9, (vI s33.1)), (11, v0_1), (12, (vI (p0.length : Int))), (13, (vI s8.1)), (22, (vI (r25.length : Int))), (23, (vI s33.1)), (24, (vT (decide (s33.1 < (r25.length : Int))))), (25, (vI s33.1))]) ⟨lk rfl f0, lk rfl f1, lk rfl f2, lk rfl f3, lk rfl f4, lk rfl f5, lk rfl f6, lk rfl f7, lk rfl f8, lk rfl f9, lk rfl f10, lk rfl f11, lk rfl f12, lk rfl f13, rfl, rfl, rfl, rfl, rfl, rfl, rfl, rfl, rfl, rfl, rfl, rfl, rfl, trivial⟩
            have hM := hM.pull (pre := [_, _])
            refine s_storeS (i := (s33.1).toNat) (k0 := 0) (seg := [(vB (x41 ^^^ x52))]) (xo := x55) (xn := x41 ^^^ x52) hE hM goes_none rfl rfl rfl ty5 rfl (Flat.cell (x41 ^^^ x52 : UInt8)) hi57.2 (fit_num (m := 1) rfl (by decide)) (splice_all (Eq.trans rfl (Eq.symm rfl))) ?_; intro w a hM hE
            refine c_fin0 ?_
            refine c_nb ?_
            refine c_nx ?_
            refine wp_region_lit ?_
            refine s_int hE goes_none (by decide) rfl rfl rfl ?_; intro a hE
            refine s_move hE goes_none (by decide) rfl ?_; intro a hE
            refine c_fin0 ?_
            refine c_mid ?_
            have hM := hM.pull (pre := [_, _])
            have hM := hM.pull (pre := [_, _])
            exact ⟨_, (Option.some.inj hs36).symm, u34, hE.sub ⟨rfl, rfl, rfl, rfl, rfl, rfl, rfl, rfl, rfl, rfl, trivial⟩, hM⟩
        · intro hb39
          have hs36 := ite_f hs36 hb39
          refine wp_exit (e_then (e_then (e_eq ?_)))
          have ht58 := hx37 _ (Option.some.inj hs36).symm
          subst ht58
          refine c_mid ?_
          exact ⟨u34, hE.sub ⟨rfl, rfl, rfl, rfl, rfl, rfl, rfl, trivial⟩, hM⟩
      · skip
        rintro a w ⟨u31, hE, hM⟩
        refine c_nx ?_
        refine wp_region_lit ?_
        refine s_move hE goes_none (by decide) rfl ?_; intro a hE
        refine s_fieldAddr hE goes_none (by decide) rfl (fd81_0) ?_; intro a hE
        refine s_load (v := (vB x15.Place)) hE goes_none (by decide) rfl ty5 rfl (At.cat (pre := []) (seg := [(vB x15.Place)]) (post := [[u21]]) (hM.rawAt (pre := [])) cl0) ?_; intro a hE
        refine s_move hE goes_none (by decide) rfl ?_; intro a hE
        refine s_buildStr (parts := [(0, .tmp 43), (1, .tmp 44)]) (vs := [(0, (vB x15.Place)), (1, u31)]) (cs := cat [[(vB x15.Place)], [u31]]) hE goes_none (by decide) rfl rfl ty81 pl81 (fill_step (pre := []) (seg := [(vB 0)]) (seg' := [(vB x15.Place)]) (post := [[(Value.slice none 0 0)]]) rfl cl0 rfl rfl rfl (fill_step (pre := [[(vB x15.Place)]]) (seg := [(Value.slice none 0 0)]) (seg' := [u31]) (post := []) rfl (cl1 (n := 1) (m := 0) rfl cl0) rfl rfl (sl_cells (hM.sl (pre := [_, _]) noB)) fill_nil)) ?_; intro a hE
        have hM := hM.pull (pre := [_, _])
        have hM := hM.pack1 (it := own NoB (⟨x15.Place, j28⟩ : GShare) (cat [[(vB x15.Place)], [u31]])) (own_loc noB) (fun f0 q0 => (pk_GShare (OwnSl.sat q0) (by simp)))
        refine s_build1 (xs := [.tmp 45]) (seg := cat [[(vB x15.Place)], [u31]]) hE hM noB goes_none (by decide) rfl rfl Try.underlying25 ty81 rfl (by decide) ?_; intro u59 w a hM hE
        obtain ⟨l61, e62, hF30⟩ := bind_some hF30
        obtain ⟨e65, rfl⟩ := app_some e62
        have hM := hM.pull (pre := [_, _])
        refine s_appendR hE hM noB goes_none (by decide) rfl rfl Try.underlying25 ty81 rfl (by decide) e65 ?_; intro u63 w a hM hE
        refine s_assign hE goes_none (by decide) rfl ?_; intro a hE
        refine c_fin0 ?_
        refine c_nb ?_
        refine c_nx ?_
        refine wp_region_lit ?_
        refine s_int hE goes_none (by decide) rfl rfl rfl ?_; intro a hE
        refine s_move hE goes_none (by decide) rfl ?_; intro a hE
        refine c_fin0 ?_
        refine c_mid ?_
        have hM := M.fst (l := [_]) hM
        exact ⟨_, (Option.some.inj hF30).symm, u63, hE.sub ⟨rfl, rfl, rfl, rfl, rfl, trivial⟩, hM⟩
    · intro hb14
      have hs11 := ite_f hs11 hb14
      refine wp_exit (e_then (e_then (e_eq ?_)))
      have ht66 := hx12 _ (Option.some.inj hs11).symm
      subst ht66
      refine c_mid ?_
      exact ⟨u9, hE.sub ⟨rfl, trivial⟩, hM⟩
  · skip
    rintro a w ⟨u6, hE, hM⟩
    refine c_nx ?_
    refine c_region ?_
    refine s_move hE goes_none (by decide) rfl ?_; intro a hE
    refine s_assign hE goes_none (by decide) rfl ?_; intro a hE
    refine c_fin ?_
    have hr := Option.some.inj hF5
    subst hr
    exact wp_ret (k_ret1 hE rfl (res_tmp hE rfl) ⟨_, rfl, u6, rfl, hM.outF (locN1 locN0), hM.kept⟩)
noncomputable def F_impl_AddShares (p0 : Int) (p1 : (List GShare)) (p2 : (List GShare)) : Option ((List GShare) × Int) :=
  (F_impl_checkShares p0 p1 1).bind fun (r1 : Int) => (F_impl_checkShares p0 p2 1).bind fun (r3 : Int) => (if (r1 == 1) = true then (some true) else (some (r3 == 1)) : Option (Bool)).bind fun (j5 : Bool) => if j5 = true then (some ([], 1)) else ((if (r1 != 0) = true then (some true) else (if (r3 != 0) = true then (some true) else ((F_impl_placesOf p1).bind fun (r21 : (List UInt8)) => (F_impl_placesOf p2).bind fun (r24 : (List UInt8)) => (F_bytes_Equal r21 r24).bind fun (r27 : Bool) => if (!r27) = true then (some true) else ((idx p1 (0 : Int)).bind fun (x31 : GShare) => (idx p2 (0 : Int)).bind fun (x39 : GShare) => some ((x31.Data.length : Int) != (x39.Data.length : Int))))) : Option (Bool)).bind fun (j13 : Bool) => if j13 = true then (some ([], 2)) else ((F_impl_added p1 p2).bind fun (r50 : (List GShare)) => some (r50, 0)))
set_option maxRecDepth 20000 in
set_option maxHeartbeats 400000 in
theorem c_impl_AddShares (w0 : World) (p0 : Int) (p1 : (List GShare)) (v1_1 : Value) (hv1_1 : Ro w0 p1 [v1_1]) (p2 : (List GShare)) (v2_1 : Value) (hv2_1 : Ro w0 p2 [v2_1]) (r : (List GShare) × Int) (hF : F_impl_AddShares p0 p1 p2 = some r) :
    Calls Try.prog 38 [(vI p0), v1_1, v2_1].toArray w0 (fun en w' => ∃ v, en = .returned v ∧ (∃ (y1 : Value), v = (Value.tuple [y1, (vI r.2)].toArray) ∧ Fr w0 w' [osl NoB (r.1 : List GShare) y1] ∧ Kept (Old w0) w0 w')) := by
  refine c_enter (n := 54) Try.func38 rfl rfl (Nat.le_of_ble_eq_true rfl) rfl ?_
  intro a hE
  have hM := M.start w0
  unfold F_impl_AddShares at hF
  refine c_region ?_
  refine s_assign hE goes_none (by decide) rfl ?_; intro a hE
  refine s_assign hE goes_none (by decide) rfl ?_; intro a hE
  refine c_fin ?_
  refine c_region ?_
  refine s_move hE goes_none (by decide) rfl ?_; intro a hE
  refine s_move hE goes_none (by decide) rfl ?_; intro a hE
  obtain ⟨r1, e2, hF⟩ := bind_some hF
  refine s_call (vs := [(vI p0), v1_1, (vI 1)]) hE goes_none (by decide) rfl cb97 (c_impl_checkShares _ p0 p1 v1_1 (hM.rdo hv1_1) 1 r1 e2) ?_
  rintro v w a ⟨rfl, hK⟩ hE
  have hM := hM.keep hK
  refine s_move hE goes_none (by decide) rfl ?_; intro a hE
  refine s_move hE goes_none (by decide) rfl ?_; intro a hE
  obtain ⟨r3, e4, hF⟩ := bind_some hF
  refine s_call (vs := [(vI p0), v2_1, (vI 1)]) hE goes_none (by decide) rfl cb97 (c_impl_checkShares _ p0 p2 v2_1 (hM.rdo hv2_1) 1 r3 e4) ?_
  rintro v w a ⟨rfl, hK⟩ hE
  have hM := hM.keep hK
  refine s_assign hE goes_none (by decide) rfl ?_; intro a hE
  refine s_assign hE goes_none (by decide) rfl ?_; intro a hE
  refine c_fin ?_
  refine wp_seq ?_
  refine wp_block ?_
  obtain ⟨j5, hl6, hF7⟩ := bind_some hF
  refine c_join (fun a w => Env 54 a [(1, v1_1), (2, v2_1), (8, (vI r1)), (9, (vI r3)), (16, (vT j5))] ∧ M (Old w0) w0 w []) ?_ ?_
  · skip
    refine wp_region_lit ?_
    refine s_move hE goes_none (by decide) rfl ?_; intro a hE
    refine s_int hE goes_none (by decide) rfl rfl rfl ?_; intro a hE
    refine s_move hE goes_none (by decide) rfl ?_; intro a hE
    refine splitB (r1 == 1) (fun hb8 => ?_) (fun hb8 => ?_)
    · have hl6 := ite_t hl6 hb8
      refine s_skip hE rfl (lkb rfl hb8) rfl (by decide) ?_; intro a hE
      refine s_skip hE rfl (lkb rfl hb8) rfl (by decide) ?_; intro a hE
      refine s_pickT hE goes_none (by decide) (lkb rfl hb8) rfl ?_; intro a hE
      refine s_assign hE goes_none (by decide) rfl ?_; intro a hE
      refine c_fin0 ?_
      have ht9 := Option.some.inj hl6
      subst ht9
      refine c_mid ?_
      exact ⟨hE.sub ⟨rfl, rfl, rfl, rfl, rfl, trivial⟩, hM⟩
    · have hl6 := ite_f hl6 hb8
      refine s_move hE (goes_yes hE rfl (lkb rfl hb8)) (by decide) rfl ?_; intro a hE
      refine s_int hE (goes_yes hE rfl (lkb rfl hb8)) (by decide) rfl rfl rfl ?_; intro a hE
      refine s_pickF hE goes_none (by decide) (lkb rfl hb8) rfl ?_; intro a hE
      refine s_assign hE goes_none (by decide) rfl ?_; intro a hE
      refine c_fin0 ?_
      have ht10 := Option.some.inj hl6
      subst ht10
      refine c_mid ?_
      exact ⟨hE.sub ⟨rfl, rfl, rfl, rfl, rfl, trivial⟩, hM⟩
  · skip
    rintro a w ⟨hE, hM⟩
    refine c_cond hE rfl ?_ ?_
    · intro hb11
      have hF7 := ite_t hF7 hb11
      refine c_region ?_
      refine s_assign hE goes_none (by decide) rfl ?_; intro a hE
      refine s_assign hE goes_none (by decide) rfl ?_; intro a hE
      refine c_fin ?_
      have hM := M.nilS (α := GShare) NoB noB hM
      have hr := Option.some.inj hF7
      subst hr
      exact wp_ret (r_inb (r_then (k_ret2 hE rfl (res_tmp hE rfl) (res_tmp hE rfl) ⟨_, rfl, (Value.slice none 0 0), rfl, hM.outF (locN1 locN0), hM.kept⟩)))
    · intro hb11
      have hF7 := ite_f hF7 hb11
      obtain ⟨j13, hl14, hF15⟩ := bind_some hF7
      refine c_join (fun a w => Env 54 a [(1, v1_1), (2, v2_1), (23, (vT j13))] ∧ M (Old w0) w0 w []) ?_ ?_
      · skip
        refine splitB (r1 != 0) (fun hb17 => ?_) (fun hb17 => ?_)
        · have hl14 := ite_t hl14 hb17
          refine c_draw2 (n := 54) (hd := [_, _, _, _, _, _, _, _, _, _, _, _, _, _, _, _, _, _, _, _, _, _, _, _, _]) (tl := [_, _, _]) (its := []) hmix rfl rfl [24, 25, 26, 27, 28, 29, 30, 31, 32, 33, 34, 35, 36, 37, 38, 39, 40, 41, 42, 43, 44, 45, 46, 47, 48] (by decide) [] rfl (fun j => ([fun v => v = (vI r1), fun v => v = (vT (r1 != 0)), fun v => v = (vT (r1 != 0)), fun v => v = undef, fun v => v = undef, fun v => v = (vT true), fun v => v = (vT true), fun v => v = undef, fun v => v = undef, fun v => v = undef, fun v => v = undef, fun v => v = undef, fun v => v = undef, fun v => v = (vT true), fun v => v = (vT true), fun v => v = undef, fun v => v = undef, fun v => v = undef, fun v => v = undef, fun v => v = undef, fun v => v = undef, fun v => v = undef, fun v => v = undef, fun v => v = undef, fun v => v = undef] : List (Value → Prop)).getD j (fun _ => True)) hE hM.drew (steps_of (steps_cons ?_ (steps_cons ?_ (steps_cons ?_ (steps_cons ?_ (steps_cons ?_ (steps_cons ?_ (steps_cons ?_ (steps_cons ?_ (steps_cons ?_ (steps_cons ?_ (steps_cons ?_ (steps_cons ?_ (steps_cons ?_ (steps_cons ?_ (steps_cons ?_ (steps_cons ?_ (steps_cons ?_ (steps_cons ?_ (steps_cons ?_ (steps_cons ?_ (steps_cons ?_ (steps_cons ?_ (steps_cons ?_ (steps_cons ?_ (steps_cons ?_ steps_nil)))))))))))))))))))))))))) ?_
          · intro a w ux16 D hE hM hD hp
            have hM0 := hM
            refine s_move hE goes_none (by decide) rfl ?_; intro a hE
            exact ⟨_, _, rfl, hE, rfl, hM0.optKeep rfl⟩
          · intro a w ux16 D hE hM hD hp
            have f0 : ux16 0 = (vI r1) := (hp 0 _ rfl rfl).2
            have hM0 := hM
            refine s_int hE goes_none (by decide) (lk rfl f0) rfl rfl ?_; intro a hE
            exact ⟨_, _, rfl, hE, rfl, hM0.optKeep rfl⟩
          · intro a w ux16 D hE hM hD hp
            have f1 : ux16 1 = (vT (r1 != 0)) := (hp 0 _ rfl rfl).2
            have hM0 := hM
            refine s_move hE goes_none (by decide) (lk rfl f1) ?_; intro a hE
            exact ⟨_, _, rfl, hE, rfl, hM0.optKeep rfl⟩
          · intro a w ux16 D hE hM hD hp
            have f2 : ux16 2 = (vT (r1 != 0)) := (hp 0 _ rfl rfl).2
            have hM0 := hM
            refine s_skip hE rfl (lkb (lk rfl f2) hb17) rfl (by decide) ?_; intro a hE
            exact ⟨_, _, rfl, hE, rfl, hM0.optKeep rfl⟩
          · intro a w ux16 D hE hM hD hp
            have f2 : ux16 2 = (vT (r1 != 0)) := (hp 1 _ rfl rfl).2
            have f3 : ux16 3 = undef := (hp 0 _ rfl rfl).2
            have hM0 := hM
            refine s_skip hE rfl (lkb (lk rfl f2) hb17) rfl (by decide) ?_; intro a hE
            exact ⟨_, _, rfl, hE, rfl, hM0.optKeep rfl⟩
          · intro a w ux16 D hE hM hD hp
            have f2 : ux16 2 = (vT (r1 != 0)) := (hp 0 _ rfl rfl).2
            have f4 : ux16 4 = undef := (hp 1 _ rfl rfl).2
            have hM0 := hM
            refine s_pickT hE goes_none (by decide) (lkb (lk rfl f2) hb17) rfl ?_; intro a hE
            exact ⟨_, _, rfl, hE, rfl, hM0.optKeep rfl⟩
          · intro a w ux16 D hE hM hD hp
            have f5 : ux16 5 = (vT true) := (hp 0 _ rfl rfl).2
            have hM0 := hM
            refine s_move hE goes_none (by decide) (lk rfl f5) ?_; intro a hE
            exact ⟨_, _, rfl, hE, rfl, hM0.optKeep rfl⟩
          · intro a w ux16 D hE hM hD hp
            have f6 : ux16 6 = (vT true) := (hp 0 _ rfl rfl).2
            have hM0 := hM
            refine s_skip hE rfl (lk rfl f6) rfl (by decide) ?_; intro a hE
            exact ⟨_, _, rfl, hE, rfl, hM0.optKeep rfl⟩
          · intro a w ux16 D hE hM hD hp
            have f6 : ux16 6 = (vT true) := (hp 1 _ rfl rfl).2
            have f7 : ux16 7 = undef := (hp 0 _ rfl rfl).2
            have hM0 := hM
            refine s_skip hE rfl (lk rfl f6) rfl (by decide) ?_; intro a hE
            exact ⟨_, _, rfl, hE, rfl, hM0.optKeep rfl⟩
          · intro a w ux16 D hE hM hD hp
            have f6 : ux16 6 = (vT true) := (hp 0 _ rfl rfl).2
            have hM0 := hM
            refine s_skip hE rfl (lk rfl f6) rfl (by decide) ?_; intro a hE
            exact ⟨_, _, rfl, hE, rfl, hM0.optKeep rfl⟩
          · intro a w ux16 D hE hM hD hp
            have f6 : ux16 6 = (vT true) := (hp 2 _ rfl rfl).2
            have f9 : ux16 9 = undef := (hp 0 _ rfl rfl).2
            have hM0 := hM
            refine s_skip hE rfl (lk rfl f6) rfl (by decide) ?_; intro a hE
            exact ⟨_, _, rfl, hE, rfl, hM0.optKeep rfl⟩
          · intro a w ux16 D hE hM hD hp
            have f6 : ux16 6 = (vT true) := (hp 3 _ rfl rfl).2
            have f8 : ux16 8 = undef := (hp 0 _ rfl rfl).2
            have f10 : ux16 10 = undef := (hp 1 _ rfl rfl).2
            have hM0 := hM
            refine s_skip hE rfl (lk rfl f6) rfl (by decide) ?_; intro a hE
            exact ⟨_, _, rfl, hE, rfl, hM0.optKeep rfl⟩
          · intro a w ux16 D hE hM hD hp
            have f6 : ux16 6 = (vT true) := (hp 1 _ rfl rfl).2
            have f11 : ux16 11 = undef := (hp 0 _ rfl rfl).2
            have hM0 := hM
            refine s_skip hE rfl (lk rfl f6) rfl (by decide) ?_; intro a hE
            exact ⟨_, _, rfl, hE, rfl, hM0.optKeep rfl⟩
          · intro a w ux16 D hE hM hD hp
            have f6 : ux16 6 = (vT true) := (hp 0 _ rfl rfl).2
            have f12 : ux16 12 = undef := (hp 1 _ rfl rfl).2
            have hM0 := hM
            refine s_pickT hE goes_none (by decide) (lk rfl f6) rfl ?_; intro a hE
            exact ⟨_, _, rfl, hE, rfl, hM0.optKeep rfl⟩
          · intro a w ux16 D hE hM hD hp
            have f13 : ux16 13 = (vT true) := (hp 0 _ rfl rfl).2
            have hM0 := hM
            refine s_move hE goes_none (by decide) (lk rfl f13) ?_; intro a hE
            exact ⟨_, _, rfl, hE, rfl, hM0.optKeep rfl⟩
          · intro a w ux16 D hE hM hD hp
            have f14 : ux16 14 = (vT true) := (hp 0 _ rfl rfl).2
            have hM0 := hM
            refine s_skip hE rfl (lk rfl f14) rfl (by decide) ?_; intro a hE
            exact ⟨_, _, rfl, hE, rfl, hM0.optKeep rfl⟩
          · intro a w ux16 D hE hM hD hp
            have f14 : ux16 14 = (vT true) := (hp 1 _ rfl rfl).2
            have f15 : ux16 15 = undef := (hp 0 _ rfl rfl).2
            have hM0 := hM
            refine s_skip hE rfl (lk rfl f14) rfl (by decide) ?_; intro a hE
            exact ⟨_, _, rfl, hE, rfl, hM0.optKeep rfl⟩
          · intro a w ux16 D hE hM hD hp
            have f14 : ux16 14 = (vT true) := (hp 1 _ rfl rfl).2
            have f16 : ux16 16 = undef := (hp 0 _ rfl rfl).2
            have hM0 := hM
            refine s_skip hE rfl (lk rfl f14) rfl (by decide) ?_; intro a hE
            exact ⟨_, _, rfl, hE, rfl, hM0.optKeep rfl⟩
          · intro a w ux16 D hE hM hD hp
            have f14 : ux16 14 = (vT true) := (hp 1 _ rfl rfl).2
            have f17 : ux16 17 = undef := (hp 0 _ rfl rfl).2
            have hM0 := hM
            refine s_skip hE rfl (lk rfl f14) rfl (by decide) ?_; intro a hE
            exact ⟨_, _, rfl, hE, rfl, hM0.optKeep rfl⟩
          · intro a w ux16 D hE hM hD hp
            have f14 : ux16 14 = (vT true) := (hp 1 _ rfl rfl).2
            have f18 : ux16 18 = undef := (hp 0 _ rfl rfl).2
            have hM0 := hM
            refine s_skip hE rfl (lk rfl f14) rfl (by decide) ?_; intro a hE
            exact ⟨_, _, rfl, hE, rfl, hM0.optKeep rfl⟩
          · intro a w ux16 D hE hM hD hp
            have f14 : ux16 14 = (vT true) := (hp 0 _ rfl rfl).2
            have hM0 := hM
            refine s_skip hE rfl (lk rfl f14) rfl (by decide) ?_; intro a hE
            exact ⟨_, _, rfl, hE, rfl, hM0.optKeep rfl⟩
          · intro a w ux16 D hE hM hD hp
            have f14 : ux16 14 = (vT true) := (hp 1 _ rfl rfl).2
            have f20 : ux16 20 = undef := (hp 0 _ rfl rfl).2
            have hM0 := hM
            refine s_skip hE rfl (lk rfl f14) rfl (by decide) ?_; intro a hE
            exact ⟨_, _, rfl, hE, rfl, hM0.optKeep rfl⟩
          · intro a w ux16 D hE hM hD hp
            have f14 : ux16 14 = (vT true) := (hp 1 _ rfl rfl).2
            have f21 : ux16 21 = undef := (hp 0 _ rfl rfl).2
            have hM0 := hM
            refine s_skip hE rfl (lk rfl f14) rfl (by decide) ?_; intro a hE
            exact ⟨_, _, rfl, hE, rfl, hM0.optKeep rfl⟩
          · intro a w ux16 D hE hM hD hp
            have f14 : ux16 14 = (vT true) := (hp 1 _ rfl rfl).2
            have f22 : ux16 22 = undef := (hp 0 _ rfl rfl).2
            have hM0 := hM
            refine s_skip hE rfl (lk rfl f14) rfl (by decide) ?_; intro a hE
            exact ⟨_, _, rfl, hE, rfl, hM0.optKeep rfl⟩
          · intro a w ux16 D hE hM hD hp
            have f14 : ux16 14 = (vT true) := (hp 1 _ rfl rfl).2
            have f23 : ux16 23 = undef := (hp 0 _ rfl rfl).2
            have hM0 := hM
            refine s_skip hE rfl (lk rfl f14) rfl (by decide) ?_; intro a hE
            exact ⟨_, _, rfl, hE, rfl, hM0.optKeep rfl⟩
          · intro a w ux16 hE hM hg
            have f0 : ux16 0 = (vI r1) := hg 0 (by decide)
            have f1 : ux16 1 = (vT (r1 != 0)) := hg 1 (by decide)
            have f2 : ux16 2 = (vT (r1 != 0)) := hg 2 (by decide)
            have f3 : ux16 3 = undef := hg 3 (by decide)
            have f4 : ux16 4 = undef := hg 4 (by decide)
            have f5 : ux16 5 = (vT true) := hg 5 (by decide)
            have f6 : ux16 6 = (vT true) := hg 6 (by decide)
            have f7 : ux16 7 = undef := hg 7 (by decide)
            have f8 : ux16 8 = undef := hg 8 (by decide)
            have f9 : ux16 9 = undef := hg 9 (by decide)
            have f10 : ux16 10 = undef := hg 10 (by decide)
            have f11 : ux16 11 = undef := hg 11 (by decide)
            have f12 : ux16 12 = undef := hg 12 (by decide)
            have f13 : ux16 13 = (vT true) := hg 13 (by decide)
            have f14 : ux16 14 = (vT true) := hg 14 (by decide)
            have f15 : ux16 15 = undef := hg 15 (by decide)
            have f16 : ux16 16 = undef := hg 16 (by decide)
            have f17 : ux16 17 = undef := hg 17 (by decide)
            have f18 : ux16 18 = undef := hg 18 (by decide)
            have f19 : ux16 19 = undef := hg 19 (by decide)
            have f20 : ux16 20 = undef := hg 20 (by decide)
            have f21 : ux16 21 = undef := hg 21 (by decide)
            have f22 : ux16 22 = undef := hg 22 (by decide)
            have f23 : ux16 23 = undef := hg 23 (by decide)
            have f24 : ux16 24 = undef := hg 24 (by decide)
            have hM : M (Old w0) w0 w [] := hM
            have hE := hE.sub (e' := [(24, (vI r1)), (25, (vT (r1 != 0))), (26, (vT (r1 != 0))), (27, undef), (28, undef), (29, (vT true)), (30, (vT true)), (31, undef), (32, undef), (33, undef), (34, undef), (35, undef), (36, undef), (37, (vT true)), (38, (vT true)), (39, undef), (40, undef), (41, undef), (42, undef), (43, undef), (44, undef), (45, undef), (46, undef), (47, undef), (48, undef), (1, v1_1), (2, v2_1), (8, (vI r1)), (9, (vI r3)), (16, (vT j5))]) ⟨lk rfl f0, lk rfl f1, lk rfl f2, lk rfl f3, lk rfl f4, lk rfl f5, lk rfl f6, lk rfl f7, lk rfl f8, lk rfl f9, lk rfl f10, lk rfl f11, lk rfl f12, lk rfl f13, lk rfl f14, lk rfl f15, lk rfl f16, lk rfl f17, lk rfl f18, lk rfl f19, lk rfl f20, lk rfl f21, lk rfl f22, lk rfl f23, lk rfl f24, rfl, rfl, rfl, rfl, rfl, trivial⟩
            refine s_skip hE rfl rfl rfl (by decide) ?_; intro a hE
            refine s_pickT hE goes_none (by decide) rfl rfl ?_; intro a hE
            refine s_assign hE goes_none (by decide) rfl ?_; intro a hE
            refine c_fin0 ?_
            have ht18 := Option.some.inj hl14
            subst ht18
            refine c_mid ?_
            exact ⟨hE.sub ⟨rfl, rfl, rfl, trivial⟩, hM⟩
        · have hl14 := ite_f hl14 hb17
          refine splitB (r3 != 0) (fun hb19 => ?_) (fun hb19 => ?_)
          · have hl14 := ite_t hl14 hb19
            refine c_draw2 (n := 54) (hd := [_, _, _, _, _, _, _, _, _, _, _, _, _, _, _, _, _, _, _, _, _, _, _, _, _]) (tl := [_, _, _]) (its := []) hmix rfl rfl [24, 25, 26, 27, 28, 29, 30, 31, 32, 33, 34, 35, 36, 37, 38, 39, 40, 41, 42, 43, 44, 45, 46, 47, 48] (by decide) [] rfl (fun j => ([fun v => v = (vI r1), fun v => v = (vT (r1 != 0)), fun v => v = (vT (r1 != 0)), fun v => v = (vI r3), fun v => v = (vT (r3 != 0)), fun v => v = (vT (r3 != 0)), fun v => v = (vT (r3 != 0)), fun v => v = undef, fun v => v = undef, fun v => v = undef, fun v => v = undef, fun v => v = undef, fun v => v = undef, fun v => v = (vT true), fun v => v = (vT true), fun v => v = undef, fun v => v = undef, fun v => v = undef, fun v => v = undef, fun v => v = undef, fun v => v = undef, fun v => v = undef, fun v => v = undef, fun v => v = undef, fun v => v = undef] : List (Value → Prop)).getD j (fun _ => True)) hE hM.drew (steps_of (steps_cons ?_ (steps_cons ?_ (steps_cons ?_ (steps_cons ?_ (steps_cons ?_ (steps_cons ?_ (steps_cons ?_ (steps_cons ?_ (steps_cons ?_ (steps_cons ?_ (steps_cons ?_ (steps_cons ?_ (steps_cons ?_ (steps_cons ?_ (steps_cons ?_ (steps_cons ?_ (steps_cons ?_ (steps_cons ?_ (steps_cons ?_ (steps_cons ?_ (steps_cons ?_ (steps_cons ?_ (steps_cons ?_ (steps_cons ?_ (steps_cons ?_ steps_nil)))))))))))))))))))))))))) ?_
            · intro a w ux16 D hE hM hD hp
              have hM0 := hM
              refine s_move hE goes_none (by decide) rfl ?_; intro a hE
              exact ⟨_, _, rfl, hE, rfl, hM0.optKeep rfl⟩
            · intro a w ux16 D hE hM hD hp
              have f0 : ux16 0 = (vI r1) := (hp 0 _ rfl rfl).2
              have hM0 := hM
              refine s_int hE goes_none (by decide) (lk rfl f0) rfl rfl ?_; intro a hE
              exact ⟨_, _, rfl, hE, rfl, hM0.optKeep rfl⟩
            · intro a w ux16 D hE hM hD hp
              have f1 : ux16 1 = (vT (r1 != 0)) := (hp 0 _ rfl rfl).2
              have hM0 := hM
              refine s_move hE goes_none (by decide) (lk rfl f1) ?_; intro a hE
              exact ⟨_, _, rfl, hE, rfl, hM0.optKeep rfl⟩
            · intro a w ux16 D hE hM hD hp
              have f2 : ux16 2 = (vT (r1 != 0)) := (hp 0 _ rfl rfl).2
              have hM0 := hM
              refine s_move hE (goes_yes hE rfl (lkb (lk rfl f2) hb17)) (by decide) rfl ?_; intro a hE
              exact ⟨_, _, rfl, hE, rfl, hM0.optKeep rfl⟩
            · intro a w ux16 D hE hM hD hp
              have f2 : ux16 2 = (vT (r1 != 0)) := (hp 1 _ rfl rfl).2
              have f3 : ux16 3 = (vI r3) := (hp 0 _ rfl rfl).2
              have hM0 := hM
              refine s_int hE (goes_yes hE rfl (lkb (lk rfl f2) hb17)) (by decide) (lk rfl f3) rfl rfl ?_; intro a hE
              exact ⟨_, _, rfl, hE, rfl, hM0.optKeep rfl⟩
            · intro a w ux16 D hE hM hD hp
              have f2 : ux16 2 = (vT (r1 != 0)) := (hp 0 _ rfl rfl).2
              have f4 : ux16 4 = (vT (r3 != 0)) := (hp 1 _ rfl rfl).2
              have hM0 := hM
              refine s_pickF hE goes_none (by decide) (lkb (lk rfl f2) hb17) (lk rfl f4) ?_; intro a hE
              exact ⟨_, _, rfl, hE, rfl, hM0.optKeep rfl⟩
            · intro a w ux16 D hE hM hD hp
              have f5 : ux16 5 = (vT (r3 != 0)) := (hp 0 _ rfl rfl).2
              have hM0 := hM
              refine s_move hE goes_none (by decide) (lk rfl f5) ?_; intro a hE
              exact ⟨_, _, rfl, hE, rfl, hM0.optKeep rfl⟩
            · intro a w ux16 D hE hM hD hp
              have f6 : ux16 6 = (vT (r3 != 0)) := (hp 0 _ rfl rfl).2
              have hM0 := hM
              refine s_skip hE rfl (lkb (lk rfl f6) hb19) rfl (by decide) ?_; intro a hE
              exact ⟨_, _, rfl, hE, rfl, hM0.optKeep rfl⟩
            · intro a w ux16 D hE hM hD hp
              have f6 : ux16 6 = (vT (r3 != 0)) := (hp 1 _ rfl rfl).2
              have f7 : ux16 7 = undef := (hp 0 _ rfl rfl).2
              have hM0 := hM
              refine s_skip hE rfl (lkb (lk rfl f6) hb19) rfl (by decide) ?_; intro a hE
              exact ⟨_, _, rfl, hE, rfl, hM0.optKeep rfl⟩
            · intro a w ux16 D hE hM hD hp
              have f6 : ux16 6 = (vT (r3 != 0)) := (hp 0 _ rfl rfl).2
              have hM0 := hM
              refine s_skip hE rfl (lkb (lk rfl f6) hb19) rfl (by decide) ?_; intro a hE
              exact ⟨_, _, rfl, hE, rfl, hM0.optKeep rfl⟩
            · intro a w ux16 D hE hM hD hp
              have f6 : ux16 6 = (vT (r3 != 0)) := (hp 2 _ rfl rfl).2
              have f9 : ux16 9 = undef := (hp 0 _ rfl rfl).2
              have hM0 := hM
              refine s_skip hE rfl (lkb (lk rfl f6) hb19) rfl (by decide) ?_; intro a hE
              exact ⟨_, _, rfl, hE, rfl, hM0.optKeep rfl⟩
            · intro a w ux16 D hE hM hD hp
              have f6 : ux16 6 = (vT (r3 != 0)) := (hp 3 _ rfl rfl).2
              have f8 : ux16 8 = undef := (hp 0 _ rfl rfl).2
              have f10 : ux16 10 = undef := (hp 1 _ rfl rfl).2
              have hM0 := hM
              refine s_skip hE rfl (lkb (lk rfl f6) hb19) rfl (by decide) ?_; intro a hE
              exact ⟨_, _, rfl, hE, rfl, hM0.optKeep rfl⟩
            · intro a w ux16 D hE hM hD hp
              have f6 : ux16 6 = (vT (r3 != 0)) := (hp 1 _ rfl rfl).2
              have f11 : ux16 11 = undef := (hp 0 _ rfl rfl).2
              have hM0 := hM
              refine s_skip hE rfl (lkb (lk rfl f6) hb19) rfl (by decide) ?_; intro a hE
              exact ⟨_, _, rfl, hE, rfl, hM0.optKeep rfl⟩
            · intro a w ux16 D hE hM hD hp
              have f6 : ux16 6 = (vT (r3 != 0)) := (hp 0 _ rfl rfl).2
              have f12 : ux16 12 = undef := (hp 1 _ rfl rfl).2
              have hM0 := hM
              refine s_pickT hE goes_none (by decide) (lkb (lk rfl f6) hb19) rfl ?_; intro a hE
              exact ⟨_, _, rfl, hE, rfl, hM0.optKeep rfl⟩
            · intro a w ux16 D hE hM hD hp
              have f13 : ux16 13 = (vT true) := (hp 0 _ rfl rfl).2
              have hM0 := hM
              refine s_move hE goes_none (by decide) (lk rfl f13) ?_; intro a hE
              exact ⟨_, _, rfl, hE, rfl, hM0.optKeep rfl⟩
            · intro a w ux16 D hE hM hD hp
              have f14 : ux16 14 = (vT true) := (hp 0 _ rfl rfl).2
              have hM0 := hM
              refine s_skip hE rfl (lk rfl f14) rfl (by decide) ?_; intro a hE
              exact ⟨_, _, rfl, hE, rfl, hM0.optKeep rfl⟩
            · intro a w ux16 D hE hM hD hp
              have f14 : ux16 14 = (vT true) := (hp 1 _ rfl rfl).2
              have f15 : ux16 15 = undef := (hp 0 _ rfl rfl).2
              have hM0 := hM
              refine s_skip hE rfl (lk rfl f14) rfl (by decide) ?_; intro a hE
              exact ⟨_, _, rfl, hE, rfl, hM0.optKeep rfl⟩
            · intro a w ux16 D hE hM hD hp
              have f14 : ux16 14 = (vT true) := (hp 1 _ rfl rfl).2
              have f16 : ux16 16 = undef := (hp 0 _ rfl rfl).2
              have hM0 := hM
              refine s_skip hE rfl (lk rfl f14) rfl (by decide) ?_; intro a hE
              exact ⟨_, _, rfl, hE, rfl, hM0.optKeep rfl⟩
            · intro a w ux16 D hE hM hD hp
              have f14 : ux16 14 = (vT true) := (hp 1 _ rfl rfl).2
              have f17 : ux16 17 = undef := (hp 0 _ rfl rfl).2
              have hM0 := hM
              refine s_skip hE rfl (lk rfl f14) rfl (by decide) ?_; intro a hE
              exact ⟨_, _, rfl, hE, rfl, hM0.optKeep rfl⟩
            · intro a w ux16 D hE hM hD hp
              have f14 : ux16 14 = (vT true) := (hp 1 _ rfl rfl).2
              have f18 : ux16 18 = undef := (hp 0 _ rfl rfl).2
              have hM0 := hM
              refine s_skip hE rfl (lk rfl f14) rfl (by decide) ?_; intro a hE
              exact ⟨_, _, rfl, hE, rfl, hM0.optKeep rfl⟩
            · intro a w ux16 D hE hM hD hp
              have f14 : ux16 14 = (vT true) := (hp 0 _ rfl rfl).2
              have hM0 := hM
              refine s_skip hE rfl (lk rfl f14) rfl (by decide) ?_; intro a hE
              exact ⟨_, _, rfl, hE, rfl, hM0.optKeep rfl⟩
            · intro a w ux16 D hE hM hD hp
              have f14 : ux16 14 = (vT true) := (hp 1 _ rfl rfl).2
              have f20 : ux16 20 = undef := (hp 0 _ rfl rfl).2
              have hM0 := hM
              refine s_skip hE rfl (lk rfl f14) rfl (by decide) ?_; intro a hE
              exact ⟨_, _, rfl, hE, rfl, hM0.optKeep rfl⟩
            · intro a w ux16 D hE hM hD hp
              have f14 : ux16 14 = (vT true) := (hp 1 _ rfl rfl).2
              have f21 : ux16 21 = undef := (hp 0 _ rfl rfl).2
              have hM0 := hM
              refine s_skip hE rfl (lk rfl f14) rfl (by decide) ?_; intro a hE
              exact ⟨_, _, rfl, hE, rfl, hM0.optKeep rfl⟩
            · intro a w ux16 D hE hM hD hp
              have f14 : ux16 14 = (vT true) := (hp 1 _ rfl rfl).2
              have f22 : ux16 22 = undef := (hp 0 _ rfl rfl).2
              have hM0 := hM
              refine s_skip hE rfl (lk rfl f14) rfl (by decide) ?_; intro a hE
              exact ⟨_, _, rfl, hE, rfl, hM0.optKeep rfl⟩
            · intro a w ux16 D hE hM hD hp
              have f14 : ux16 14 = (vT true) := (hp 1 _ rfl rfl).2
              have f23 : ux16 23 = undef := (hp 0 _ rfl rfl).2
              have hM0 := hM
              refine s_skip hE rfl (lk rfl f14) rfl (by decide) ?_; intro a hE
              exact ⟨_, _, rfl, hE, rfl, hM0.optKeep rfl⟩
            · intro a w ux16 hE hM hg
              have f0 : ux16 0 = (vI r1) := hg 0 (by decide)
              have f1 : ux16 1 = (vT (r1 != 0)) := hg 1 (by decide)
              have f2 : ux16 2 = (vT (r1 != 0)) := hg 2 (by decide)
              have f3 : ux16 3 = (vI r3) := hg 3 (by decide)
              have f4 : ux16 4 = (vT (r3 != 0)) := hg 4 (by decide)
              have f5 : ux16 5 = (vT (r3 != 0)) := hg 5 (by decide)
              have f6 : ux16 6 = (vT (r3 != 0)) := hg 6 (by decide)
              have f7 : ux16 7 = undef := hg 7 (by decide)
              have f8 : ux16 8 = undef := hg 8 (by decide)
              have f9 : ux16 9 = undef := hg 9 (by decide)
              have f10 : ux16 10 = undef := hg 10 (by decide)
              have f11 : ux16 11 = undef := hg 11 (by decide)
              have f12 : ux16 12 = undef := hg 12 (by decide)
              have f13 : ux16 13 = (vT true) := hg 13 (by decide)
              have f14 : ux16 14 = (vT true) := hg 14 (by decide)
              have f15 : ux16 15 = undef := hg 15 (by decide)
              have f16 : ux16 16 = undef := hg 16 (by decide)
              have f17 : ux16 17 = undef := hg 17 (by decide)
              have f18 : ux16 18 = undef := hg 18 (by decide)
              have f19 : ux16 19 = undef := hg 19 (by decide)
              have f20 : ux16 20 = undef := hg 20 (by decide)
              have f21 : ux16 21 = undef := hg 21 (by decide)
              have f22 : ux16 22 = undef := hg 22 (by decide)
              have f23 : ux16 23 = undef := hg 23 (by decide)
              have f24 : ux16 24 = undef := hg 24 (by decide)
              have hM : M (Old w0) w0 w [] := hM
              have hE := hE.sub (e' := [(24, (vI r1)), (25, (vT (r1 != 0))), (26, (vT (r1 != 0))), (27, (vI r3)), (28, (vT (r3 != 0))), (29, (vT (r3 != 0))), (30, (vT (r3 != 0))), (31, undef), (32, undef), (33, undef), (34, undef), (35, undef), (36, undef), (37, (vT true)), (38, (vT true)), (39, undef), (40, undef), (41, undef), (42, undef), (43, undef), (44, undef), (45, undef), (46, undef), (47, undef), (48, undef), (1, v1_1), (2, v2_1), (8, (vI r1)), (9, (vI r3)), (16, (vT j5))]) ⟨lk rfl f0, lk rfl f1, lk rfl f2, lk rfl f3, lk rfl f4, lk rfl f5, lk rfl f6, lk rfl f7, lk rfl f8, lk rfl f9, lk rfl f10, lk rfl f11, lk rfl f12, lk rfl f13, lk rfl f14, lk rfl f15, lk rfl f16, lk rfl f17, lk rfl f18, lk rfl f19, lk rfl f20, lk rfl f21, lk rfl f22, lk rfl f23, lk rfl f24, rfl, rfl, rfl, rfl, rfl, trivial⟩
              refine s_skip hE rfl rfl rfl (by decide) ?_; intro a hE
              refine s_pickT hE goes_none (by decide) rfl rfl ?_; intro a hE
              refine s_assign hE goes_none (by decide) rfl ?_; intro a hE
              refine c_fin0 ?_
              have ht20 := Option.some.inj hl14
              subst ht20
              refine c_mid ?_
              exact ⟨hE.sub ⟨rfl, rfl, rfl, trivial⟩, hM⟩
          · have hl14 := ite_f hl14 hb19
            obtain ⟨r21, e22, hl14⟩ := bind_some hl14
            obtain ⟨r24, e25, hl14⟩ := bind_some hl14
            obtain ⟨r27, e28, hl14⟩ := bind_some hl14
            refine splitB (!r27) (fun hb29 => ?_) (fun hb29 => ?_)
            · have hl14 := ite_t hl14 hb29
              refine c_draw2 (n := 54) (hd := [_, _, _, _, _, _, _, _, _, _, _, _, _, _, _, _, _, _, _, _, _, _, _, _, _]) (tl := [_, _, _]) (its := []) hmix rfl rfl [24, 25, 26, 27, 28, 29, 30, 31, 32, 33, 34, 35, 36, 37, 38, 39, 40, 41, 42, 43, 44, 45, 46, 47, 48] (by decide) [(8, fun v => osl NoB (r21 : List UInt8) v), (10, fun v => osl NoB (r24 : List UInt8) v)] rfl (fun j => ([fun v => v = (vI r1), fun v => v = (vT (r1 != 0)), fun v => v = (vT (r1 != 0)), fun v => v = (vI r3), fun v => v = (vT (r3 != 0)), fun v => v = (vT (r3 != 0)), fun v => v = (vT (r3 != 0)), fun v => v = v1_1, fun v => True, fun v => v = v2_1, fun v => True, fun v => v = (vT r27), fun v => v = (vT (!r27)), fun v => v = (vT (!r27)), fun v => v = (vT (!r27)), fun v => v = undef, fun v => v = undef, fun v => v = undef, fun v => v = undef, fun v => v = undef, fun v => v = undef, fun v => v = undef, fun v => v = undef, fun v => v = undef, fun v => v = undef] : List (Value → Prop)).getD j (fun _ => True)) hE hM.drew (steps_of (steps_cons ?_ (steps_cons ?_ (steps_cons ?_ (steps_cons ?_ (steps_cons ?_ (steps_cons ?_ (steps_cons ?_ (steps_cons ?_ (steps_cons ?_ (steps_cons ?_ (steps_cons ?_ (steps_cons ?_ (steps_cons ?_ (steps_cons ?_ (steps_cons ?_ (steps_cons ?_ (steps_cons ?_ (steps_cons ?_ (steps_cons ?_ (steps_cons ?_ (steps_cons ?_ (steps_cons ?_ (steps_cons ?_ (steps_cons ?_ (steps_cons ?_ steps_nil)))))))))))))))))))))))))) ?_
              · intro a w ux16 D hE hM hD hp
                have hM0 := hM
                refine s_move hE goes_none (by decide) rfl ?_; intro a hE
                exact ⟨_, _, rfl, hE, rfl, hM0.optKeep rfl⟩
              · intro a w ux16 D hE hM hD hp
                have f0 : ux16 0 = (vI r1) := (hp 0 _ rfl rfl).2
                have hM0 := hM
                refine s_int hE goes_none (by decide) (lk rfl f0) rfl rfl ?_; intro a hE
                exact ⟨_, _, rfl, hE, rfl, hM0.optKeep rfl⟩
              · intro a w ux16 D hE hM hD hp
                have f1 : ux16 1 = (vT (r1 != 0)) := (hp 0 _ rfl rfl).2
                have hM0 := hM
                refine s_move hE goes_none (by decide) (lk rfl f1) ?_; intro a hE
                exact ⟨_, _, rfl, hE, rfl, hM0.optKeep rfl⟩
              · intro a w ux16 D hE hM hD hp
                have f2 : ux16 2 = (vT (r1 != 0)) := (hp 0 _ rfl rfl).2
                have hM0 := hM
                refine s_move hE (goes_yes hE rfl (lkb (lk rfl f2) hb17)) (by decide) rfl ?_; intro a hE
                exact ⟨_, _, rfl, hE, rfl, hM0.optKeep rfl⟩
              · intro a w ux16 D hE hM hD hp
                have f2 : ux16 2 = (vT (r1 != 0)) := (hp 1 _ rfl rfl).2
                have f3 : ux16 3 = (vI r3) := (hp 0 _ rfl rfl).2
                have hM0 := hM
                refine s_int hE (goes_yes hE rfl (lkb (lk rfl f2) hb17)) (by decide) (lk rfl f3) rfl rfl ?_; intro a hE
                exact ⟨_, _, rfl, hE, rfl, hM0.optKeep rfl⟩
              · intro a w ux16 D hE hM hD hp
                have f2 : ux16 2 = (vT (r1 != 0)) := (hp 0 _ rfl rfl).2
                have f4 : ux16 4 = (vT (r3 != 0)) := (hp 1 _ rfl rfl).2
                have hM0 := hM
                refine s_pickF hE goes_none (by decide) (lkb (lk rfl f2) hb17) (lk rfl f4) ?_; intro a hE
                exact ⟨_, _, rfl, hE, rfl, hM0.optKeep rfl⟩
              · intro a w ux16 D hE hM hD hp
                have f5 : ux16 5 = (vT (r3 != 0)) := (hp 0 _ rfl rfl).2
                have hM0 := hM
                refine s_move hE goes_none (by decide) (lk rfl f5) ?_; intro a hE
                exact ⟨_, _, rfl, hE, rfl, hM0.optKeep rfl⟩
              · intro a w ux16 D hE hM hD hp
                have f6 : ux16 6 = (vT (r3 != 0)) := (hp 0 _ rfl rfl).2
                have hM0 := hM
                refine s_move hE (goes_yes hE rfl (lkb (lk rfl f6) hb19)) (by decide) rfl ?_; intro a hE
                exact ⟨_, _, rfl, hE, rfl, hM0.optKeep rfl⟩
              · intro a w ux16 D hE hM hD hp
                have f6 : ux16 6 = (vT (r3 != 0)) := (hp 1 _ rfl rfl).2
                have f7 : ux16 7 = v1_1 := (hp 0 _ rfl rfl).2
                have hM0 := hM
                have hM : M (Old w0) w0 w [opt (D 8) (osl NoB (r21 : List UInt8) (ux16 8)), opt (D 10) (osl NoB (r24 : List UInt8) (ux16 10))] := hM
                refine s_call (vs := [v1_1]) hE (goes_yes hE rfl (lkb (lk rfl f6) hb19)) (by decide) (evs_of (evsC (lk rfl f7) evsN)) cb62 (c_impl_placesOf _ p1 v1_1 (hM.rdo hv1_1) r21 e22) ?_
                rintro _ w a ⟨_, rfl, hFr, hK⟩ hE
                have hM := hM0.add hK hFr
                exact ⟨_, _, rfl, hE, trivial, M.optFill (mk1 := []) (mk2 := [_]) (f := (fun v => osl NoB (r21 : List UInt8) v)) hM rfl hD⟩
              · intro a w ux16 D hE hM hD hp
                have f6 : ux16 6 = (vT (r3 != 0)) := (hp 0 _ rfl rfl).2
                have hM0 := hM
                refine s_move hE (goes_yes hE rfl (lkb (lk rfl f6) hb19)) (by decide) rfl ?_; intro a hE
                exact ⟨_, _, rfl, hE, rfl, hM0.optKeep rfl⟩
              · intro a w ux16 D hE hM hD hp
                have f6 : ux16 6 = (vT (r3 != 0)) := (hp 2 _ rfl rfl).2
                have f9 : ux16 9 = v2_1 := (hp 0 _ rfl rfl).2
                have hM0 := hM
                have hM : M (Old w0) w0 w [opt (D 8) (osl NoB (r21 : List UInt8) (ux16 8)), opt (D 10) (osl NoB (r24 : List UInt8) (ux16 10))] := hM
                refine s_call (vs := [v2_1]) hE (goes_yes hE rfl (lkb (lk rfl f6) hb19)) (by decide) (evs_of (evsC (lk rfl f9) evsN)) cb62 (c_impl_placesOf _ p2 v2_1 (hM.rdo hv2_1) r24 e25) ?_
                rintro _ w a ⟨_, rfl, hFr, hK⟩ hE
                have hM := hM0.add hK hFr
                exact ⟨_, _, rfl, hE, trivial, M.optFill (mk1 := [_]) (mk2 := []) (f := (fun v => osl NoB (r24 : List UInt8) v)) hM rfl hD⟩
              · intro a w ux16 D hE hM hD hp
                have f6 : ux16 6 = (vT (r3 != 0)) := (hp 3 _ rfl rfl).2
                have d8 := (hp 0 _ rfl rfl).1
                have d10 := (hp 1 _ rfl rfl).1
                have hM0 := hM
                have hM : M (Old w0) w0 w [opt (D 8) (osl NoB (r21 : List UInt8) (ux16 8)), opt (D 10) (osl NoB (r24 : List UInt8) (ux16 10))] := hM
                have hM := hM.sure (pre := []) d8
                have hM := hM.sure (pre := [_]) d10
                refine s_call (vs := [(ux16 8), (ux16 10)]) hE (goes_yes hE rfl (lkb (lk rfl f6) hb19)) (by decide) rfl cb98 (c_bytes_Equal _ r21 (ux16 8) (hM.sl (pre := []) noB) r24 (ux16 10) (hM.sl (pre := [_]) noB) r27 e28) ?_
                rintro v w a ⟨rfl, hK⟩ hE
                exact ⟨_, _, rfl, hE, rfl, (hM0.keep hK).optKeep rfl⟩
              · intro a w ux16 D hE hM hD hp
                have f6 : ux16 6 = (vT (r3 != 0)) := (hp 1 _ rfl rfl).2
                have f11 : ux16 11 = (vT r27) := (hp 0 _ rfl rfl).2
                have hM0 := hM
                refine s_not hE (goes_yes hE rfl (lkb (lk rfl f6) hb19)) (by decide) (lk rfl f11) ?_; intro a hE
                exact ⟨_, _, rfl, hE, rfl, hM0.optKeep rfl⟩
              · intro a w ux16 D hE hM hD hp
                have f6 : ux16 6 = (vT (r3 != 0)) := (hp 0 _ rfl rfl).2
                have f12 : ux16 12 = (vT (!r27)) := (hp 1 _ rfl rfl).2
                have hM0 := hM
                refine s_pickF hE goes_none (by decide) (lkb (lk rfl f6) hb19) (lk rfl f12) ?_; intro a hE
                exact ⟨_, _, rfl, hE, rfl, hM0.optKeep rfl⟩
              · intro a w ux16 D hE hM hD hp
                have f13 : ux16 13 = (vT (!r27)) := (hp 0 _ rfl rfl).2
                have hM0 := hM
                refine s_move hE goes_none (by decide) (lk rfl f13) ?_; intro a hE
                exact ⟨_, _, rfl, hE, rfl, hM0.optKeep rfl⟩
              · intro a w ux16 D hE hM hD hp
                have f14 : ux16 14 = (vT (!r27)) := (hp 0 _ rfl rfl).2
                have hM0 := hM
                refine s_skip hE rfl (lkb (lk rfl f14) hb29) rfl (by decide) ?_; intro a hE
                exact ⟨_, _, rfl, hE, rfl, hM0.optKeep rfl⟩
              · intro a w ux16 D hE hM hD hp
                have f14 : ux16 14 = (vT (!r27)) := (hp 1 _ rfl rfl).2
                have f15 : ux16 15 = undef := (hp 0 _ rfl rfl).2
                have hM0 := hM
                refine s_skip hE rfl (lkb (lk rfl f14) hb29) rfl (by decide) ?_; intro a hE
                exact ⟨_, _, rfl, hE, rfl, hM0.optKeep rfl⟩
              · intro a w ux16 D hE hM hD hp
                have f14 : ux16 14 = (vT (!r27)) := (hp 1 _ rfl rfl).2
                have f16 : ux16 16 = undef := (hp 0 _ rfl rfl).2
                have hM0 := hM
                refine s_skip hE rfl (lkb (lk rfl f14) hb29) rfl (by decide) ?_; intro a hE
                exact ⟨_, _, rfl, hE, rfl, hM0.optKeep rfl⟩
              · intro a w ux16 D hE hM hD hp
                have f14 : ux16 14 = (vT (!r27)) := (hp 1 _ rfl rfl).2
                have f17 : ux16 17 = undef := (hp 0 _ rfl rfl).2
                have hM0 := hM
                refine s_skip hE rfl (lkb (lk rfl f14) hb29) rfl (by decide) ?_; intro a hE
                exact ⟨_, _, rfl, hE, rfl, hM0.optKeep rfl⟩
              · intro a w ux16 D hE hM hD hp
                have f14 : ux16 14 = (vT (!r27)) := (hp 1 _ rfl rfl).2
                have f18 : ux16 18 = undef := (hp 0 _ rfl rfl).2
                have hM0 := hM
                refine s_skip hE rfl (lkb (lk rfl f14) hb29) rfl (by decide) ?_; intro a hE
                exact ⟨_, _, rfl, hE, rfl, hM0.optKeep rfl⟩
              · intro a w ux16 D hE hM hD hp
                have f14 : ux16 14 = (vT (!r27)) := (hp 0 _ rfl rfl).2
                have hM0 := hM
                refine s_skip hE rfl (lkb (lk rfl f14) hb29) rfl (by decide) ?_; intro a hE
                exact ⟨_, _, rfl, hE, rfl, hM0.optKeep rfl⟩
              · intro a w ux16 D hE hM hD hp
                have f14 : ux16 14 = (vT (!r27)) := (hp 1 _ rfl rfl).2
                have f20 : ux16 20 = undef := (hp 0 _ rfl rfl).2
                have hM0 := hM
                refine s_skip hE rfl (lkb (lk rfl f14) hb29) rfl (by decide) ?_; intro a hE
                exact ⟨_, _, rfl, hE, rfl, hM0.optKeep rfl⟩
              · intro a w ux16 D hE hM hD hp
                have f14 : ux16 14 = (vT (!r27)) := (hp 1 _ rfl rfl).2
                have f21 : ux16 21 = undef := (hp 0 _ rfl rfl).2
                have hM0 := hM
                refine s_skip hE rfl (lkb (lk rfl f14) hb29) rfl (by decide) ?_; intro a hE
                exact ⟨_, _, rfl, hE, rfl, hM0.optKeep rfl⟩
              · intro a w ux16 D hE hM hD hp
                have f14 : ux16 14 = (vT (!r27)) := (hp 1 _ rfl rfl).2
                have f22 : ux16 22 = undef := (hp 0 _ rfl rfl).2
                have hM0 := hM
                refine s_skip hE rfl (lkb (lk rfl f14) hb29) rfl (by decide) ?_; intro a hE
                exact ⟨_, _, rfl, hE, rfl, hM0.optKeep rfl⟩
              · intro a w ux16 D hE hM hD hp
                have f14 : ux16 14 = (vT (!r27)) := (hp 1 _ rfl rfl).2
                have f23 : ux16 23 = undef := (hp 0 _ rfl rfl).2
                have hM0 := hM
                refine s_skip hE rfl (lkb (lk rfl f14) hb29) rfl (by decide) ?_; intro a hE
                exact ⟨_, _, rfl, hE, rfl, hM0.optKeep rfl⟩
              · intro a w ux16 hE hM hg
                have f0 : ux16 0 = (vI r1) := hg 0 (by decide)
                have f1 : ux16 1 = (vT (r1 != 0)) := hg 1 (by decide)
                have f2 : ux16 2 = (vT (r1 != 0)) := hg 2 (by decide)
                have f3 : ux16 3 = (vI r3) := hg 3 (by decide)
                have f4 : ux16 4 = (vT (r3 != 0)) := hg 4 (by decide)
                have f5 : ux16 5 = (vT (r3 != 0)) := hg 5 (by decide)
                have f6 : ux16 6 = (vT (r3 != 0)) := hg 6 (by decide)
                have f7 : ux16 7 = v1_1 := hg 7 (by decide)
                have f9 : ux16 9 = v2_1 := hg 9 (by decide)
                have f11 : ux16 11 = (vT r27) := hg 11 (by decide)
                have f12 : ux16 12 = (vT (!r27)) := hg 12 (by decide)
                have f13 : ux16 13 = (vT (!r27)) := hg 13 (by decide)
                have f14 : ux16 14 = (vT (!r27)) := hg 14 (by decide)
                have f15 : ux16 15 = undef := hg 15 (by decide)
                have f16 : ux16 16 = undef := hg 16 (by decide)
                have f17 : ux16 17 = undef := hg 17 (by decide)
                have f18 : ux16 18 = undef := hg 18 (by decide)
                have f19 : ux16 19 = undef := hg 19 (by decide)
                have f20 : ux16 20 = undef := hg 20 (by decide)
                have f21 : ux16 21 = undef := hg 21 (by decide)
                have f22 : ux16 22 = undef := hg 22 (by decide)
                have f23 : ux16 23 = undef := hg 23 (by decide)
                have f24 : ux16 24 = undef := hg 24 (by decide)
                have hM : M (Old w0) w0 w [osl NoB (r21 : List UInt8) (ux16 8), osl NoB (r24 : List UInt8) (ux16 10)] := hM
                have hE := hE.sub (e' := [(24, (vI r1)), (25, (vT (r1 != 0))), (26, (vT (r1 != 0))), (27, (vI r3)), (28, (vT (r3 != 0))), (29, (vT (r3 != 0))), (30, (vT (r3 != 0))), (31, v1_1), (32, (ux16 8)), (33, v2_1), (34, (ux16 10)), (35, (vT r27)), (36, (vT (!r27))), (37, (vT (!r27))), (38, (vT (!r27))), (39, undef), (40, undef), (41, undef), (42, undef), (43, undef), (44, undef), (45, undef), (46, undef), (47, undef), (48, undef), (1, v1_1), (2, v2_1), (8, (vI r1)), (9, (vI r3)), (16, (vT j5))]) ⟨lk rfl f0, lk rfl f1, lk rfl f2, lk rfl f3, lk rfl f4, lk rfl f5, lk rfl f6, lk rfl f7, rfl, lk rfl f9, rfl, lk rfl f11, lk rfl f12, lk rfl f13, lk rfl f14, lk rfl f15, lk rfl f16, lk rfl f17, lk rfl f18, lk rfl f19, lk rfl f20, lk rfl f21, lk rfl f22, lk rfl f23, lk rfl f24, rfl, rfl, rfl, rfl, rfl, trivial⟩
                refine s_skip hE rfl (lkb rfl hb29) rfl (by decide) ?_; intro a hE
                refine s_pickT hE goes_none (by decide) (lkb rfl hb29) rfl ?_; intro a hE
                refine s_assign hE goes_none (by decide) rfl ?_; intro a hE
                refine c_fin0 ?_
                have ht30 := Option.some.inj hl14
                subst ht30
                refine c_mid ?_
                have hM := M.fst (l := []) hM
                exact ⟨hE.sub ⟨rfl, rfl, rfl, trivial⟩, hM⟩
            · have hl14 := ite_f hl14 hb29
              obtain ⟨x31, e32, hl14⟩ := bind_some hl14
              have hi33 := idx_some e32
              obtain ⟨cs34, hs35, hA36⟩ := sl_atRo hv1_1 hi33.2 -- ^
              obtain ⟨u37, rfl, h38⟩ := un_GShare hs35 -- ^
              obtain ⟨x39, e40, hl14⟩ := bind_some hl14
              have hi41 := idx_some e40
              obtain ⟨cs42, hs43, hA44⟩ := sl_atRo hv2_1 hi41.2 -- ^
              obtain ⟨u45, rfl, h46⟩ := un_GShare hs43 -- ^
              refine c_draw2 (n := 54) (hd := [_, _, _, _, _, _, _, _, _, _, _, _, _, _, _, _, _, _, _, _, _, _, _, _, _]) (tl := [_, _, _]) (its := []) hmix rfl rfl [24, 25, 26, 27, 28, 29, 30, 31, 32, 33, 34, 35, 36, 37, 38, 39, 40, 41, 42, 43, 44, 45, 46, 47, 48] (by decide) [(8, fun v => osl NoB (r21 : List UInt8) v), (10, fun v => osl NoB (r24 : List UInt8) v)] rfl (fun j => ([fun v => v = (vI r1), fun v => v = (vT (r1 != 0)), fun v => v = (vT (r1 != 0)), fun v => v = (vI r3), fun v => v = (vT (r3 != 0)), fun v => v = (vT (r3 != 0)), fun v => v = (vT (r3 != 0)), fun v => v = v1_1, fun v => True, fun v => v = v2_1, fun v => True, fun v => v = (vT r27), fun v => v = (vT (!r27)), fun v => v = (vT (!r27)), fun v => v = (vT (!r27)), fun v => v = v1_1, fun v => v = (ptr (sb v1_1) (so v1_1 + ((0 : Int)).toNat * 2)), fun v => v = (ptr (sb v1_1) (so v1_1 + ((0 : Int)).toNat * 2 + 1)), fun v => v = u37, fun v => v = (vI (x31.Data.length : Int)), fun v => v = v2_1, fun v => v = (ptr (sb v2_1) (so v2_1 + ((0 : Int)).toNat * 2)), fun v => v = (ptr (sb v2_1) (so v2_1 + ((0 : Int)).toNat * 2 + 1)), fun v => v = u45, fun v => v = (vI (x39.Data.length : Int))] : List (Value → Prop)).getD j (fun _ => True)) hE hM.drew (steps_of (steps_cons ?_ (steps_cons ?_ (steps_cons ?_ (steps_cons ?_ (steps_cons ?_ (steps_cons ?_ (steps_cons ?_ (steps_cons ?_ (steps_cons ?_ (steps_cons ?_ (steps_cons ?_ (steps_cons ?_ (steps_cons ?_ (steps_cons ?_ (steps_cons ?_ (steps_cons ?_ (steps_cons ?_ (steps_cons ?_ (steps_cons ?_ (steps_cons ?_ (steps_cons ?_ (steps_cons ?_ (steps_cons ?_ (steps_cons ?_ (steps_cons ?_ steps_nil)))))))))))))))))))))))))) ?_
              · intro a w ux16 D hE hM hD hp
                have hM0 := hM
                refine s_move hE goes_none (by decide) rfl ?_; intro a hE
                exact ⟨_, _, rfl, hE, rfl, hM0.optKeep rfl⟩
              · intro a w ux16 D hE hM hD hp
                have f0 : ux16 0 = (vI r1) := (hp 0 _ rfl rfl).2
                have hM0 := hM
                refine s_int hE goes_none (by decide) (lk rfl f0) rfl rfl ?_; intro a hE
                exact ⟨_, _, rfl, hE, rfl, hM0.optKeep rfl⟩
              · intro a w ux16 D hE hM hD hp
                have f1 : ux16 1 = (vT (r1 != 0)) := (hp 0 _ rfl rfl).2
                have hM0 := hM
                refine s_move hE goes_none (by decide) (lk rfl f1) ?_; intro a hE
                exact ⟨_, _, rfl, hE, rfl, hM0.optKeep rfl⟩
              · intro a w ux16 D hE hM hD hp
                have f2 : ux16 2 = (vT (r1 != 0)) := (hp 0 _ rfl rfl).2
                have hM0 := hM
                refine s_move hE (goes_yes hE rfl (lkb (lk rfl f2) hb17)) (by decide) rfl ?_; intro a hE
                exact ⟨_, _, rfl, hE, rfl, hM0.optKeep rfl⟩
              · intro a w ux16 D hE hM hD hp
                have f2 : ux16 2 = (vT (r1 != 0)) := (hp 1 _ rfl rfl).2
                have f3 : ux16 3 = (vI r3) := (hp 0 _ rfl rfl).2
                have hM0 := hM
                refine s_int hE (goes_yes hE rfl (lkb (lk rfl f2) hb17)) (by decide) (lk rfl f3) rfl rfl ?_; intro a hE
                exact ⟨_, _, rfl, hE, rfl, hM0.optKeep rfl⟩
              · intro a w ux16 D hE hM hD hp
                have f2 : ux16 2 = (vT (r1 != 0)) := (hp 0 _ rfl rfl).2
                have f4 : ux16 4 = (vT (r3 != 0)) := (hp 1 _ rfl rfl).2
                have hM0 := hM
                refine s_pickF hE goes_none (by decide) (lkb (lk rfl f2) hb17) (lk rfl f4) ?_; intro a hE
                exact ⟨_, _, rfl, hE, rfl, hM0.optKeep rfl⟩
              · intro a w ux16 D hE hM hD hp
                have f5 : ux16 5 = (vT (r3 != 0)) := (hp 0 _ rfl rfl).2
                have hM0 := hM
                refine s_move hE goes_none (by decide) (lk rfl f5) ?_; intro a hE
                exact ⟨_, _, rfl, hE, rfl, hM0.optKeep rfl⟩
              · intro a w ux16 D hE hM hD hp
                have f6 : ux16 6 = (vT (r3 != 0)) := (hp 0 _ rfl rfl).2
                have hM0 := hM
                refine s_move hE (goes_yes hE rfl (lkb (lk rfl f6) hb19)) (by decide) rfl ?_; intro a hE
                exact ⟨_, _, rfl, hE, rfl, hM0.optKeep rfl⟩
              · intro a w ux16 D hE hM hD hp
                have f6 : ux16 6 = (vT (r3 != 0)) := (hp 1 _ rfl rfl).2
                have f7 : ux16 7 = v1_1 := (hp 0 _ rfl rfl).2
                have hM0 := hM
                have hM : M (Old w0) w0 w [opt (D 8) (osl NoB (r21 : List UInt8) (ux16 8)), opt (D 10) (osl NoB (r24 : List UInt8) (ux16 10))] := hM
                refine s_call (vs := [v1_1]) hE (goes_yes hE rfl (lkb (lk rfl f6) hb19)) (by decide) (evs_of (evsC (lk rfl f7) evsN)) cb62 (c_impl_placesOf _ p1 v1_1 (hM.rdo hv1_1) r21 e22) ?_
                rintro _ w a ⟨_, rfl, hFr, hK⟩ hE
                have hM := hM0.add hK hFr
                exact ⟨_, _, rfl, hE, trivial, M.optFill (mk1 := []) (mk2 := [_]) (f := (fun v => osl NoB (r21 : List UInt8) v)) hM rfl hD⟩
              · intro a w ux16 D hE hM hD hp
                have f6 : ux16 6 = (vT (r3 != 0)) := (hp 0 _ rfl rfl).2
                have hM0 := hM
                refine s_move hE (goes_yes hE rfl (lkb (lk rfl f6) hb19)) (by decide) rfl ?_; intro a hE
                exact ⟨_, _, rfl, hE, rfl, hM0.optKeep rfl⟩
              · intro a w ux16 D hE hM hD hp
                have f6 : ux16 6 = (vT (r3 != 0)) := (hp 2 _ rfl rfl).2
                have f9 : ux16 9 = v2_1 := (hp 0 _ rfl rfl).2
                have hM0 := hM
                have hM : M (Old w0) w0 w [opt (D 8) (osl NoB (r21 : List UInt8) (ux16 8)), opt (D 10) (osl NoB (r24 : List UInt8) (ux16 10))] := hM
                refine s_call (vs := [v2_1]) hE (goes_yes hE rfl (lkb (lk rfl f6) hb19)) (by decide) (evs_of (evsC (lk rfl f9) evsN)) cb62 (c_impl_placesOf _ p2 v2_1 (hM.rdo hv2_1) r24 e25) ?_
                rintro _ w a ⟨_, rfl, hFr, hK⟩ hE
                have hM := hM0.add hK hFr
                exact ⟨_, _, rfl, hE, trivial, M.optFill (mk1 := [_]) (mk2 := []) (f := (fun v => osl NoB (r24 : List UInt8) v)) hM rfl hD⟩
              · intro a w ux16 D hE hM hD hp
                have f6 : ux16 6 = (vT (r3 != 0)) := (hp 3 _ rfl rfl).2
                have d8 := (hp 0 _ rfl rfl).1
                have d10 := (hp 1 _ rfl rfl).1
                have hM0 := hM
                have hM : M (Old w0) w0 w [opt (D 8) (osl NoB (r21 : List UInt8) (ux16 8)), opt (D 10) (osl NoB (r24 : List UInt8) (ux16 10))] := hM
                have hM := hM.sure (pre := []) d8
                have hM := hM.sure (pre := [_]) d10
                refine s_call (vs := [(ux16 8), (ux16 10)]) hE (goes_yes hE rfl (lkb (lk rfl f6) hb19)) (by decide) rfl cb98 (c_bytes_Equal _ r21 (ux16 8) (hM.sl (pre := []) noB) r24 (ux16 10) (hM.sl (pre := [_]) noB) r27 e28) ?_
                rintro v w a ⟨rfl, hK⟩ hE
                exact ⟨_, _, rfl, hE, rfl, (hM0.keep hK).optKeep rfl⟩
              · intro a w ux16 D hE hM hD hp
                have f6 : ux16 6 = (vT (r3 != 0)) := (hp 1 _ rfl rfl).2
                have f11 : ux16 11 = (vT r27) := (hp 0 _ rfl rfl).2
                have hM0 := hM
                refine s_not hE (goes_yes hE rfl (lkb (lk rfl f6) hb19)) (by decide) (lk rfl f11) ?_; intro a hE
                exact ⟨_, _, rfl, hE, rfl, hM0.optKeep rfl⟩
              · intro a w ux16 D hE hM hD hp
                have f6 : ux16 6 = (vT (r3 != 0)) := (hp 0 _ rfl rfl).2
                have f12 : ux16 12 = (vT (!r27)) := (hp 1 _ rfl rfl).2
                have hM0 := hM
                refine s_pickF hE goes_none (by decide) (lkb (lk rfl f6) hb19) (lk rfl f12) ?_; intro a hE
                exact ⟨_, _, rfl, hE, rfl, hM0.optKeep rfl⟩
              · intro a w ux16 D hE hM hD hp
                have f13 : ux16 13 = (vT (!r27)) := (hp 0 _ rfl rfl).2
                have hM0 := hM
                refine s_move hE goes_none (by decide) (lk rfl f13) ?_; intro a hE
                exact ⟨_, _, rfl, hE, rfl, hM0.optKeep rfl⟩
              · intro a w ux16 D hE hM hD hp
                have f14 : ux16 14 = (vT (!r27)) := (hp 0 _ rfl rfl).2
                have hM0 := hM
                refine s_move hE (goes_yes hE rfl (lkb (lk rfl f14) hb29)) (by decide) rfl ?_; intro a hE
                exact ⟨_, _, rfl, hE, rfl, hM0.optKeep rfl⟩
              · intro a w ux16 D hE hM hD hp
                have f14 : ux16 14 = (vT (!r27)) := (hp 1 _ rfl rfl).2
                have f15 : ux16 15 = v1_1 := (hp 0 _ rfl rfl).2
                have hM0 := hM
                have hM : M (Old w0) w0 w [opt (D 8) (osl NoB (r21 : List UInt8) (ux16 8)), opt (D 10) (osl NoB (r24 : List UInt8) (ux16 10))] := hM
                refine s_indexS hE (goes_yes hE rfl (lkb (lk rfl f14) hb29)) (by decide) (lk rfl f15) rfl Try.underlying25 ty81 (hM.rd hv1_1) hi33.1 ?_; intro a hE
                exact ⟨_, _, rfl, hE, rfl, hM0.optKeep rfl⟩
              · intro a w ux16 D hE hM hD hp
                have f14 : ux16 14 = (vT (!r27)) := (hp 1 _ rfl rfl).2
                have f16 : ux16 16 = (ptr (sb v1_1) (so v1_1 + ((0 : Int)).toNat * 2)) := (hp 0 _ rfl rfl).2
                have hM0 := hM
                refine s_fieldAddr hE (goes_yes hE rfl (lkb (lk rfl f14) hb29)) (by decide) (lk rfl f16) (fd81_1) ?_; intro a hE
                exact ⟨_, _, rfl, hE, rfl, hM0.optKeep rfl⟩
              · intro a w ux16 D hE hM hD hp
                have f14 : ux16 14 = (vT (!r27)) := (hp 1 _ rfl rfl).2
                have f17 : ux16 17 = (ptr (sb v1_1) (so v1_1 + ((0 : Int)).toNat * 2 + 1)) := (hp 0 _ rfl rfl).2
                have hM0 := hM
                have hM : M (Old w0) w0 w [opt (D 8) (osl NoB (r21 : List UInt8) (ux16 8)), opt (D 10) (osl NoB (r24 : List UInt8) (ux16 10))] := hM
                refine s_load (v := u37) hE (goes_yes hE rfl (lkb (lk rfl f14) hb29)) (by decide) (lk rfl f17) ty29 rfl (At.cat (pre := [[(vB x31.Place)]]) (seg := [u37]) (post := []) (hM.atk hA36 (sl_blk hv1_1 hi33.2)) (cl1 (n := 1) (m := 0) rfl cl0)) ?_; intro a hE
                exact ⟨_, _, rfl, hE, rfl, hM0.optKeep rfl⟩
              · intro a w ux16 D hE hM hD hp
                have f14 : ux16 14 = (vT (!r27)) := (hp 1 _ rfl rfl).2
                have f18 : ux16 18 = u37 := (hp 0 _ rfl rfl).2
                have hM0 := hM
                have hM : M (Old w0) w0 w [opt (D 8) (osl NoB (r21 : List UInt8) (ux16 8)), opt (D 10) (osl NoB (r24 : List UInt8) (ux16 10))] := hM
                refine s_len hE (goes_yes hE rfl (lkb (lk rfl f14) hb29)) (by decide) (lk rfl f18) Try.underlying29 (hM.rd h38) ?_; intro a hE
                exact ⟨_, _, rfl, hE, rfl, hM0.optKeep rfl⟩
              · intro a w ux16 D hE hM hD hp
                have f14 : ux16 14 = (vT (!r27)) := (hp 0 _ rfl rfl).2
                have hM0 := hM
                refine s_move hE (goes_yes hE rfl (lkb (lk rfl f14) hb29)) (by decide) rfl ?_; intro a hE
                exact ⟨_, _, rfl, hE, rfl, hM0.optKeep rfl⟩
              · intro a w ux16 D hE hM hD hp
                have f14 : ux16 14 = (vT (!r27)) := (hp 1 _ rfl rfl).2
                have f20 : ux16 20 = v2_1 := (hp 0 _ rfl rfl).2
                have hM0 := hM
                have hM : M (Old w0) w0 w [opt (D 8) (osl NoB (r21 : List UInt8) (ux16 8)), opt (D 10) (osl NoB (r24 : List UInt8) (ux16 10))] := hM
                refine s_indexS hE (goes_yes hE rfl (lkb (lk rfl f14) hb29)) (by decide) (lk rfl f20) rfl Try.underlying25 ty81 (hM.rd hv2_1) hi41.1 ?_; intro a hE
                exact ⟨_, _, rfl, hE, rfl, hM0.optKeep rfl⟩
              · intro a w ux16 D hE hM hD hp
                have f14 : ux16 14 = (vT (!r27)) := (hp 1 _ rfl rfl).2
                have f21 : ux16 21 = (ptr (sb v2_1) (so v2_1 + ((0 : Int)).toNat * 2)) := (hp 0 _ rfl rfl).2
                have hM0 := hM
                refine s_fieldAddr hE (goes_yes hE rfl (lkb (lk rfl f14) hb29)) (by decide) (lk rfl f21) (fd81_1) ?_; intro a hE
                exact ⟨_, _, rfl, hE, rfl, hM0.optKeep rfl⟩
              · intro a w ux16 D hE hM hD hp
                have f14 : ux16 14 = (vT (!r27)) := (hp 1 _ rfl rfl).2
                have f22 : ux16 22 = (ptr (sb v2_1) (so v2_1 + ((0 : Int)).toNat * 2 + 1)) := (hp 0 _ rfl rfl).2
                have hM0 := hM
                have hM : M (Old w0) w0 w [opt (D 8) (osl NoB (r21 : List UInt8) (ux16 8)), opt (D 10) (osl NoB (r24 : List UInt8) (ux16 10))] := hM
                refine s_load (v := u45) hE (goes_yes hE rfl (lkb (lk rfl f14) hb29)) (by decide) (lk rfl f22) ty29 rfl (At.cat (pre := [[(vB x39.Place)]]) (seg := [u45]) (post := []) (hM.atk hA44 (sl_blk hv2_1 hi41.2)) (cl1 (n := 1) (m := 0) rfl cl0)) ?_; intro a hE
                exact ⟨_, _, rfl, hE, rfl, hM0.optKeep rfl⟩
              · intro a w ux16 D hE hM hD hp
                have f14 : ux16 14 = (vT (!r27)) := (hp 1 _ rfl rfl).2
                have f23 : ux16 23 = u45 := (hp 0 _ rfl rfl).2
                have hM0 := hM
                have hM : M (Old w0) w0 w [opt (D 8) (osl NoB (r21 : List UInt8) (ux16 8)), opt (D 10) (osl NoB (r24 : List UInt8) (ux16 10))] := hM
                refine s_len hE (goes_yes hE rfl (lkb (lk rfl f14) hb29)) (by decide) (lk rfl f23) Try.underlying29 (hM.rd h46) ?_; intro a hE
                exact ⟨_, _, rfl, hE, rfl, hM0.optKeep rfl⟩
              · intro a w ux16 hE hM hg
                have f0 : ux16 0 = (vI r1) := hg 0 (by decide)
                have f1 : ux16 1 = (vT (r1 != 0)) := hg 1 (by decide)
                have f2 : ux16 2 = (vT (r1 != 0)) := hg 2 (by decide)
                have f3 : ux16 3 = (vI r3) := hg 3 (by decide)
                have f4 : ux16 4 = (vT (r3 != 0)) := hg 4 (by decide)
                have f5 : ux16 5 = (vT (r3 != 0)) := hg 5 (by decide)
                have f6 : ux16 6 = (vT (r3 != 0)) := hg 6 (by decide)
                have f7 : ux16 7 = v1_1 := hg 7 (by decide)
                have f9 : ux16 9 = v2_1 := hg 9 (by decide)
                have f11 : ux16 11 = (vT r27) := hg 11 (by decide)
                have f12 : ux16 12 = (vT (!r27)) := hg 12 (by decide)
                have f13 : ux16 13 = (vT (!r27)) := hg 13 (by decide)
                have f14 : ux16 14 = (vT (!r27)) := hg 14 (by decide)
                have f15 : ux16 15 = v1_1 := hg 15 (by decide)
                have f16 : ux16 16 = (ptr (sb v1_1) (so v1_1 + ((0 : Int)).toNat * 2)) := hg 16 (by decide)
                have f17 : ux16 17 = (ptr (sb v1_1) (so v1_1 + ((0 : Int)).toNat * 2 + 1)) := hg 17 (by decide)
                have f18 : ux16 18 = u37 := hg 18 (by decide)
                have f19 : ux16 19 = (vI (x31.Data.length : Int)) := hg 19 (by decide)
                have f20 : ux16 20 = v2_1 := hg 20 (by decide)
                have f21 : ux16 21 = (ptr (sb v2_1) (so v2_1 + ((0 : Int)).toNat * 2)) := hg 21 (by decide)
                have f22 : ux16 22 = (ptr (sb v2_1) (so v2_1 + ((0 : Int)).toNat * 2 + 1)) := hg 22 (by decide)
                have f23 : ux16 23 = u45 := hg 23 (by decide)
                have f24 : ux16 24 = (vI (x39.Data.length : Int)) := hg 24 (by decide)
                have hM : M (Old w0) w0 w [osl NoB (r21 : List UInt8) (ux16 8), osl NoB (r24 : List UInt8) (ux16 10)] := hM
                have hE := hE.sub (e' := [(24, (vI r1)), (25, (vT (r1 != 0))), (26, (vT (r1 != 0))), (27, (vI r3)), (28, (vT (r3 != 0))), (29, (vT (r3 != 0))), (30, (vT (r3 != 0))), (31, v1_1), (32, (ux16 8)), (33, v2_1), (34, (ux16 10)), (35, (vT r27)), (36, (vT (!r27))), (37, (vT (!r27))), (38, (vT (!r27))), (39, v1_1), (40, (ptr (sb v1_1) (so v1_1 + ((0 : Int)).toNat * 2))), (41, (ptr (sb v1_1) (so v1_1 + ((0 : Int)).toNat * 2 + 1))), (42, u37), (43, (vI (x31.Data.length : Int))), (44, v2_1), (45, (ptr (sb v2_1) (so v2_1 + ((0 : Int)).toNat * 2))), (46, (ptr (sb v2_1) (so v2_1 + ((0 : Int)).toNat * 2 + 1))), (47, u45), (48, (vI (x39.Data.length : Int))), (1, v1_1), (2, v2_1), (8, (vI r1)), (9, (vI r3)), (16, (vT j5))]) ⟨lk rfl f0, lk rfl f1, lk rfl f2, lk rfl f3, lk rfl f4, lk rfl f5, lk rfl f6, lk rfl f7, rfl, lk rfl f9, rfl, lk rfl f11, lk rfl f12, lk rfl f13, lk rfl f14, lk rfl f15, lk rfl f16, lk rfl f17, lk rfl f18, lk rfl f19, lk rfl f20, lk rfl f21, lk rfl f22, lk rfl f23, lk rfl f24, rfl, rfl, rfl, rfl, rfl, trivial⟩
                refine s_int hE (goes_yes hE rfl (lkb rfl hb29)) (by decide) rfl rfl rfl ?_; intro a hE
                refine s_pickF hE goes_none (by decide) (lkb rfl hb29) rfl ?_; intro a hE
                refine s_assign hE goes_none (by decide) rfl ?_; intro a hE
                refine c_fin0 ?_
                have ht47 := Option.some.inj hl14
                subst ht47
                refine c_mid ?_
                have hM := M.fst (l := []) hM
                exact ⟨hE.sub ⟨rfl, rfl, rfl, trivial⟩, hM⟩
      · skip
        rintro a w ⟨hE, hM⟩
        refine c_cond hE rfl ?_ ?_
        · intro hb48
          have hF15 := ite_t hF15 hb48
          refine c_region ?_
          refine s_assign hE goes_none (by decide) rfl ?_; intro a hE
          refine s_assign hE goes_none (by decide) rfl ?_; intro a hE
          refine c_fin ?_
          have hM := M.nilS (α := GShare) NoB noB hM
          have hr := Option.some.inj hF15
          subst hr
          exact wp_ret (r_inb (r_then (k_ret2 hE rfl (res_tmp hE rfl) (res_tmp hE rfl) ⟨_, rfl, (Value.slice none 0 0), rfl, hM.outF (locN1 locN0), hM.kept⟩)))
        · intro hb48
          have hF15 := ite_f hF15 hb48
          refine wp_skip ?_
          refine c_nb ?_
          refine c_nx ?_
          refine c_region ?_
          refine s_move hE goes_none (by decide) rfl ?_; intro a hE
          refine s_move hE goes_none (by decide) rfl ?_; intro a hE
          obtain ⟨r50, e51, hF15⟩ := bind_some hF15
          refine s_call (vs := [v1_1, v2_1]) hE goes_none (by decide) rfl cb99 (c_impl_added _ p1 v1_1 (hM.rdo hv1_1) p2 v2_1 (hM.rdo hv2_1) r50 e51) ?_
          rintro u52 w a ⟨_, rfl, hFr, hK⟩ hE
          have hM := hM.add hK hFr
          refine s_assign hE goes_none (by decide) rfl ?_; intro a hE
          refine s_assign hE goes_none (by decide) rfl ?_; intro a hE
          refine c_fin ?_
          have hr := Option.some.inj hF15
          subst hr
          exact wp_ret (k_ret2 hE rfl (res_tmp hE rfl) (res_tmp hE rfl) ⟨_, rfl, u52, rfl, hM.outF (locN1 locN0), hM.kept⟩)
noncomputable def L0_laws_eqByteS (p0 : (List UInt8)) (p1 : (List UInt8)) (s6 : Int) : Option (Fl Int (Fl Unit Bool)) :=
  if (decide (s6 < (p0.length : Int))) = true then (((idx p0 s6).bind fun (x15 : UInt8) => (idx p1 s6).bind fun (x18 : UInt8) => some (x15 != x18) : Option (Bool)).bind fun (j11 : Bool) => if j11 = true then (some (Fl.ex (Fl.ex false))) else (some (Fl.nx (wr (s6 + 1))))) else (some (Fl.ex (Fl.nx ())))
noncomputable def F_laws_eqByteS (p0 : (List UInt8)) (p1 : (List UInt8)) : Option (Bool) :=
  if ((p0.length : Int) != (p1.length : Int)) = true then (some false) else ((iter (L0_laws_eqByteS p0 p1) 0 : Option (Fl Unit Bool)).bind fun (j2 : Fl Unit Bool) => j2.el (fun (s5 : Unit) => some true) (fun r => some r))
set_option maxRecDepth 20000 in
set_option maxHeartbeats 400000 in
theorem c_laws_eqByteS (w0 : World) (p0 : (List UInt8)) (v0_1 : Value) (hv0_1 : Ro w0 p0 [v0_1]) (p1 : (List UInt8)) (v1_1 : Value) (hv1_1 : Ro w0 p1 [v1_1]) (r : Bool) (hF : F_laws_eqByteS p0 p1 = some r) :
    Calls Try.prog 21 [v0_1, v1_1].toArray w0 (fun en w' => ∃ v, en = .returned v ∧ (v = (vT r) ∧ Kept (Old w0) w0 w')) := by
  refine c_enter (n := 26) Try.func21 rfl rfl (Nat.le_of_ble_eq_true rfl) rfl ?_
  intro a hE
  have hM := M.start w0
  unfold F_laws_eqByteS at hF
  refine c_region ?_
  refine s_assign hE goes_none (by decide) rfl ?_; intro a hE
  refine c_fin ?_
  refine wp_seq ?_
  refine c_region ?_
  refine s_move hE goes_none (by decide) rfl ?_; intro a hE
  refine s_len hE goes_none (by decide) rfl Try.underlying29 (hM.rd hv0_1) ?_; intro a hE
  refine s_move hE goes_none (by decide) rfl ?_; intro a hE
  refine s_len hE goes_none (by decide) rfl Try.underlying29 (hM.rd hv1_1) ?_; intro a hE
  refine s_int hE goes_none (by decide) rfl rfl rfl ?_; intro a hE
  refine c_fin ?_
  refine c_cond hE rfl ?_ ?_
  · intro hb1
    have hF := ite_t hF hb1
    refine c_region ?_
    refine s_assign hE goes_none (by decide) rfl ?_; intro a hE
    refine c_fin ?_
    have hr := Option.some.inj hF
    subst hr
    exact wp_ret (r_then (k_ret1 hE rfl (res_tmp hE rfl) ⟨_, rfl, rfl, hM.kept⟩))
  · intro hb1
    have hF := ite_f hF hb1
    refine wp_skip ?_
    refine c_nx ?_
    refine wp_seq ?_
    refine c_region ?_
    refine s_assign hE goes_none (by decide) rfl ?_; intro a hE
    refine c_fin ?_
    obtain ⟨j2, hl3, hF4⟩ := bind_some hF
    refine c_cut (fun a w => ∃ s5 : Unit, j2 = Fl.nx s5 ∧ Env 26 a [] ∧ M (Old w0) w0 w []) ?_ ?_
    · skip
      refine wp_block ?_
      refine c_loop (fun (s6 : Int) a w => Env 26 a [(0, v0_1), (1, v1_1), (5, (vI s6))] ∧ M (Old w0) w0 w []) hl3 ⟨hE.sub ⟨rfl, rfl, rfl, trivial⟩, hM⟩ ?_
      rintro s6 a w ⟨hE, hM⟩ o9 hs7 hx8
      unfold L0_laws_eqByteS at hs7
      refine wp_seq ?_
      refine c_region ?_
      refine s_move hE goes_none (by decide) rfl ?_; intro a hE
      refine s_move hE goes_none (by decide) rfl ?_; intro a hE
      refine s_len hE goes_none (by decide) rfl Try.underlying29 (hM.rd hv0_1) ?_; intro a hE
      refine s_int hE goes_none (by decide) rfl rfl rfl ?_; intro a hE
      refine c_fin ?_
      refine c_cond hE rfl ?_ ?_
      · intro hb10
        have hs7 := ite_t hs7 hb10
        refine wp_skip ?_
        refine c_nx ?_
        refine wp_seq ?_
        refine wp_block ?_
        obtain ⟨j11, hl12, hF13⟩ := bind_some hs7
        refine c_join (fun a w => Env 26 a [(0, v0_1), (1, v1_1), (5, (vI s6)), (25, (vT j11))] ∧ M (Old w0) w0 w []) ?_ ?_
        · skip
          obtain ⟨x15, e16, hl12⟩ := bind_some hl12
          have hi17 := idx_some e16
          obtain ⟨x18, e19, hl12⟩ := bind_some hl12
          have hi20 := idx_some e19
          refine c_draw (n := 26) (hd := [_, _, _, _, _, _, _, _, _]) (tl := []) hmix rfl rfl [17, 18, 19, 20, 21, 22, 23, 24, 25] (by decide) (fun w => M (Old w0) w0 w []) (fun j => ([fun v _ => v = v0_1, fun v _ => v = (vI s6), fun v _ => v = (ptr (sb v0_1) (so v0_1 + (s6).toNat * 1)), fun v _ => v = (vB x15), fun v _ => v = v1_1, fun v _ => v = (vI s6), fun v _ => v = (ptr (sb v1_1) (so v1_1 + (s6).toNat * 1)), fun v _ => v = (vB x18), fun v _ => v = (vT (x15 != x18))] : List (Value → World → Prop)).getD j (fun _ _ => True)) (fun _ _ h hk => h.keep hk) (gup (gupE (gupE (gupE (gupE (gupE (gupE (gupE (gupE (gupE gupN)))))))))) hE hM.drew (steps_of (steps_cons ?_ (steps_cons ?_ (steps_cons ?_ (steps_cons ?_ (steps_cons ?_ (steps_cons ?_ (steps_cons ?_ (steps_cons ?_ (steps_cons ?_ steps_nil)))))))))) ?_
          · intro a w ux14 hE hM hp
            refine s_move hE goes_none (by decide) rfl ?_; intro a hE
            exact ⟨Kept.refl _ _, _, _, rfl, hE, rfl⟩
          · intro a w ux14 hE hM hp
            refine s_move hE goes_none (by decide) rfl ?_; intro a hE
            exact ⟨Kept.refl _ _, _, _, rfl, hE, rfl⟩
          · intro a w ux14 hE hM hp
            have f0 : ux14 0 = v0_1 := hp 0 _ rfl rfl
            have f1 : ux14 1 = (vI s6) := hp 1 _ rfl rfl
            refine s_indexS hE goes_none (by decide) (lk rfl f0) (lk rfl f1) Try.underlying29 ty5 (hM.rd hv0_1) hi17.1 ?_; intro a hE
            exact ⟨Kept.refl _ _, _, _, rfl, hE, rfl⟩
          · intro a w ux14 hE hM hp
            have f2 : ux14 2 = (ptr (sb v0_1) (so v0_1 + (s6).toNat * 1)) := hp 0 _ rfl rfl
            refine s_load (v := (vB x15)) hE goes_none (by decide) (lk rfl f2) ty5 rfl (sl_atF (hM.rd hv0_1) hi17.2) ?_; intro a hE
            exact ⟨Kept.refl _ _, _, _, rfl, hE, rfl⟩
          · intro a w ux14 hE hM hp
            refine s_move hE goes_none (by decide) rfl ?_; intro a hE
            exact ⟨Kept.refl _ _, _, _, rfl, hE, rfl⟩
          · intro a w ux14 hE hM hp
            refine s_move hE goes_none (by decide) rfl ?_; intro a hE
            exact ⟨Kept.refl _ _, _, _, rfl, hE, rfl⟩
          · intro a w ux14 hE hM hp
            have f4 : ux14 4 = v1_1 := hp 0 _ rfl rfl
            have f5 : ux14 5 = (vI s6) := hp 1 _ rfl rfl
            refine s_indexS hE goes_none (by decide) (lk rfl f4) (lk rfl f5) Try.underlying29 ty5 (hM.rd hv1_1) hi20.1 ?_; intro a hE
            exact ⟨Kept.refl _ _, _, _, rfl, hE, rfl⟩
          · intro a w ux14 hE hM hp
            have f6 : ux14 6 = (ptr (sb v1_1) (so v1_1 + (s6).toNat * 1)) := hp 0 _ rfl rfl
            refine s_load (v := (vB x18)) hE goes_none (by decide) (lk rfl f6) ty5 rfl (sl_atF (hM.rd hv1_1) hi20.2) ?_; intro a hE
            exact ⟨Kept.refl _ _, _, _, rfl, hE, rfl⟩
          · intro a w ux14 hE hM hp
            have f3 : ux14 3 = (vB x15) := hp 0 _ rfl rfl
            have f7 : ux14 7 = (vB x18) := hp 1 _ rfl rfl
            refine s_int hE goes_none (by decide) (lk rfl f3) (lk rfl f7) (bB_neq x15 x18) ?_; intro a hE
            exact ⟨Kept.refl _ _, _, _, rfl, hE, rfl⟩
          · intro a w ux14 hE hM hg
            have f0 : ux14 0 = v0_1 := hg 0 (by decide)
            have f1 : ux14 1 = (vI s6) := hg 1 (by decide)
            have f2 : ux14 2 = (ptr (sb v0_1) (so v0_1 + (s6).toNat * 1)) := hg 2 (by decide)
            have f3 : ux14 3 = (vB x15) := hg 3 (by decide)
            have f4 : ux14 4 = v1_1 := hg 4 (by decide)
            have f5 : ux14 5 = (vI s6) := hg 5 (by decide)
            have f6 : ux14 6 = (ptr (sb v1_1) (so v1_1 + (s6).toNat * 1)) := hg 6 (by decide)
            have f7 : ux14 7 = (vB x18) := hg 7 (by decide)
            have f8 : ux14 8 = (vT (x15 != x18)) := hg 8 (by decide)
            have hE := hE.sub (e' := [(17, v0_1), (18, (vI s6)), (19, (ptr (sb v0_1) (so v0_1 + (s6).toNat * 1))), (20, (vB x15)), (21, v1_1), (22, (vI s6)), (23, (ptr (sb v1_1) (so v1_1 + (s6).toNat * 1))), (24, (vB x18)), (25, (vT (x15 != x18))), (0, v0_1), (1, v1_1), (5, (vI s6)), (11, (vI s6)), (12, v0_1), (13, (vI (p0.length : Int))), (14, (vT (decide (s6 < (p0.length : Int)))))]) ⟨lk rfl f0, lk rfl f1, lk rfl f2, lk rfl f3, lk rfl f4, lk rfl f5, lk rfl f6, lk rfl f7, lk rfl f8, rfl, rfl, rfl, rfl, rfl, rfl, rfl, trivial⟩
            refine c_fin0 ?_
            have ht21 := Option.some.inj hl12
            subst ht21
            refine c_mid ?_
            exact ⟨hE.sub ⟨rfl, rfl, rfl, rfl, trivial⟩, hM⟩
        · skip
          rintro a w ⟨hE, hM⟩
          refine c_cond hE rfl ?_ ?_
          · intro hb22
            have hF13 := ite_t hF13 hb22
            refine c_region ?_
            refine s_assign hE goes_none (by decide) rfl ?_; intro a hE
            refine c_fin ?_
            have ht23 := hx8 _ (Option.some.inj hF13).symm
            subst ht23
            have hr := Option.some.inj hF4
            subst hr
            exact wp_ret (r_inb (r_then (r_then (r_inb (r_then (r_then (k_ret1 hE rfl (res_tmp hE rfl) ⟨_, rfl, rfl, hM.kept⟩)))))))
          · intro hb22
            have hF13 := ite_f hF13 hb22
            refine wp_skip ?_
            refine c_nb ?_
            refine c_nx ?_
            refine wp_region_lit ?_
            refine s_move hE goes_none (by decide) rfl ?_; intro a hE
            refine s_int hE goes_none (by decide) rfl rfl rfl ?_; intro a hE
            refine s_assign hE goes_none (by decide) rfl ?_; intro a hE
            refine c_fin0 ?_
            refine c_mid ?_
            exact ⟨_, (Option.some.inj hF13).symm, hE.sub ⟨rfl, rfl, rfl, trivial⟩, hM⟩
      · intro hb10
        have hs7 := ite_f hs7 hb10
        refine wp_exit (e_then (e_then (e_eq ?_)))
        have ht24 := hx8 _ (Option.some.inj hs7).symm
        subst ht24
        refine c_mid ?_
        exact ⟨(), rfl, hE.sub trivial, hM⟩
    · skip
      rintro a w ⟨s5, ht, hE, hM⟩
      subst ht
      refine c_nx ?_
      refine c_region ?_
      refine s_assign hE goes_none (by decide) rfl ?_; intro a hE
      refine c_fin ?_
      have hr := Option.some.inj hF4
      subst hr
      exact wp_ret (k_ret1 hE rfl (res_tmp hE rfl) ⟨_, rfl, rfl, hM.kept⟩)
noncomputable def F_laws_eqShare (p0 : GShare) (p1 : GShare) : Option (Bool) :=
  if (p0.Place != p1.Place) = true then (some false) else ((F_laws_eqByteS p0.Data p1.Data).bind fun (r6 : Bool) => if (!r6) = true then (some false) else (some true))
set_option maxRecDepth 20000 in
set_option maxHeartbeats 400000 in
theorem c_laws_eqShare (w0 : World) (p0 : GShare) (v0_1 : Value) (hv0_1 : Ro w0 p0.Data [v0_1]) (p1 : GShare) (v1_1 : Value) (hv1_1 : Ro w0 p1.Data [v1_1]) (r : Bool) (hF : F_laws_eqShare p0 p1 = some r) :
    Calls Try.prog 64 [(Value.agg (cat [[(vB p0.Place)], [v0_1]]).toArray), (Value.agg (cat [[(vB p1.Place)], [v1_1]]).toArray)].toArray w0 (fun en w' => ∃ v, en = .returned v ∧ (v = (vT r) ∧ Kept (Old w0) w0 w')) := by
  refine c_enter (n := 16) Try.func64 rfl rfl (Nat.le_of_ble_eq_true rfl) rfl ?_
  intro a hE
  have hM := M.start w0
  unfold F_laws_eqShare at hF
  refine c_region ?_
  refine s_box (cs := cat [[(vB p0.Place)], [v0_1]]) hE hM goes_none (by decide) rfl rfl ?_; intro b1 w a hM hE
  refine s_box (cs := cat [[(vB p1.Place)], [v1_1]]) hE hM goes_none (by decide) rfl rfl ?_; intro b3 w a hM hE
  refine s_assign hE goes_none (by decide) rfl ?_; intro a hE
  refine c_fin ?_
  refine wp_seq ?_
  refine c_region ?_
  refine s_fieldAddr hE goes_none (by decide) rfl (fd81_0) ?_; intro a hE
  refine s_load (v := (vB p0.Place)) hE goes_none (by decide) rfl ty5 rfl (At.cat (pre := []) (seg := [(vB p0.Place)]) (post := [[v0_1]]) (hM.rawAt (pre := [_])) cl0) ?_; intro a hE
  refine s_fieldAddr hE goes_none (by decide) rfl (fd81_0) ?_; intro a hE
  refine s_load (v := (vB p1.Place)) hE goes_none (by decide) rfl ty5 rfl (At.cat (pre := []) (seg := [(vB p1.Place)]) (post := [[v1_1]]) (hM.rawAt (pre := [])) cl0) ?_; intro a hE
  refine s_int hE goes_none (by decide) rfl rfl (bB_neq p0.Place p1.Place) ?_; intro a hE
  refine c_fin ?_
  refine c_cond hE rfl ?_ ?_
  · intro hb5
    have hF := ite_t hF hb5
    refine c_region ?_
    refine s_assign hE goes_none (by decide) rfl ?_; intro a hE
    refine c_fin ?_
    have hr := Option.some.inj hF
    subst hr
    have hM := M.fst (l := []) hM
    exact wp_ret (r_then (k_ret1 hE rfl (res_tmp hE rfl) ⟨_, rfl, rfl, hM.kept⟩))
  · intro hb5
    have hF := ite_f hF hb5
    refine wp_skip ?_
    refine c_nx ?_
    refine wp_seq ?_
    refine c_region ?_
    refine s_fieldAddr hE goes_none (by decide) rfl (fd81_1) ?_; intro a hE
    refine s_load (v := v0_1) hE goes_none (by decide) rfl ty29 rfl (At.cat (pre := [[(vB p0.Place)]]) (seg := [v0_1]) (post := []) (hM.rawAt (pre := [_])) (cl1 (n := 1) (m := 0) rfl cl0)) ?_; intro a hE
    refine s_fieldAddr hE goes_none (by decide) rfl (fd81_1) ?_; intro a hE
    refine s_load (v := v1_1) hE goes_none (by decide) rfl ty29 rfl (At.cat (pre := [[(vB p1.Place)]]) (seg := [v1_1]) (post := []) (hM.rawAt (pre := [])) (cl1 (n := 1) (m := 0) rfl cl0)) ?_; intro a hE
    obtain ⟨r6, e7, hF⟩ := bind_some hF
    refine s_call (vs := [v0_1, v1_1]) hE goes_none (by decide) rfl cb21 (c_laws_eqByteS _ p0.Data v0_1 (hM.rdo hv0_1) p1.Data v1_1 (hM.rdo hv1_1) r6 e7) ?_
    rintro v w a ⟨rfl, hK⟩ hE
    have hM := hM.keep hK
    refine s_not hE goes_none (by decide) rfl ?_; intro a hE
    refine c_fin ?_
    refine c_cond hE rfl ?_ ?_
    · intro hb8
      have hF := ite_t hF hb8
      refine c_region ?_
      refine s_assign hE goes_none (by decide) rfl ?_; intro a hE
      refine c_fin ?_
      have hr := Option.some.inj hF
      subst hr
      have hM := M.fst (l := []) hM
      exact wp_ret (r_then (k_ret1 hE rfl (res_tmp hE rfl) ⟨_, rfl, rfl, hM.kept⟩))
    · intro hb8
      have hF := ite_f hF hb8
      refine wp_skip ?_
      refine c_nx ?_
      refine c_region ?_
      refine s_assign hE goes_none (by decide) rfl ?_; intro a hE
      refine c_fin ?_
      have hr := Option.some.inj hF
      subst hr
      have hM := M.fst (l := []) hM
      exact wp_ret (k_ret1 hE rfl (res_tmp hE rfl) ⟨_, rfl, rfl, hM.kept⟩)
noncomputable def L0_laws_eqShareS (p0 : (List GShare)) (p1 : (List GShare)) (s6 : Int) : Option (Fl Int (Fl Unit Bool)) :=
  if (decide (s6 < (p0.length : Int))) = true then (((idx p0 s6).bind fun (x15 : GShare) => (idx p1 s6).bind fun (x23 : GShare) => (F_laws_eqShare x15 x23).bind fun (r31 : Bool) => some (!r31) : Option (Bool)).bind fun (j11 : Bool) => if j11 = true then (some (Fl.ex (Fl.ex false))) else (some (Fl.nx (wr (s6 + 1))))) else (some (Fl.ex (Fl.nx ())))
noncomputable def F_laws_eqShareS (p0 : (List GShare)) (p1 : (List GShare)) : Option (Bool) :=
  if ((p0.length : Int) != (p1.length : Int)) = true then (some false) else ((iter (L0_laws_eqShareS p0 p1) 0 : Option (Fl Unit Bool)).bind fun (j2 : Fl Unit Bool) => j2.el (fun (s5 : Unit) => some true) (fun r => some r))
set_option maxRecDepth 20000 in
set_option maxHeartbeats 400000 in
theorem c_laws_eqShareS (w0 : World) (p0 : (List GShare)) (v0_1 : Value) (hv0_1 : Ro w0 p0 [v0_1]) (p1 : (List GShare)) (v1_1 : Value) (hv1_1 : Ro w0 p1 [v1_1]) (r : Bool) (hF : F_laws_eqShareS p0 p1 = some r) :
    Calls Try.prog 17 [v0_1, v1_1].toArray w0 (fun en w' => ∃ v, en = .returned v ∧ (v = (vT r) ∧ Kept (Old w0) w0 w')) := by
  refine c_enter (n := 27) Try.func17 rfl rfl (Nat.le_of_ble_eq_true rfl) rfl ?_
  intro a hE
  have hM := M.start w0
  unfold F_laws_eqShareS at hF
  refine c_region ?_
  refine s_assign hE goes_none (by decide) rfl ?_; intro a hE
  refine c_fin ?_
  refine wp_seq ?_
  refine c_region ?_
  refine s_move hE goes_none (by decide) rfl ?_; intro a hE
  refine s_len hE goes_none (by decide) rfl Try.underlying25 (hM.rd hv0_1) ?_; intro a hE
  refine s_move hE goes_none (by decide) rfl ?_; intro a hE
  refine s_len hE goes_none (by decide) rfl Try.underlying25 (hM.rd hv1_1) ?_; intro a hE
  refine s_int hE goes_none (by decide) rfl rfl rfl ?_; intro a hE
  refine c_fin ?_
  refine c_cond hE rfl ?_ ?_
  · intro hb1
    have hF := ite_t hF hb1
    refine c_region ?_
    refine s_assign hE goes_none (by decide) rfl ?_; intro a hE
    refine c_fin ?_
    have hr := Option.some.inj hF
    subst hr
    exact wp_ret (r_then (k_ret1 hE rfl (res_tmp hE rfl) ⟨_, rfl, rfl, hM.kept⟩))
  · intro hb1
    have hF := ite_f hF hb1
    refine wp_skip ?_
    refine c_nx ?_
    refine wp_seq ?_
    refine c_region ?_
    refine s_assign hE goes_none (by decide) rfl ?_; intro a hE
    refine c_fin ?_
    obtain ⟨j2, hl3, hF4⟩ := bind_some hF
    refine c_cut (fun a w => ∃ s5 : Unit, j2 = Fl.nx s5 ∧ Env 27 a [] ∧ M (Old w0) w0 w []) ?_ ?_
    · skip
      refine wp_block ?_
      refine c_loop (fun (s6 : Int) a w => Env 27 a [(0, v0_1), (1, v1_1), (5, (vI s6))] ∧ M (Old w0) w0 w []) hl3 ⟨hE.sub ⟨rfl, rfl, rfl, trivial⟩, hM⟩ ?_
      rintro s6 a w ⟨hE, hM⟩ o9 hs7 hx8
      unfold L0_laws_eqShareS at hs7
      refine wp_seq ?_
      refine c_region ?_
      refine s_move hE goes_none (by decide) rfl ?_; intro a hE
      refine s_move hE goes_none (by decide) rfl ?_; intro a hE
      refine s_len hE goes_none (by decide) rfl Try.underlying25 (hM.rd hv0_1) ?_; intro a hE
      refine s_int hE goes_none (by decide) rfl rfl rfl ?_; intro a hE
      refine c_fin ?_
      refine c_cond hE rfl ?_ ?_
      · intro hb10
        have hs7 := ite_t hs7 hb10
        refine wp_skip ?_
        refine c_nx ?_
        refine wp_seq ?_
        refine wp_block ?_
        obtain ⟨j11, hl12, hF13⟩ := bind_some hs7
        refine c_join (fun a w => Env 27 a [(0, v0_1), (1, v1_1), (5, (vI s6)), (26, (vT j11))] ∧ M (Old w0) w0 w []) ?_ ?_
        · skip
          obtain ⟨x15, e16, hl12⟩ := bind_some hl12
          have hi17 := idx_some e16
          obtain ⟨cs18, hs19, hA20⟩ := sl_atRo hv0_1 hi17.2 -- ^
          obtain ⟨u21, rfl, h22⟩ := un_GShare hs19 -- ^
          obtain ⟨x23, e24, hl12⟩ := bind_some hl12
          have hi25 := idx_some e24
          obtain ⟨cs26, hs27, hA28⟩ := sl_atRo hv1_1 hi25.2 -- ^
          obtain ⟨u29, rfl, h30⟩ := un_GShare hs27 -- ^
          obtain ⟨r31, e32, hl12⟩ := bind_some hl12
          refine c_draw (n := 27) (hd := [_, _, _, _, _, _, _, _, _, _]) (tl := []) hmix rfl rfl [17, 18, 19, 20, 21, 22, 23, 24, 25, 26] (by decide) (fun w => M (Old w0) w0 w []) (fun j => ([fun v _ => v = v0_1, fun v _ => v = (vI s6), fun v _ => v = (ptr (sb v0_1) (so v0_1 + (s6).toNat * 2)), fun v _ => v = (Value.agg (cat [[(vB x15.Place)], [u21]]).toArray), fun v _ => v = v1_1, fun v _ => v = (vI s6), fun v _ => v = (ptr (sb v1_1) (so v1_1 + (s6).toNat * 2)), fun v _ => v = (Value.agg (cat [[(vB x23.Place)], [u29]]).toArray), fun v _ => v = (vT r31), fun v _ => v = (vT (!r31))] : List (Value → World → Prop)).getD j (fun _ _ => True)) (fun _ _ h hk => h.keep hk) (gup (gupE (gupE (gupE (gupE (gupE (gupE (gupE (gupE (gupE (gupE gupN))))))))))) hE hM.drew (steps_of (steps_cons ?_ (steps_cons ?_ (steps_cons ?_ (steps_cons ?_ (steps_cons ?_ (steps_cons ?_ (steps_cons ?_ (steps_cons ?_ (steps_cons ?_ (steps_cons ?_ steps_nil))))))))))) ?_
          · intro a w ux14 hE hM hp
            refine s_move hE goes_none (by decide) rfl ?_; intro a hE
            exact ⟨Kept.refl _ _, _, _, rfl, hE, rfl⟩
          · intro a w ux14 hE hM hp
            refine s_move hE goes_none (by decide) rfl ?_; intro a hE
            exact ⟨Kept.refl _ _, _, _, rfl, hE, rfl⟩
          · intro a w ux14 hE hM hp
            have f0 : ux14 0 = v0_1 := hp 0 _ rfl rfl
            have f1 : ux14 1 = (vI s6) := hp 1 _ rfl rfl
            refine s_indexS hE goes_none (by decide) (lk rfl f0) (lk rfl f1) Try.underlying25 ty81 (hM.rd hv0_1) hi17.1 ?_; intro a hE
            exact ⟨Kept.refl _ _, _, _, rfl, hE, rfl⟩
          · intro a w ux14 hE hM hp
            have f2 : ux14 2 = (ptr (sb v0_1) (so v0_1 + (s6).toNat * 2)) := hp 0 _ rfl rfl
            refine s_loadA (cs := cat [[(vB x15.Place)], [u21]]) hE goes_none (by decide) (lk rfl f2) ty81 rfl (hM.atk hA20 (sl_blk hv0_1 hi17.2)) (cat_len (cl1 (n := 1) (m := 1) rfl (cl1 (n := 1) (m := 0) rfl cl0))) ?_; intro a hE
            exact ⟨Kept.refl _ _, _, _, rfl, hE, rfl⟩
          · intro a w ux14 hE hM hp
            refine s_move hE goes_none (by decide) rfl ?_; intro a hE
            exact ⟨Kept.refl _ _, _, _, rfl, hE, rfl⟩
          · intro a w ux14 hE hM hp
            refine s_move hE goes_none (by decide) rfl ?_; intro a hE
            exact ⟨Kept.refl _ _, _, _, rfl, hE, rfl⟩
          · intro a w ux14 hE hM hp
            have f4 : ux14 4 = v1_1 := hp 0 _ rfl rfl
            have f5 : ux14 5 = (vI s6) := hp 1 _ rfl rfl
            refine s_indexS hE goes_none (by decide) (lk rfl f4) (lk rfl f5) Try.underlying25 ty81 (hM.rd hv1_1) hi25.1 ?_; intro a hE
            exact ⟨Kept.refl _ _, _, _, rfl, hE, rfl⟩
          · intro a w ux14 hE hM hp
            have f6 : ux14 6 = (ptr (sb v1_1) (so v1_1 + (s6).toNat * 2)) := hp 0 _ rfl rfl
            refine s_loadA (cs := cat [[(vB x23.Place)], [u29]]) hE goes_none (by decide) (lk rfl f6) ty81 rfl (hM.atk hA28 (sl_blk hv1_1 hi25.2)) (cat_len (cl1 (n := 1) (m := 1) rfl (cl1 (n := 1) (m := 0) rfl cl0))) ?_; intro a hE
            exact ⟨Kept.refl _ _, _, _, rfl, hE, rfl⟩
          · intro a w ux14 hE hM hp
            have f3 : ux14 3 = (Value.agg (cat [[(vB x15.Place)], [u21]]).toArray) := hp 0 _ rfl rfl
            have f7 : ux14 7 = (Value.agg (cat [[(vB x23.Place)], [u29]]).toArray) := hp 1 _ rfl rfl
            refine s_call (vs := [(Value.agg (cat [[(vB x15.Place)], [u21]]).toArray), (Value.agg (cat [[(vB x23.Place)], [u29]]).toArray)]) hE goes_none (by decide) (evs_of (evsC (lk rfl f3) (evsC (lk rfl f7) evsN))) cb64 (c_laws_eqShare _ x15 u21 (hM.rdo h22) x23 u29 (hM.rdo h30) r31 e32) ?_
            rintro v w a ⟨rfl, hK⟩ hE
            exact ⟨hK, _, _, rfl, hE, rfl⟩
          · intro a w ux14 hE hM hp
            have f8 : ux14 8 = (vT r31) := hp 0 _ rfl rfl
            refine s_not hE goes_none (by decide) (lk rfl f8) ?_; intro a hE
            exact ⟨Kept.refl _ _, _, _, rfl, hE, rfl⟩
          · intro a w ux14 hE hM hg
            have f0 : ux14 0 = v0_1 := hg 0 (by decide)
            have f1 : ux14 1 = (vI s6) := hg 1 (by decide)
            have f2 : ux14 2 = (ptr (sb v0_1) (so v0_1 + (s6).toNat * 2)) := hg 2 (by decide)
            have f3 : ux14 3 = (Value.agg (cat [[(vB x15.Place)], [u21]]).toArray) := hg 3 (by decide)
            have f4 : ux14 4 = v1_1 := hg 4 (by decide)
            have f5 : ux14 5 = (vI s6) := hg 5 (by decide)
            have f6 : ux14 6 = (ptr (sb v1_1) (so v1_1 + (s6).toNat * 2)) := hg 6 (by decide)
            have f7 : ux14 7 = (Value.agg (cat [[(vB x23.Place)], [u29]]).toArray) := hg 7 (by decide)
            have f8 : ux14 8 = (vT r31) := hg 8 (by decide)
            have f9 : ux14 9 = (vT (!r31)) := hg 9 (by decide)
            have hE := hE.sub (e' := [(17, v0_1), (18, (vI s6)), (19, (ptr (sb v0_1) (so v0_1 + (s6).toNat * 2))), (20, (Value.agg (cat [[(vB x15.Place)], [u21]]).toArray)), (21, v1_1), (22, (vI s6)), (23, (ptr (sb v1_1) (so v1_1 + (s6).toNat * 2))), (24, (Value.agg (cat [[(vB x23.Place)], [u29]]).toArray)), (25, (vT r31)), (26, (vT (!r31))), (0, v0_1), (1, v1_1), (5, (vI s6)), (11, (vI s6)), (12, v0_1), (13, (vI (p0.length : Int))), (14, (vT (decide (s6 < (p0.length : Int)))))]) ⟨lk rfl f0, lk rfl f1, lk rfl f2, lk rfl f3, lk rfl f4, lk rfl f5, lk rfl f6, lk rfl f7, lk rfl f8, lk rfl f9, rfl, rfl, rfl, rfl, rfl, rfl, rfl, trivial⟩
            refine c_fin0 ?_
            have ht33 := Option.some.inj hl12
            subst ht33
            refine c_mid ?_
            exact ⟨hE.sub ⟨rfl, rfl, rfl, rfl, trivial⟩, hM⟩
        · skip
          rintro a w ⟨hE, hM⟩
          refine c_cond hE rfl ?_ ?_
          · intro hb34
            have hF13 := ite_t hF13 hb34
            refine c_region ?_
            refine s_assign hE goes_none (by decide) rfl ?_; intro a hE
            refine c_fin ?_
            have ht35 := hx8 _ (Option.some.inj hF13).symm
            subst ht35
            have hr := Option.some.inj hF4
            subst hr
            exact wp_ret (r_inb (r_then (r_then (r_inb (r_then (r_then (k_ret1 hE rfl (res_tmp hE rfl) ⟨_, rfl, rfl, hM.kept⟩)))))))
          · intro hb34
            have hF13 := ite_f hF13 hb34
            refine wp_skip ?_
            refine c_nb ?_
            refine c_nx ?_
            refine wp_region_lit ?_
            refine s_move hE goes_none (by decide) rfl ?_; intro a hE
            refine s_int hE goes_none (by decide) rfl rfl rfl ?_; intro a hE
            refine s_assign hE goes_none (by decide) rfl ?_; intro a hE
            refine c_fin0 ?_
            refine c_mid ?_
            exact ⟨_, (Option.some.inj hF13).symm, hE.sub ⟨rfl, rfl, rfl, trivial⟩, hM⟩
      · intro hb10
        have hs7 := ite_f hs7 hb10
        refine wp_exit (e_then (e_then (e_eq ?_)))
        have ht36 := hx8 _ (Option.some.inj hs7).symm
        subst ht36
        refine c_mid ?_
        exact ⟨(), rfl, hE.sub trivial, hM⟩
    · skip
      rintro a w ⟨s5, ht, hE, hM⟩
      subst ht
      refine c_nx ?_
      refine c_region ?_
      refine s_assign hE goes_none (by decide) rfl ?_; intro a hE
      refine c_fin ?_
      have hr := Option.some.inj hF4
      subst hr
      exact wp_ret (k_ret1 hE rfl (res_tmp hE rfl) ⟨_, rfl, rfl, hM.kept⟩)
noncomputable def L0_laws_markByteS (s4 : (List UInt8) × Int × Int) : Option (Fl ((List UInt8) × Int × Int) ((List UInt8) × Int)) :=
  if (decide (s4.2.2 < (s4.1.length : Int))) = true then ((idx s4.1 s4.2.2).bind fun (x9 : UInt8) => some (Fl.nx ((s4.1.set (s4.2.2).toNat (byteI s4.2.1)), wr (s4.2.1 + 1), wr (s4.2.2 + 1)))) else (some (Fl.ex (s4.1, s4.2.1)))
noncomputable def F_laws_markByteS (p0 : (List UInt8)) (p1 : Int) : Option ((List UInt8) × Int) :=
  (iter (L0_laws_markByteS) (p0, p1, 0) : Option ((List UInt8) × Int)).bind fun (j1 : (List UInt8) × Int) => some (j1.1, j1.2)
set_option maxRecDepth 20000 in
set_option maxHeartbeats 400000 in
theorem c_laws_markByteS (St : Nat → Prop) (W w0 : World) (its : List Item) (p0 : (List UInt8)) (v0_1 : Value) (p1 : Int) (hM : M St W w0 (own NoB (p0 : (List UInt8)) [v0_1] :: its)) (r : (List UInt8) × Int) (hF : F_laws_markByteS p0 p1 = some r) :
    Calls Try.prog 22 [v0_1, (vI p1)].toArray w0 (fun en w' => ∃ v, en = .returned v ∧ (v = (vI r.2) ∧ M St W w' (own NoB (r.1 : (List UInt8)) [v0_1] :: its))) := by
  refine c_enter (n := 20) Try.func22 rfl rfl (Nat.le_of_ble_eq_true rfl) rfl ?_
  intro a hE
  unfold F_laws_markByteS at hF
  refine c_region ?_
  refine s_assign hE goes_none (by decide) rfl ?_; intro a hE
  refine c_fin ?_
  refine wp_seq ?_
  refine c_region ?_
  refine s_assign hE goes_none (by decide) rfl ?_; intro a hE
  refine c_fin ?_
  obtain ⟨j1, hl2, hF3⟩ := bind_some hF
  refine c_cut (fun a w => Env 20 a [(0, v0_1), (1, (vI j1.2))] ∧ M St W w (own NoB (j1.1 : (List UInt8)) [v0_1] :: its)) ?_ ?_
  · skip
    refine wp_block ?_
    refine c_loop (fun (s4 : (List UInt8) × Int × Int) a w => Env 20 a [(0, v0_1), (1, (vI s4.2.1)), (5, (vI s4.2.2))] ∧ M St W w (own NoB (s4.1 : (List UInt8)) [v0_1] :: its)) hl2 ⟨hE.sub ⟨rfl, rfl, rfl, trivial⟩, hM⟩ ?_
    rintro s4 a w ⟨hE, hM⟩ o7 hs5 hx6
    unfold L0_laws_markByteS at hs5
    refine wp_seq ?_
    refine c_region ?_
    refine s_move hE goes_none (by decide) rfl ?_; intro a hE
    refine s_move hE goes_none (by decide) rfl ?_; intro a hE
    refine s_len hE goes_none (by decide) rfl Try.underlying29 (hM.ro (pre := []) (fun b hb => hb.elim)) ?_; intro a hE
    refine s_int hE goes_none (by decide) rfl rfl rfl ?_; intro a hE
    refine c_fin ?_
    refine c_cond hE rfl ?_ ?_
    · intro hb8
      have hs5 := ite_t hs5 hb8
      refine wp_skip ?_
      refine c_nx ?_
      refine wp_seq ?_
      refine wp_block ?_
      refine c_region ?_
      refine s_move hE goes_none (by decide) rfl ?_; intro a hE
      refine s_move hE goes_none (by decide) rfl ?_; intro a hE
      refine s_move hE goes_none (by decide) rfl ?_; intro a hE
      refine s_conv hE goes_none (by decide) rfl Try.underlying3 Try.underlying5 ?_; intro a hE
      rw [byteI_val] at hE
      obtain ⟨x9, e10, hs5⟩ := bind_some hs5
      have hi11 := idx_some e10
      refine s_indexS hE goes_none (by decide) rfl rfl Try.underlying29 ty5 (hM.ro (pre := []) (fun b hb => hb.elim)) hi11.1 ?_; intro a hE
      have hM := hM.toOsl (List.getElem?_eq_some_iff.1 hi11.2).1
      refine s_storeS (i := (s4.2.2).toNat) (k0 := 0) (seg := [(vB (byteI s4.2.1))]) (xo := x9) (xn := byteI s4.2.1) hE hM goes_none rfl rfl rfl ty5 rfl (Flat.cell (byteI s4.2.1 : UInt8)) hi11.2 (fit_num (m := 1) rfl (by decide)) (splice_all (Eq.trans rfl (Eq.symm rfl))) ?_; intro w a hM hE
      have hM := hM.toOwn noB
      refine c_fin ?_
      refine wp_region_lit ?_
      refine s_move hE goes_none (by decide) rfl ?_; intro a hE
      refine s_int hE goes_none (by decide) rfl rfl rfl ?_; intro a hE
      refine s_assign hE goes_none (by decide) rfl ?_; intro a hE
      refine c_fin0 ?_
      refine c_nb ?_
      refine c_nx ?_
      refine wp_region_lit ?_
      refine s_move hE goes_none (by decide) rfl ?_; intro a hE
      refine s_int hE goes_none (by decide) rfl rfl rfl ?_; intro a hE
      refine s_assign hE goes_none (by decide) rfl ?_; intro a hE
      refine c_fin0 ?_
      refine c_mid ?_
      exact ⟨_, (Option.some.inj hs5).symm, hE.sub ⟨rfl, rfl, rfl, trivial⟩, hM⟩
    · intro hb8
      have hs5 := ite_f hs5 hb8
      refine wp_exit (e_then (e_then (e_eq ?_)))
      have ht12 := hx6 _ (Option.some.inj hs5).symm
      subst ht12
      refine c_mid ?_
      exact ⟨hE.sub ⟨rfl, rfl, trivial⟩, hM⟩
  · skip
    rintro a w ⟨hE, hM⟩
    refine c_nx ?_
    refine c_region ?_
    refine s_move hE goes_none (by decide) rfl ?_; intro a hE
    refine s_assign hE goes_none (by decide) rfl ?_; intro a hE
    refine c_fin ?_
    have hr := Option.some.inj hF3
    subst hr
    exact wp_ret (k_ret1 hE rfl (res_tmp hE rfl) ⟨_, rfl, rfl, hM⟩)
noncomputable def L0_laws_markShareS (s4 : (List GShare) × Int × Int) : Option (Fl ((List GShare) × Int × Int) ((List GShare) × Int)) :=
  if (decide (s4.2.2 < (s4.1.length : Int))) = true then ((idx s4.1 s4.2.2).bind fun (x9 : GShare) => (idx (s4.1.set (s4.2.2).toNat (⟨byteI s4.2.1, x9.Data⟩ : GShare)) s4.2.2).bind fun (x12 : GShare) => (F_laws_markByteS x12.Data (wr (s4.2.1 + 1))).bind fun (r19 : (List UInt8) × Int) => some (Fl.nx (((s4.1.set (s4.2.2).toNat (⟨byteI s4.2.1, x9.Data⟩ : GShare)).set (s4.2.2).toNat (⟨x12.Place, r19.1⟩ : GShare)), r19.2, wr (s4.2.2 + 1)))) else (some (Fl.ex (s4.1, s4.2.1)))
noncomputable def F_laws_markShareS (p0 : (List GShare)) (p1 : Int) : Option ((List GShare) × Int) :=
  (iter (L0_laws_markShareS) (p0, p1, 0) : Option ((List GShare) × Int)).bind fun (j1 : (List GShare) × Int) => some (j1.1, j1.2)
set_option maxRecDepth 20000 in
set_option maxHeartbeats 400000 in
theorem c_laws_markShareS (St : Nat → Prop) (W w0 : World) (its : List Item) (p0 : (List GShare)) (v0_1 : Value) (p1 : Int) (hM : M St W w0 (own NoB (p0 : (List GShare)) [v0_1] :: its)) (r : (List GShare) × Int) (hF : F_laws_markShareS p0 p1 = some r) :
    Calls Try.prog 35 [v0_1, (vI p1)].toArray w0 (fun en w' => ∃ v, en = .returned v ∧ (v = (vI r.2) ∧ M St W w' (own NoB (r.1 : (List GShare)) [v0_1] :: its))) := by
  refine c_enter (n := 28) Try.func35 rfl rfl (Nat.le_of_ble_eq_true rfl) rfl ?_
  intro a hE
  unfold F_laws_markShareS at hF
  refine c_region ?_
  refine s_assign hE goes_none (by decide) rfl ?_; intro a hE
  refine c_fin ?_
  refine wp_seq ?_
  refine c_region ?_
  refine s_assign hE goes_none (by decide) rfl ?_; intro a hE
  refine c_fin ?_
  obtain ⟨j1, hl2, hF3⟩ := bind_some hF
  refine c_cut (fun a w => Env 28 a [(0, v0_1), (1, (vI j1.2))] ∧ M St W w (own NoB (j1.1 : (List GShare)) [v0_1] :: its)) ?_ ?_
  · skip
    refine wp_block ?_
    refine c_loop (fun (s4 : (List GShare) × Int × Int) a w => Env 28 a [(0, v0_1), (1, (vI s4.2.1)), (5, (vI s4.2.2))] ∧ M St W w (own NoB (s4.1 : (List GShare)) [v0_1] :: its)) hl2 ⟨hE.sub ⟨rfl, rfl, rfl, trivial⟩, hM⟩ ?_
    rintro s4 a w ⟨hE, hM⟩ o7 hs5 hx6
    unfold L0_laws_markShareS at hs5
    refine wp_seq ?_
    refine c_region ?_
    refine s_move hE goes_none (by decide) rfl ?_; intro a hE
    refine s_move hE goes_none (by decide) rfl ?_; intro a hE
    refine s_len hE goes_none (by decide) rfl Try.underlying25 (hM.ro (pre := []) (fun b hb => hb.elim)) ?_; intro a hE
    refine s_int hE goes_none (by decide) rfl rfl rfl ?_; intro a hE
    refine c_fin ?_
    refine c_cond hE rfl ?_ ?_
    · intro hb8
      have hs5 := ite_t hs5 hb8
      refine wp_skip ?_
      refine c_nx ?_
      refine wp_seq ?_
      refine wp_block ?_
      refine c_region ?_
      refine s_move hE goes_none (by decide) rfl ?_; intro a hE
      refine s_move hE goes_none (by decide) rfl ?_; intro a hE
      refine s_move hE goes_none (by decide) rfl ?_; intro a hE
      refine s_conv hE goes_none (by decide) rfl Try.underlying3 Try.underlying5 ?_; intro a hE
      rw [byteI_val] at hE
      obtain ⟨x9, e10, hs5⟩ := bind_some hs5
      have hi11 := idx_some e10
      refine s_indexS hE goes_none (by decide) rfl rfl Try.underlying25 ty81 (hM.ro (pre := []) (fun b hb => hb.elim)) hi11.1 ?_; intro a hE
      refine s_fieldAddr hE goes_none (by decide) rfl (fd81_0) ?_; intro a hE
      have hM := hM.toOsl (List.getElem?_eq_some_iff.1 hi11.2).1
      refine s_storeRF (i := (s4.2.2).toNat) (k0 := 0 + 0) (seg := [(vB (byteI s4.2.1))]) (xo := x9) (xn := (⟨byteI s4.2.1, x9.Data⟩ : GShare)) hE hM noB goes_none rfl rfl rfl ty5 rfl (Flat.cell (byteI s4.2.1 : UInt8)) hi11.2 (fit_num (m := 1) rfl (by decide)) (fun S w cs f h => by obtain ⟨y1, _, rfl, rfl, s1⟩ := unf_GShare h; exact sat_cast (splice_cat (pre := []) (seg := [(vB x9.Place)]) (post := [[y1]]) cl0 (Eq.trans rfl (Eq.symm rfl))) (pk_GShare s1 (by simp))) ?_; intro w a hM hE
      have hM := hM.toOwn noB
      refine c_fin ?_
      refine c_region ?_
      refine s_move hE goes_none (by decide) rfl ?_; intro a hE
      refine s_int hE goes_none (by decide) rfl rfl rfl ?_; intro a hE
      refine s_assign hE goes_none (by decide) rfl ?_; intro a hE
      refine c_fin ?_
      refine wp_region_lit ?_
      refine s_move hE goes_none (by decide) rfl ?_; intro a hE
      refine s_move hE goes_none (by decide) rfl ?_; intro a hE
      obtain ⟨x12, e13, hs5⟩ := bind_some hs5
      have hi14 := idx_some e13
      refine s_indexS hE goes_none (by decide) rfl rfl Try.underlying25 ty81 (hM.ro (pre := []) (fun b hb => hb.elim)) hi14.1 ?_; intro a hE
      refine s_fieldAddr hE goes_none (by decide) rfl (fd81_1) ?_; intro a hE
      have hM := (hM.toOsl (List.getElem?_eq_some_iff.1 hi14.2).1).open1 noB hi14.2
      obtain ⟨cs15, hM, hA16⟩ := hM
      obtain ⟨_, hx, _⟩ := hM.head
      obtain ⟨u17, _, rfl, _, _⟩ := unf_GShare hx
      have hM := hM.unpackL (m := [own NoB (x12.Data : (List UInt8)) [u17]]) (fun fp h => by obtain ⟨_, rfl, s1⟩ := unc_GShare h; exact SepR.one (own_loc noB) s1)
      simp only [List.cons_append, List.nil_append] at hM
      refine s_load (v := u17) hE goes_none (by decide) rfl ty29 rfl (At.cat (pre := [[(vB x12.Place)]]) (seg := [u17]) (post := []) hA16 (cl1 (n := 1) (m := 0) rfl cl0)) ?_; intro a hE
      refine s_move hE goes_none (by decide) rfl ?_; intro a hE
      obtain ⟨r19, e20, hs5⟩ := bind_some hs5
      refine s_call (vs := [u17, (vI (wr (s4.2.1 + 1)))]) hE goes_none (by decide) rfl cb22 (c_laws_markByteS _ _ _ _ x12.Data u17 (wr (s4.2.1 + 1)) hM r19 e20) ?_
      rintro v w a ⟨rfl, hM⟩ hE
      have hM := hM.pull (pre := [_])
      have hM := hM.pull (pre := [_])
      have hM := hM.packL (m := [own NoB (r19.1 : (List UInt8)) [u17]]) (it := own NoB (⟨x12.Place, r19.1⟩ : GShare) (cat [[(vB x12.Place)], [u17]])) (own_loc noB) (fun fp h => by obtain ⟨_, _, rfl, _, s1, rfl⟩ := h; exact pk_GShare s1 (by simp))
      have hM := (hM.close1 noB).toOwn noB
      refine s_assign hE goes_none (by decide) rfl ?_; intro a hE
      refine c_fin0 ?_
      refine c_nb ?_
      refine c_nx ?_
      refine wp_region_lit ?_
      refine s_move hE goes_none (by decide) rfl ?_; intro a hE
      refine s_int hE goes_none (by decide) rfl rfl rfl ?_; intro a hE
      refine s_assign hE goes_none (by decide) rfl ?_; intro a hE
      refine c_fin0 ?_
      refine c_mid ?_
      exact ⟨_, (Option.some.inj hs5).symm, hE.sub ⟨rfl, rfl, rfl, trivial⟩, hM⟩
    · intro hb8
      have hs5 := ite_f hs5 hb8
      refine wp_exit (e_then (e_then (e_eq ?_)))
      have ht21 := hx6 _ (Option.some.inj hs5).symm
      subst ht21
      refine c_mid ?_
      exact ⟨hE.sub ⟨rfl, rfl, trivial⟩, hM⟩
  · skip
    rintro a w ⟨hE, hM⟩
    refine c_nx ?_
    refine c_region ?_
    refine s_move hE goes_none (by decide) rfl ?_; intro a hE
    refine s_assign hE goes_none (by decide) rfl ?_; intro a hE
    refine c_fin ?_
    have hr := Option.some.inj hF3
    subst hr
    exact wp_ret (k_ret1 hE rfl (res_tmp hE rfl) ⟨_, rfl, rfl, hM⟩)
noncomputable def L0_laws_heldByteS (p0 : (List UInt8)) (s5 : Int × Int) : Option (Fl (Int × Int) (Fl Int Int)) :=
  if (decide (s5.2 < (p0.length : Int))) = true then ((idx p0 s5.2).bind fun (x10 : UInt8) => if (x10 != (byteI s5.1)) = true then (some (Fl.ex (Fl.ex (-1)))) else (some (Fl.nx (wr (s5.1 + 1), wr (s5.2 + 1))))) else (some (Fl.ex (Fl.nx s5.1)))
noncomputable def F_laws_heldByteS (p0 : (List UInt8)) (p1 : Int) : Option (Int) :=
  (iter (L0_laws_heldByteS p0) (p1, 0) : Option (Fl Int Int)).bind fun (j1 : Fl Int Int) => j1.el (fun (s4 : Int) => some s4) (fun r => some r)
set_option maxRecDepth 20000 in
set_option maxHeartbeats 400000 in
theorem c_laws_heldByteS (w0 : World) (p0 : (List UInt8)) (v0_1 : Value) (hv0_1 : Ro w0 p0 [v0_1]) (p1 : Int) (r : Int) (hF : F_laws_heldByteS p0 p1 = some r) :
    Calls Try.prog 23 [v0_1, (vI p1)].toArray w0 (fun en w' => ∃ v, en = .returned v ∧ (v = (vI r) ∧ Kept (Old w0) w0 w')) := by
  refine c_enter (n := 22) Try.func23 rfl rfl (Nat.le_of_ble_eq_true rfl) rfl ?_
  intro a hE
  have hM := M.start w0
  unfold F_laws_heldByteS at hF
  refine c_region ?_
  refine s_assign hE goes_none (by decide) rfl ?_; intro a hE
  refine c_fin ?_
  refine wp_seq ?_
  refine c_region ?_
  refine s_assign hE goes_none (by decide) rfl ?_; intro a hE
  refine c_fin ?_
  obtain ⟨j1, hl2, hF3⟩ := bind_some hF
  refine c_cut (fun a w => ∃ s4 : Int, j1 = Fl.nx s4 ∧ Env 22 a [(1, (vI s4))] ∧ M (Old w0) w0 w []) ?_ ?_
  · skip
    refine wp_block ?_
    refine c_loop (fun (s5 : Int × Int) a w => Env 22 a [(0, v0_1), (1, (vI s5.1)), (5, (vI s5.2))] ∧ M (Old w0) w0 w []) hl2 ⟨hE.sub ⟨rfl, rfl, rfl, trivial⟩, hM⟩ ?_
    rintro s5 a w ⟨hE, hM⟩ o8 hs6 hx7
    unfold L0_laws_heldByteS at hs6
    refine wp_seq ?_
    refine c_region ?_
    refine s_move hE goes_none (by decide) rfl ?_; intro a hE
    refine s_move hE goes_none (by decide) rfl ?_; intro a hE
    refine s_len hE goes_none (by decide) rfl Try.underlying29 (hM.rd hv0_1) ?_; intro a hE
    refine s_int hE goes_none (by decide) rfl rfl rfl ?_; intro a hE
    refine c_fin ?_
    refine c_cond hE rfl ?_ ?_
    · intro hb9
      have hs6 := ite_t hs6 hb9
      refine wp_skip ?_
      refine c_nx ?_
      refine wp_seq ?_
      refine wp_block ?_
      refine wp_seq ?_
      refine c_region ?_
      refine s_move hE goes_none (by decide) rfl ?_; intro a hE
      refine s_move hE goes_none (by decide) rfl ?_; intro a hE
      obtain ⟨x10, e11, hs6⟩ := bind_some hs6
      have hi12 := idx_some e11
      refine s_indexS hE goes_none (by decide) rfl rfl Try.underlying29 ty5 (hM.rd hv0_1) hi12.1 ?_; intro a hE
      refine s_load (v := (vB x10)) hE goes_none (by decide) rfl ty5 rfl (sl_atF (hM.rd hv0_1) hi12.2) ?_; intro a hE
      refine s_move hE goes_none (by decide) rfl ?_; intro a hE
      refine s_conv hE goes_none (by decide) rfl Try.underlying3 Try.underlying5 ?_; intro a hE
      rw [byteI_val] at hE
      refine s_int hE goes_none (by decide) rfl rfl (bB_neq x10 (byteI s5.1)) ?_; intro a hE
      refine c_fin ?_
      refine c_cond hE rfl ?_ ?_
      · intro hb13
        have hs6 := ite_t hs6 hb13
        refine c_region ?_
        refine s_assign hE goes_none (by decide) rfl ?_; intro a hE
        refine c_fin ?_
        have ht14 := hx7 _ (Option.some.inj hs6).symm
        subst ht14
        have hr := Option.some.inj hF3
        subst hr
        exact wp_ret (r_then (r_inb (r_then (r_then (r_inb (r_then (r_then (k_ret1 hE rfl (res_tmp hE rfl) ⟨_, rfl, rfl, hM.kept⟩))))))))
      · intro hb13
        have hs6 := ite_f hs6 hb13
        refine wp_skip ?_
        refine c_nx ?_
        refine wp_region_lit ?_
        refine s_move hE goes_none (by decide) rfl ?_; intro a hE
        refine s_int hE goes_none (by decide) rfl rfl rfl ?_; intro a hE
        refine s_assign hE goes_none (by decide) rfl ?_; intro a hE
        refine c_fin0 ?_
        refine c_nb ?_
        refine c_nx ?_
        refine wp_region_lit ?_
        refine s_move hE goes_none (by decide) rfl ?_; intro a hE
        refine s_int hE goes_none (by decide) rfl rfl rfl ?_; intro a hE
        refine s_assign hE goes_none (by decide) rfl ?_; intro a hE
        refine c_fin0 ?_
        refine c_mid ?_
        exact ⟨_, (Option.some.inj hs6).symm, hE.sub ⟨rfl, rfl, rfl, trivial⟩, hM⟩
    · intro hb9
      have hs6 := ite_f hs6 hb9
      refine wp_exit (e_then (e_then (e_eq ?_)))
      have ht15 := hx7 _ (Option.some.inj hs6).symm
      subst ht15
      refine c_mid ?_
      exact ⟨s5.1, rfl, hE.sub ⟨rfl, trivial⟩, hM⟩
  · skip
    rintro a w ⟨s4, ht, hE, hM⟩
    subst ht
    refine c_nx ?_
    refine c_region ?_
    refine s_move hE goes_none (by decide) rfl ?_; intro a hE
    refine s_assign hE goes_none (by decide) rfl ?_; intro a hE
    refine c_fin ?_
    have hr := Option.some.inj hF3
    subst hr
    exact wp_ret (k_ret1 hE rfl (res_tmp hE rfl) ⟨_, rfl, rfl, hM.kept⟩)
noncomputable def L0_laws_heldShareS (p0 : (List GShare)) (s5 : Int × Int) : Option (Fl (Int × Int) (Fl Int Int)) :=
  if (decide (s5.2 < (p0.length : Int))) = true then ((idx p0 s5.2).bind fun (x10 : GShare) => if (x10.Place != (byteI s5.1)) = true then (some (Fl.ex (Fl.ex (-1)))) else ((idx p0 s5.2).bind fun (x20 : GShare) => (F_laws_heldByteS x20.Data (wr (s5.1 + 1))).bind fun (r28 : Int) => if (decide (r28 < 0)) = true then (some (Fl.ex (Fl.ex (-1)))) else (some (Fl.nx (r28, wr (s5.2 + 1)))))) else (some (Fl.ex (Fl.nx s5.1)))
noncomputable def F_laws_heldShareS (p0 : (List GShare)) (p1 : Int) : Option (Int) :=
  (iter (L0_laws_heldShareS p0) (p1, 0) : Option (Fl Int Int)).bind fun (j1 : Fl Int Int) => j1.el (fun (s4 : Int) => some s4) (fun r => some r)
set_option maxRecDepth 20000 in
set_option maxHeartbeats 400000 in
theorem c_laws_heldShareS (w0 : World) (p0 : (List GShare)) (v0_1 : Value) (hv0_1 : Ro w0 p0 [v0_1]) (p1 : Int) (r : Int) (hF : F_laws_heldShareS p0 p1 = some r) :
    Calls Try.prog 36 [v0_1, (vI p1)].toArray w0 (fun en w' => ∃ v, en = .returned v ∧ (v = (vI r) ∧ Kept (Old w0) w0 w')) := by
  refine c_enter (n := 32) Try.func36 rfl rfl (Nat.le_of_ble_eq_true rfl) rfl ?_
  intro a hE
  have hM := M.start w0
  unfold F_laws_heldShareS at hF
  refine c_region ?_
  refine s_assign hE goes_none (by decide) rfl ?_; intro a hE
  refine c_fin ?_
  refine wp_seq ?_
  refine c_region ?_
  refine s_assign hE goes_none (by decide) rfl ?_; intro a hE
  refine c_fin ?_
  obtain ⟨j1, hl2, hF3⟩ := bind_some hF
  refine c_cut (fun a w => ∃ s4 : Int, j1 = Fl.nx s4 ∧ Env 32 a [(1, (vI s4))] ∧ M (Old w0) w0 w []) ?_ ?_
  · skip
    refine wp_block ?_
    refine c_loop (fun (s5 : Int × Int) a w => Env 32 a [(0, v0_1), (1, (vI s5.1)), (5, (vI s5.2))] ∧ M (Old w0) w0 w []) hl2 ⟨hE.sub ⟨rfl, rfl, rfl, trivial⟩, hM⟩ ?_
    rintro s5 a w ⟨hE, hM⟩ o8 hs6 hx7
    unfold L0_laws_heldShareS at hs6
    refine wp_seq ?_
    refine c_region ?_
    refine s_move hE goes_none (by decide) rfl ?_; intro a hE
    refine s_move hE goes_none (by decide) rfl ?_; intro a hE
    refine s_len hE goes_none (by decide) rfl Try.underlying25 (hM.rd hv0_1) ?_; intro a hE
    refine s_int hE goes_none (by decide) rfl rfl rfl ?_; intro a hE
    refine c_fin ?_
    refine c_cond hE rfl ?_ ?_
    · intro hb9
      have hs6 := ite_t hs6 hb9
      refine wp_skip ?_
      refine c_nx ?_
      refine wp_seq ?_
      refine wp_block ?_
      refine wp_seq ?_
      refine c_region ?_
      refine s_move hE goes_none (by decide) rfl ?_; intro a hE
      refine s_move hE goes_none (by decide) rfl ?_; intro a hE
      obtain ⟨x10, e11, hs6⟩ := bind_some hs6
      have hi12 := idx_some e11
      refine s_indexS hE goes_none (by decide) rfl rfl Try.underlying25 ty81 (hM.rd hv0_1) hi12.1 ?_; intro a hE
      refine s_fieldAddr hE goes_none (by decide) rfl (fd81_0) ?_; intro a hE
      obtain ⟨cs13, hs14, hA15⟩ := sl_atRo hv0_1 hi12.2 -- ^
      obtain ⟨u16, rfl, h17⟩ := un_GShare hs14 -- ^
      refine s_load (v := (vB x10.Place)) hE goes_none (by decide) rfl ty5 rfl (At.cat (pre := []) (seg := [(vB x10.Place)]) (post := [[u16]]) (hM.atk hA15 (sl_blk hv0_1 hi12.2)) cl0) ?_; intro a hE
      refine s_move hE goes_none (by decide) rfl ?_; intro a hE
      refine s_conv hE goes_none (by decide) rfl Try.underlying3 Try.underlying5 ?_; intro a hE
      rw [byteI_val] at hE
      refine s_int hE goes_none (by decide) rfl rfl (bB_neq x10.Place (byteI s5.1)) ?_; intro a hE
      refine c_fin ?_
      refine c_cond hE rfl ?_ ?_
      · intro hb18
        have hs6 := ite_t hs6 hb18
        refine c_region ?_
        refine s_assign hE goes_none (by decide) rfl ?_; intro a hE
        refine c_fin ?_
        have ht19 := hx7 _ (Option.some.inj hs6).symm
        subst ht19
        have hr := Option.some.inj hF3
        subst hr
        exact wp_ret (r_then (r_inb (r_then (r_then (r_inb (r_then (r_then (k_ret1 hE rfl (res_tmp hE rfl) ⟨_, rfl, rfl, hM.kept⟩))))))))
      · intro hb18
        have hs6 := ite_f hs6 hb18
        refine wp_skip ?_
        refine c_nx ?_
        refine c_region ?_
        refine s_move hE goes_none (by decide) rfl ?_; intro a hE
        refine s_int hE goes_none (by decide) rfl rfl rfl ?_; intro a hE
        refine s_assign hE goes_none (by decide) rfl ?_; intro a hE
        refine c_fin ?_
        refine c_region ?_
        refine s_move hE goes_none (by decide) rfl ?_; intro a hE
        refine s_move hE goes_none (by decide) rfl ?_; intro a hE
        obtain ⟨x20, e21, hs6⟩ := bind_some hs6
        have hi22 := idx_some e21
        refine s_indexS hE goes_none (by decide) rfl rfl Try.underlying25 ty81 (hM.rd hv0_1) hi22.1 ?_; intro a hE
        refine s_fieldAddr hE goes_none (by decide) rfl (fd81_1) ?_; intro a hE
        obtain ⟨cs23, hs24, hA25⟩ := sl_atRo hv0_1 hi22.2 -- ^
        obtain ⟨u26, rfl, h27⟩ := un_GShare hs24 -- ^
        refine s_load (v := u26) hE goes_none (by decide) rfl ty29 rfl (At.cat (pre := [[(vB x20.Place)]]) (seg := [u26]) (post := []) (hM.atk hA25 (sl_blk hv0_1 hi22.2)) (cl1 (n := 1) (m := 0) rfl cl0)) ?_; intro a hE
        refine s_move hE goes_none (by decide) rfl ?_; intro a hE
        obtain ⟨r28, e29, hs6⟩ := bind_some hs6
        refine s_call (vs := [u26, (vI (wr (s5.1 + 1)))]) hE goes_none (by decide) rfl cb23 (c_laws_heldByteS _ x20.Data u26 (hM.rdo h27) (wr (s5.1 + 1)) r28 e29) ?_
        rintro v w a ⟨rfl, hK⟩ hE
        have hM := hM.keep hK
        refine s_assign hE goes_none (by decide) rfl ?_; intro a hE
        refine c_fin ?_
        refine c_region ?_
        refine s_move hE goes_none (by decide) rfl ?_; intro a hE
        refine s_int hE goes_none (by decide) rfl rfl rfl ?_; intro a hE
        refine c_fin ?_
        refine c_cond hE rfl ?_ ?_
        · intro hb30
          have hs6 := ite_t hs6 hb30
          refine c_region ?_
          refine s_assign hE goes_none (by decide) rfl ?_; intro a hE
          refine c_fin ?_
          have ht31 := hx7 _ (Option.some.inj hs6).symm
          subst ht31
          have hr := Option.some.inj hF3
          subst hr
          exact wp_ret (r_inb (r_then (r_then (r_inb (r_then (r_then (k_ret1 hE rfl (res_tmp hE rfl) ⟨_, rfl, rfl, hM.kept⟩)))))))
        · intro hb30
          have hs6 := ite_f hs6 hb30
          refine wp_skip ?_
          refine c_nb ?_
          refine c_nx ?_
          refine wp_region_lit ?_
          refine s_move hE goes_none (by decide) rfl ?_; intro a hE
          refine s_int hE goes_none (by decide) rfl rfl rfl ?_; intro a hE
          refine s_assign hE goes_none (by decide) rfl ?_; intro a hE
          refine c_fin0 ?_
          refine c_mid ?_
          exact ⟨_, (Option.some.inj hs6).symm, hE.sub ⟨rfl, rfl, rfl, trivial⟩, hM⟩
    · intro hb9
      have hs6 := ite_f hs6 hb9
      refine wp_exit (e_then (e_then (e_eq ?_)))
      have ht32 := hx7 _ (Option.some.inj hs6).symm
      subst ht32
      refine c_mid ?_
      exact ⟨s5.1, rfl, hE.sub ⟨rfl, trivial⟩, hM⟩
  · skip
    rintro a w ⟨s4, ht, hE, hM⟩
    subst ht
    refine c_nx ?_
    refine c_region ?_
    refine s_move hE goes_none (by decide) rfl ?_; intro a hE
    refine s_assign hE goes_none (by decide) rfl ?_; intro a hE
    refine c_fin ?_
    have hr := Option.some.inj hF3
    subst hr
    exact wp_ret (k_ret1 hE rfl (res_tmp hE rfl) ⟨_, rfl, rfl, hM.kept⟩)
noncomputable def F_laws_FnExactAddShares (p0 : Int) (p1 : (List GShare)) (p2 : (List GShare)) : Option (Bool) :=
  (F_laws_szShareS p1 1048576).bind fun (r1 : Int) => if (decide (r1 < 0)) = true then (some true) else ((F_laws_szShareS p2 r1).bind fun (r4 : Int) => if (decide (r4 < 0)) = true then (some true) else ((F_laws_toShareS p1).bind fun (r7 : (List GShare)) => (F_laws_toShareS p2).bind fun (r10 : (List GShare)) => (F_spec_AddShares p0 r7 r10).bind fun (r13 : (List GShare) × Int) => (F_laws_toShareS p1).bind fun (r16 : (List GShare)) => (F_laws_toShareS p2).bind fun (r19 : (List GShare)) => (F_impl_AddShares p0 r16 r19).bind fun (r22 : (List GShare) × Int) => ((F_laws_eqShareS r22.1 r13.1).bind fun (r28 : Bool) => if (!r28) = true then (some true) else (some (r22.2 != r13.2)) : Option (Bool)).bind fun (j25 : Bool) => if j25 = true then (some false) else ((F_laws_toShareS p1).bind fun (r34 : (List GShare)) => (F_laws_eqShareS r16 r34).bind fun (r37 : Bool) => if (!r37) = true then (some false) else ((F_laws_toShareS p2).bind fun (r40 : (List GShare)) => (F_laws_eqShareS r19 r40).bind fun (r43 : Bool) => if (!r43) = true then (some false) else ((F_laws_markShareS r16 1).bind fun (r46 : (List GShare) × Int) => (F_laws_markShareS r19 r46.2).bind fun (r48 : (List GShare) × Int) => (if (decide (r48.2 < 0)) = true then (some true) else ((F_laws_eqShareS r22.1 r13.1).bind fun (r55 : Bool) => if (!r55) = true then (some true) else (some (r22.2 != r13.2))) : Option (Bool)).bind fun (j50 : Bool) => if j50 = true then (some false) else ((F_laws_markShareS r22.1 1).bind fun (r61 : (List GShare) × Int) => (F_laws_heldShareS r61.1 1).bind fun (r63 : Int) => if (decide (r63 < 0)) = true then (some false) else (if (r63 != r61.2) = true then (some false) else ((F_laws_toShareS p1).bind fun (r67 : (List GShare)) => (F_laws_toShareS p2).bind fun (r70 : (List GShare)) => (F_impl_AddShares p0 r67 r70).bind fun (r73 : (List GShare) × Int) => ((F_laws_eqShareS r73.1 r13.1).bind fun (r79 : Bool) => if (!r79) = true then (some true) else (some (r73.2 != r13.2)) : Option (Bool)).bind fun (j76 : Bool) => if j76 = true then (some false) else ((F_laws_heldShareS r61.1 1).bind fun (r85 : Int) => if (decide (r85 < 0)) = true then (some false) else (if (r85 != r61.2) = true then (some false) else (some true)))))))))))
set_option maxRecDepth 20000 in
set_option maxHeartbeats 400000 in
theorem c_laws_FnExactAddShares (w0 : World) (p0 : Int) (p1 : (List GShare)) (v1_1 : Value) (hv1_1 : Ro w0 p1 [v1_1]) (p2 : (List GShare)) (v2_1 : Value) (hv2_1 : Ro w0 p2 [v2_1]) (r : Bool) (hF : F_laws_FnExactAddShares p0 p1 p2 = some r) :
    Calls Try.prog 7 [(vI p0), v1_1, v2_1].toArray w0 (fun en w' => ∃ v, en = .returned v ∧ (v = (vT r) ∧ Kept (Old w0) w0 w')) := by
  refine c_enter (n := 124) Try.func7 rfl rfl (Nat.le_of_ble_eq_true rfl) rfl ?_
  intro a hE
  have hM := M.start w0
  unfold F_laws_FnExactAddShares at hF
  refine c_region ?_
  refine s_assign hE goes_none (by decide) rfl ?_; intro a hE
  refine c_fin ?_
  refine c_region ?_
  refine s_assign hE goes_none (by decide) rfl ?_; intro a hE
  refine c_fin ?_
  refine c_region ?_
  refine s_move hE goes_none (by decide) rfl ?_; intro a hE
  refine s_move hE goes_none (by decide) rfl ?_; intro a hE
  obtain ⟨r1, e2, hF⟩ := bind_some hF
  refine s_call (vs := [v1_1, (vI 1048576)]) hE goes_none (by decide) rfl cb13 (c_laws_szShareS _ p1 v1_1 (hM.rdo hv1_1) 1048576 r1 e2) ?_
  rintro v w a ⟨rfl, hK⟩ hE
  have hM := hM.keep hK
  refine s_assign hE goes_none (by decide) rfl ?_; intro a hE
  refine c_fin ?_
  refine wp_seq ?_
  refine c_region ?_
  refine s_move hE goes_none (by decide) rfl ?_; intro a hE
  refine s_int hE goes_none (by decide) rfl rfl rfl ?_; intro a hE
  refine c_fin ?_
  refine c_cond hE rfl ?_ ?_
  · intro hb3
    have hF := ite_t hF hb3
    refine c_region ?_
    refine s_assign hE goes_none (by decide) rfl ?_; intro a hE
    refine c_fin ?_
    have hr := Option.some.inj hF
    subst hr
    exact wp_ret (r_then (k_ret1 hE rfl (res_tmp hE rfl) ⟨_, rfl, rfl, hM.kept⟩))
  · intro hb3
    have hF := ite_f hF hb3
    refine wp_skip ?_
    refine c_nx ?_
    refine c_region ?_
    refine s_move hE goes_none (by decide) rfl ?_; intro a hE
    refine s_move hE goes_none (by decide) rfl ?_; intro a hE
    obtain ⟨r4, e5, hF⟩ := bind_some hF
    refine s_call (vs := [v2_1, (vI r1)]) hE goes_none (by decide) rfl cb13 (c_laws_szShareS _ p2 v2_1 (hM.rdo hv2_1) r1 r4 e5) ?_
    rintro v w a ⟨rfl, hK⟩ hE
    have hM := hM.keep hK
    refine s_assign hE goes_none (by decide) rfl ?_; intro a hE
    refine c_fin ?_
    refine wp_seq ?_
    refine c_region ?_
    refine s_move hE goes_none (by decide) rfl ?_; intro a hE
    refine s_int hE goes_none (by decide) rfl rfl rfl ?_; intro a hE
    refine c_fin ?_
    refine c_cond hE rfl ?_ ?_
    · intro hb6
      have hF := ite_t hF hb6
      refine c_region ?_
      refine s_assign hE goes_none (by decide) rfl ?_; intro a hE
      refine c_fin ?_
      have hr := Option.some.inj hF
      subst hr
      exact wp_ret (r_then (k_ret1 hE rfl (res_tmp hE rfl) ⟨_, rfl, rfl, hM.kept⟩))
    · intro hb6
      have hF := ite_f hF hb6
      refine wp_skip ?_
      refine c_nx ?_
      refine c_region ?_
      refine s_move hE goes_none (by decide) rfl ?_; intro a hE
      refine s_move hE goes_none (by decide) rfl ?_; intro a hE
      obtain ⟨r7, e8, hF⟩ := bind_some hF
      refine s_call (vs := [v1_1]) hE goes_none (by decide) rfl cb15 (c_laws_toShareS _ p1 v1_1 (hM.rdo hv1_1) r7 e8) ?_
      rintro u9 w a ⟨_, rfl, hFr, hK⟩ hE
      have hM := hM.add hK hFr
      refine s_move hE goes_none (by decide) rfl ?_; intro a hE
      obtain ⟨r10, e11, hF⟩ := bind_some hF
      refine s_call (vs := [v2_1]) hE goes_none (by decide) rfl cb15 (c_laws_toShareS _ p2 v2_1 (hM.rdo hv2_1) r10 e11) ?_
      rintro u12 w a ⟨_, rfl, hFr, hK⟩ hE
      have hM := hM.add hK hFr
      obtain ⟨r13, e14, hF⟩ := bind_some hF
      refine s_call (vs := [(vI p0), u9, u12]) hE goes_none (by decide) rfl cb37 (c_spec_AddShares _ p0 r7 u9 (hM.sl (pre := [_]) noB) r10 u12 (hM.sl (pre := []) noB) r13 e14) ?_
      rintro v w a ⟨u15, rfl, hFr, hK⟩ hE
      have hM := hM.add hK hFr
      refine s_move hE goes_none (by decide) rfl ?_; intro a hE
      refine s_extract hE goes_none (by decide) rfl rfl ?_; intro a hE
      refine s_extract hE goes_none (by decide) rfl rfl ?_; intro a hE
      refine s_assign hE goes_none (by decide) rfl ?_; intro a hE
      refine s_assign hE goes_none (by decide) rfl ?_; intro a hE
      refine c_fin ?_
      refine c_region ?_
      refine s_move hE goes_none (by decide) rfl ?_; intro a hE
      obtain ⟨r16, e17, hF⟩ := bind_some hF
      refine s_call (vs := [v1_1]) hE goes_none (by decide) rfl cb15 (c_laws_toShareS _ p1 v1_1 (hM.rdo hv1_1) r16 e17) ?_
      rintro u18 w a ⟨_, rfl, hFr, hK⟩ hE
      have hM := hM.add hK hFr
      refine s_assign hE goes_none (by decide) rfl ?_; intro a hE
      refine c_fin ?_
      refine c_region ?_
      refine s_move hE goes_none (by decide) rfl ?_; intro a hE
      obtain ⟨r19, e20, hF⟩ := bind_some hF
      refine s_call (vs := [v2_1]) hE goes_none (by decide) rfl cb15 (c_laws_toShareS _ p2 v2_1 (hM.rdo hv2_1) r19 e20) ?_
      rintro u21 w a ⟨_, rfl, hFr, hK⟩ hE
      have hM := hM.add hK hFr
      refine s_assign hE goes_none (by decide) rfl ?_; intro a hE
      refine c_fin ?_
      refine c_region ?_
      refine s_move hE goes_none (by decide) rfl ?_; intro a hE
      refine s_move hE goes_none (by decide) rfl ?_; intro a hE
      refine s_move hE goes_none (by decide) rfl ?_; intro a hE
      obtain ⟨r22, e23, hF⟩ := bind_some hF
      refine s_call (vs := [(vI p0), u18, u21]) hE goes_none (by decide) rfl cb38 (c_impl_AddShares _ p0 r16 u18 (hM.sl (pre := [_]) noB) r19 u21 (hM.sl (pre := []) noB) r22 e23) ?_
      rintro v w a ⟨u24, rfl, hFr, hK⟩ hE
      have hM := hM.add hK hFr
      refine s_move hE goes_none (by decide) rfl ?_; intro a hE
      refine s_extract hE goes_none (by decide) rfl rfl ?_; intro a hE
      refine s_extract hE goes_none (by decide) rfl rfl ?_; intro a hE
      refine s_assign hE goes_none (by decide) rfl ?_; intro a hE
      refine s_assign hE goes_none (by decide) rfl ?_; intro a hE
      refine c_fin ?_
      refine wp_seq ?_
      obtain ⟨j25, hl26, hF27⟩ := bind_some hF
      refine c_join (fun a w => Env 124 a [(0, (vI p0)), (1, v1_1), (2, v2_1), (8, u15), (9, (vI r13.2)), (10, u18), (11, u21), (12, u24), (13, (vI r22.2)), (57, (vT j25))] ∧ M (Old w0) w0 w [osl NoB (r22.1 : List GShare) u24, osl NoB (r19 : List GShare) u21, osl NoB (r16 : List GShare) u18, osl NoB (r13.1 : List GShare) u15]) ?_ ?_
      · skip
        refine wp_region_lit ?_
        refine s_move hE goes_none (by decide) rfl ?_; intro a hE
        refine s_move hE goes_none (by decide) rfl ?_; intro a hE
        obtain ⟨r28, e29, hl26⟩ := bind_some hl26
        refine s_call (vs := [u24, u15]) hE goes_none (by decide) rfl cb17 (c_laws_eqShareS _ r22.1 u24 (hM.sl (pre := []) noB) r13.1 u15 (hM.sl (pre := [_, _, _]) noB) r28 e29) ?_
        rintro v w a ⟨rfl, hK⟩ hE
        have hM := hM.keep hK
        refine s_not hE goes_none (by decide) rfl ?_; intro a hE
        refine s_move hE goes_none (by decide) rfl ?_; intro a hE
        refine splitB (!r28) (fun hb30 => ?_) (fun hb30 => ?_)
        · have hl26 := ite_t hl26 hb30
          refine s_skip hE rfl (lkb rfl hb30) rfl (by decide) ?_; intro a hE
          refine s_skip hE rfl (lkb rfl hb30) rfl (by decide) ?_; intro a hE
          refine s_skip hE rfl (lkb rfl hb30) rfl (by decide) ?_; intro a hE
          refine s_pickT hE goes_none (by decide) (lkb rfl hb30) rfl ?_; intro a hE
          refine c_fin0 ?_
          have ht31 := Option.some.inj hl26
          subst ht31
          refine c_mid ?_
          have hM := hM.pull (pre := [_, _, _])
          have hM := hM.pull (pre := [_, _, _])
          have hM := hM.pull (pre := [_, _, _])
          have hM := hM.pull (pre := [_, _, _])
          have hM := M.fst (l := [_, _, _, _]) hM
          exact ⟨hE.sub ⟨rfl, rfl, rfl, rfl, rfl, rfl, rfl, rfl, rfl, rfl, trivial⟩, hM⟩
        · have hl26 := ite_f hl26 hb30
          refine s_move hE (goes_yes hE rfl (lkb rfl hb30)) (by decide) rfl ?_; intro a hE
          refine s_move hE (goes_yes hE rfl (lkb rfl hb30)) (by decide) rfl ?_; intro a hE
          refine s_int hE (goes_yes hE rfl (lkb rfl hb30)) (by decide) rfl rfl rfl ?_; intro a hE
          refine s_pickF hE goes_none (by decide) (lkb rfl hb30) rfl ?_; intro a hE
          refine c_fin0 ?_
          have ht32 := Option.some.inj hl26
          subst ht32
          refine c_mid ?_
          have hM := hM.pull (pre := [_, _, _])
          have hM := hM.pull (pre := [_, _, _])
          have hM := hM.pull (pre := [_, _, _])
          have hM := hM.pull (pre := [_, _, _])
          have hM := M.fst (l := [_, _, _, _]) hM
          exact ⟨hE.sub ⟨rfl, rfl, rfl, rfl, rfl, rfl, rfl, rfl, rfl, rfl, trivial⟩, hM⟩
      · skip
        rintro a w ⟨hE, hM⟩
        refine c_cond hE rfl ?_ ?_
        · intro hb33
          have hF27 := ite_t hF27 hb33
          refine c_region ?_
          refine s_assign hE goes_none (by decide) rfl ?_; intro a hE
          refine c_fin ?_
          have hr := Option.some.inj hF27
          subst hr
          have hM := M.fst (l := []) hM
          exact wp_ret (r_then (k_ret1 hE rfl (res_tmp hE rfl) ⟨_, rfl, rfl, hM.kept⟩))
        · intro hb33
          have hF27 := ite_f hF27 hb33
          refine wp_skip ?_
          refine c_nx ?_
          refine wp_seq ?_
          refine c_region ?_
          refine s_move hE goes_none (by decide) rfl ?_; intro a hE
          refine s_move hE goes_none (by decide) rfl ?_; intro a hE
          obtain ⟨r34, e35, hF27⟩ := bind_some hF27
          refine s_call (vs := [v1_1]) hE goes_none (by decide) rfl cb15 (c_laws_toShareS _ p1 v1_1 (hM.rdo hv1_1) r34 e35) ?_
          rintro u36 w a ⟨_, rfl, hFr, hK⟩ hE
          have hM := hM.add hK hFr
          obtain ⟨r37, e38, hF27⟩ := bind_some hF27
          refine s_call (vs := [u18, u36]) hE goes_none (by decide) rfl cb17 (c_laws_eqShareS _ r16 u18 (hM.sl (pre := [_, _, _]) noB) r34 u36 (hM.sl (pre := []) noB) r37 e38) ?_
          rintro v w a ⟨rfl, hK⟩ hE
          have hM := hM.keep hK
          refine s_not hE goes_none (by decide) rfl ?_; intro a hE
          refine c_fin ?_
          refine c_cond hE rfl ?_ ?_
          · intro hb39
            have hF27 := ite_t hF27 hb39
            refine c_region ?_
            refine s_assign hE goes_none (by decide) rfl ?_; intro a hE
            refine c_fin ?_
            have hr := Option.some.inj hF27
            subst hr
            have hM := M.fst (l := []) hM
            exact wp_ret (r_then (k_ret1 hE rfl (res_tmp hE rfl) ⟨_, rfl, rfl, hM.kept⟩))
          · intro hb39
            have hF27 := ite_f hF27 hb39
            refine wp_skip ?_
            refine c_nx ?_
            refine wp_seq ?_
            refine c_region ?_
            refine s_move hE goes_none (by decide) rfl ?_; intro a hE
            refine s_move hE goes_none (by decide) rfl ?_; intro a hE
            obtain ⟨r40, e41, hF27⟩ := bind_some hF27
            refine s_call (vs := [v2_1]) hE goes_none (by decide) rfl cb15 (c_laws_toShareS _ p2 v2_1 (hM.rdo hv2_1) r40 e41) ?_
            rintro u42 w a ⟨_, rfl, hFr, hK⟩ hE
            have hM := hM.add hK hFr
            obtain ⟨r43, e44, hF27⟩ := bind_some hF27
            refine s_call (vs := [u21, u42]) hE goes_none (by decide) rfl cb17 (c_laws_eqShareS _ r19 u21 (hM.sl (pre := [_, _, _]) noB) r40 u42 (hM.sl (pre := []) noB) r43 e44) ?_
            rintro v w a ⟨rfl, hK⟩ hE
            have hM := hM.keep hK
            refine s_not hE goes_none (by decide) rfl ?_; intro a hE
            refine c_fin ?_
            refine c_cond hE rfl ?_ ?_
            · intro hb45
              have hF27 := ite_t hF27 hb45
              refine c_region ?_
              refine s_assign hE goes_none (by decide) rfl ?_; intro a hE
              refine c_fin ?_
              have hr := Option.some.inj hF27
              subst hr
              have hM := M.fst (l := []) hM
              exact wp_ret (r_then (k_ret1 hE rfl (res_tmp hE rfl) ⟨_, rfl, rfl, hM.kept⟩))
            · intro hb45
              have hF27 := ite_f hF27 hb45
              refine wp_skip ?_
              refine c_nx ?_
              refine c_region ?_
              refine s_assign hE goes_none (by decide) rfl ?_; intro a hE
              refine c_fin ?_
              refine c_region ?_
              refine s_move hE goes_none (by decide) rfl ?_; intro a hE
              refine s_move hE goes_none (by decide) rfl ?_; intro a hE
              have hM := hM.pull (pre := [_, _, _, _])
              have hM := hM.toOwn noB
              obtain ⟨r46, e47, hF27⟩ := bind_some hF27
              refine s_call (vs := [u18, (vI 1)]) hE goes_none (by decide) rfl cb35 (c_laws_markShareS _ _ _ _ r16 u18 1 hM r46 e47) ?_
              rintro v w a ⟨rfl, hM⟩ hE
              refine s_assign hE goes_none (by decide) rfl ?_; intro a hE
              refine c_fin ?_
              refine c_region ?_
              refine s_move hE goes_none (by decide) rfl ?_; intro a hE
              refine s_move hE goes_none (by decide) rfl ?_; intro a hE
              have hM := hM.pull (pre := [_, _, _, _])
              have hM := hM.toOwn noB
              obtain ⟨r48, e49, hF27⟩ := bind_some hF27
              refine s_call (vs := [u21, (vI r46.2)]) hE goes_none (by decide) rfl cb35 (c_laws_markShareS _ _ _ _ r19 u21 r46.2 hM r48 e49) ?_
              rintro v w a ⟨rfl, hM⟩ hE
              refine s_assign hE goes_none (by decide) rfl ?_; intro a hE
              refine c_fin ?_
              refine wp_seq ?_
              obtain ⟨j50, hl51, hF52⟩ := bind_some hF27
              refine c_join (fun a w => Env 124 a [(0, (vI p0)), (1, v1_1), (2, v2_1), (8, u15), (9, (vI r13.2)), (12, u24), (86, (vT j50))] ∧ M (Old w0) w0 w [osl NoB (r22.1 : List GShare) u24, osl NoB (r13.1 : List GShare) u15]) ?_ ?_
              · skip
                refine wp_region_lit ?_
                refine s_move hE goes_none (by decide) rfl ?_; intro a hE
                refine s_int hE goes_none (by decide) rfl rfl rfl ?_; intro a hE
                refine s_move hE goes_none (by decide) rfl ?_; intro a hE
                refine splitB (decide (r48.2 < 0)) (fun hb53 => ?_) (fun hb53 => ?_)
                · have hl51 := ite_t hl51 hb53
                  refine s_skip hE rfl (lkb rfl hb53) rfl (by decide) ?_; intro a hE
                  refine s_skip hE rfl (lkb rfl hb53) rfl (by decide) ?_; intro a hE
                  refine s_skip hE rfl (lkb rfl hb53) rfl (by decide) ?_; intro a hE
                  refine s_skip hE rfl (lkb rfl hb53) rfl (by decide) ?_; intro a hE
                  refine s_pickT hE goes_none (by decide) (lkb rfl hb53) rfl ?_; intro a hE
                  refine s_move hE goes_none (by decide) rfl ?_; intro a hE
                  refine s_skip hE rfl rfl rfl (by decide) ?_; intro a hE
                  refine s_skip hE rfl rfl rfl (by decide) ?_; intro a hE
                  refine s_skip hE rfl rfl rfl (by decide) ?_; intro a hE
                  refine s_pickT hE goes_none (by decide) rfl rfl ?_; intro a hE
                  refine c_fin0 ?_
                  have ht54 := Option.some.inj hl51
                  subst ht54
                  refine c_mid ?_
                  have hM := hM.pull (pre := [_, _, _, _, _])
                  have hM := hM.pull (pre := [_, _, _, _, _])
                  have hM := M.fst (l := [_, _]) hM
                  exact ⟨hE.sub ⟨rfl, rfl, rfl, rfl, rfl, rfl, rfl, trivial⟩, hM⟩
                · have hl51 := ite_f hl51 hb53
                  refine s_move hE (goes_yes hE rfl (lkb rfl hb53)) (by decide) rfl ?_; intro a hE
                  refine s_move hE (goes_yes hE rfl (lkb rfl hb53)) (by decide) rfl ?_; intro a hE
                  obtain ⟨r55, e56, hl51⟩ := bind_some hl51
                  refine s_call (vs := [u24, u15]) hE (goes_yes hE rfl (lkb rfl hb53)) (by decide) rfl cb17 (c_laws_eqShareS _ r22.1 u24 (hM.sl (pre := [_, _, _, _]) noB) r13.1 u15 (hM.sl (pre := [_, _, _, _, _]) noB) r55 e56) ?_
                  rintro v w a ⟨rfl, hK⟩ hE
                  have hM := hM.keep hK
                  refine s_not hE (goes_yes hE rfl (lkb rfl hb53)) (by decide) rfl ?_; intro a hE
                  refine s_pickF hE goes_none (by decide) (lkb rfl hb53) rfl ?_; intro a hE
                  refine s_move hE goes_none (by decide) rfl ?_; intro a hE
                  refine splitB (!r55) (fun hb57 => ?_) (fun hb57 => ?_)
                  · have hl51 := ite_t hl51 hb57
                    refine s_skip hE rfl (lkb rfl hb57) rfl (by decide) ?_; intro a hE
                    refine s_skip hE rfl (lkb rfl hb57) rfl (by decide) ?_; intro a hE
                    refine s_skip hE rfl (lkb rfl hb57) rfl (by decide) ?_; intro a hE
                    refine s_pickT hE goes_none (by decide) (lkb rfl hb57) rfl ?_; intro a hE
                    refine c_fin0 ?_
                    have ht58 := Option.some.inj hl51
                    subst ht58
                    refine c_mid ?_
                    have hM := hM.pull (pre := [_, _, _, _, _])
                    have hM := hM.pull (pre := [_, _, _, _, _])
                    have hM := M.fst (l := [_, _]) hM
                    exact ⟨hE.sub ⟨rfl, rfl, rfl, rfl, rfl, rfl, rfl, trivial⟩, hM⟩
                  · have hl51 := ite_f hl51 hb57
                    refine s_move hE (goes_yes hE rfl (lkb rfl hb57)) (by decide) rfl ?_; intro a hE
                    refine s_move hE (goes_yes hE rfl (lkb rfl hb57)) (by decide) rfl ?_; intro a hE
                    refine s_int hE (goes_yes hE rfl (lkb rfl hb57)) (by decide) rfl rfl rfl ?_; intro a hE
                    refine s_pickF hE goes_none (by decide) (lkb rfl hb57) rfl ?_; intro a hE
                    refine c_fin0 ?_
                    have ht59 := Option.some.inj hl51
                    subst ht59
                    refine c_mid ?_
                    have hM := hM.pull (pre := [_, _, _, _, _])
                    have hM := hM.pull (pre := [_, _, _, _, _])
                    have hM := M.fst (l := [_, _]) hM
                    exact ⟨hE.sub ⟨rfl, rfl, rfl, rfl, rfl, rfl, rfl, trivial⟩, hM⟩
              · skip
                rintro a w ⟨hE, hM⟩
                refine c_cond hE rfl ?_ ?_
                · intro hb60
                  have hF52 := ite_t hF52 hb60
                  refine c_region ?_
                  refine s_assign hE goes_none (by decide) rfl ?_; intro a hE
                  refine c_fin ?_
                  have hr := Option.some.inj hF52
                  subst hr
                  have hM := M.fst (l := []) hM
                  exact wp_ret (r_then (k_ret1 hE rfl (res_tmp hE rfl) ⟨_, rfl, rfl, hM.kept⟩))
                · intro hb60
                  have hF52 := ite_f hF52 hb60
                  refine wp_skip ?_
                  refine c_nx ?_
                  refine c_region ?_
                  refine s_assign hE goes_none (by decide) rfl ?_; intro a hE
                  refine c_fin ?_
                  refine c_region ?_
                  refine s_move hE goes_none (by decide) rfl ?_; intro a hE
                  refine s_move hE goes_none (by decide) rfl ?_; intro a hE
                  have hM := hM.toOwn noB
                  obtain ⟨r61, e62, hF52⟩ := bind_some hF52
                  refine s_call (vs := [u24, (vI 1)]) hE goes_none (by decide) rfl cb35 (c_laws_markShareS _ _ _ _ r22.1 u24 1 hM r61 e62) ?_
                  rintro v w a ⟨rfl, hM⟩ hE
                  refine s_assign hE goes_none (by decide) rfl ?_; intro a hE
                  refine c_fin ?_
                  refine c_region ?_
                  refine s_assign hE goes_none (by decide) rfl ?_; intro a hE
                  refine c_fin ?_
                  refine c_region ?_
                  refine s_move hE goes_none (by decide) rfl ?_; intro a hE
                  refine s_move hE goes_none (by decide) rfl ?_; intro a hE
                  obtain ⟨r63, e64, hF52⟩ := bind_some hF52
                  refine s_call (vs := [u24, (vI 1)]) hE goes_none (by decide) rfl cb36 (c_laws_heldShareS _ r61.1 u24 (hM.ro (pre := []) (fun b hb => hb.elim)) 1 r63 e64) ?_
                  rintro v w a ⟨rfl, hK⟩ hE
                  have hM := hM.keep hK
                  refine s_assign hE goes_none (by decide) rfl ?_; intro a hE
                  refine c_fin ?_
                  refine wp_seq ?_
                  refine c_region ?_
                  refine s_move hE goes_none (by decide) rfl ?_; intro a hE
                  refine s_int hE goes_none (by decide) rfl rfl rfl ?_; intro a hE
                  refine c_fin ?_
                  refine c_cond hE rfl ?_ ?_
                  · intro hb65
                    have hF52 := ite_t hF52 hb65
                    refine c_region ?_
                    refine s_assign hE goes_none (by decide) rfl ?_; intro a hE
                    refine c_fin ?_
                    have hr := Option.some.inj hF52
                    subst hr
                    have hM := M.fst (l := []) hM
                    exact wp_ret (r_then (k_ret1 hE rfl (res_tmp hE rfl) ⟨_, rfl, rfl, hM.kept⟩))
                  · intro hb65
                    have hF52 := ite_f hF52 hb65
                    refine wp_skip ?_
                    refine c_nx ?_
                    refine wp_seq ?_
                    refine c_region ?_
                    refine s_move hE goes_none (by decide) rfl ?_; intro a hE
                    refine s_move hE goes_none (by decide) rfl ?_; intro a hE
                    refine s_int hE goes_none (by decide) rfl rfl rfl ?_; intro a hE
                    refine c_fin ?_
                    refine c_cond hE rfl ?_ ?_
                    · intro hb66
                      have hF52 := ite_t hF52 hb66
                      refine c_region ?_
                      refine s_assign hE goes_none (by decide) rfl ?_; intro a hE
                      refine c_fin ?_
                      have hr := Option.some.inj hF52
                      subst hr
                      have hM := M.fst (l := []) hM
                      exact wp_ret (r_then (k_ret1 hE rfl (res_tmp hE rfl) ⟨_, rfl, rfl, hM.kept⟩))
                    · intro hb66
                      have hF52 := ite_f hF52 hb66
                      refine wp_skip ?_
                      refine c_nx ?_
                      refine c_region ?_
                      refine s_move hE goes_none (by decide) rfl ?_; intro a hE
                      refine s_move hE goes_none (by decide) rfl ?_; intro a hE
                      obtain ⟨r67, e68, hF52⟩ := bind_some hF52
                      refine s_call (vs := [v1_1]) hE goes_none (by decide) rfl cb15 (c_laws_toShareS _ p1 v1_1 (hM.rdo hv1_1) r67 e68) ?_
                      rintro u69 w a ⟨_, rfl, hFr, hK⟩ hE
                      have hM := hM.add hK hFr
                      refine s_move hE goes_none (by decide) rfl ?_; intro a hE
                      obtain ⟨r70, e71, hF52⟩ := bind_some hF52
                      refine s_call (vs := [v2_1]) hE goes_none (by decide) rfl cb15 (c_laws_toShareS _ p2 v2_1 (hM.rdo hv2_1) r70 e71) ?_
                      rintro u72 w a ⟨_, rfl, hFr, hK⟩ hE
                      have hM := hM.add hK hFr
                      obtain ⟨r73, e74, hF52⟩ := bind_some hF52
                      refine s_call (vs := [(vI p0), u69, u72]) hE goes_none (by decide) rfl cb38 (c_impl_AddShares _ p0 r67 u69 (hM.sl (pre := [_]) noB) r70 u72 (hM.sl (pre := []) noB) r73 e74) ?_
                      rintro v w a ⟨u75, rfl, hFr, hK⟩ hE
                      have hM := hM.add hK hFr
                      refine s_move hE goes_none (by decide) rfl ?_; intro a hE
                      refine s_extract hE goes_none (by decide) rfl rfl ?_; intro a hE
                      refine s_extract hE goes_none (by decide) rfl rfl ?_; intro a hE
                      refine s_assign hE goes_none (by decide) rfl ?_; intro a hE
                      refine s_assign hE goes_none (by decide) rfl ?_; intro a hE
                      refine c_fin ?_
                      refine wp_seq ?_
                      obtain ⟨j76, hl77, hF78⟩ := bind_some hF52
                      refine c_join (fun a w => Env 124 a [(12, u24), (15, (vI r61.2)), (115, (vT j76))] ∧ M (Old w0) w0 w [own NoB (r61.1 : (List GShare)) [u24]]) ?_ ?_
                      · skip
                        refine wp_region_lit ?_
                        refine s_move hE goes_none (by decide) rfl ?_; intro a hE
                        refine s_move hE goes_none (by decide) rfl ?_; intro a hE
                        obtain ⟨r79, e80, hl77⟩ := bind_some hl77
                        refine s_call (vs := [u75, u15]) hE goes_none (by decide) rfl cb17 (c_laws_eqShareS _ r73.1 u75 (hM.sl (pre := []) noB) r13.1 u15 (hM.sl (pre := [_, _, _, _]) noB) r79 e80) ?_
                        rintro v w a ⟨rfl, hK⟩ hE
                        have hM := hM.keep hK
                        refine s_not hE goes_none (by decide) rfl ?_; intro a hE
                        refine s_move hE goes_none (by decide) rfl ?_; intro a hE
                        refine splitB (!r79) (fun hb81 => ?_) (fun hb81 => ?_)
                        · have hl77 := ite_t hl77 hb81
                          refine s_skip hE rfl (lkb rfl hb81) rfl (by decide) ?_; intro a hE
                          refine s_skip hE rfl (lkb rfl hb81) rfl (by decide) ?_; intro a hE
                          refine s_skip hE rfl (lkb rfl hb81) rfl (by decide) ?_; intro a hE
                          refine s_pickT hE goes_none (by decide) (lkb rfl hb81) rfl ?_; intro a hE
                          refine c_fin0 ?_
                          have ht82 := Option.some.inj hl77
                          subst ht82
                          refine c_mid ?_
                          have hM := hM.pull (pre := [_, _, _])
                          have hM := M.fst (l := [_]) hM
                          exact ⟨hE.sub ⟨rfl, rfl, rfl, trivial⟩, hM⟩
                        · have hl77 := ite_f hl77 hb81
                          refine s_move hE (goes_yes hE rfl (lkb rfl hb81)) (by decide) rfl ?_; intro a hE
                          refine s_move hE (goes_yes hE rfl (lkb rfl hb81)) (by decide) rfl ?_; intro a hE
                          refine s_int hE (goes_yes hE rfl (lkb rfl hb81)) (by decide) rfl rfl rfl ?_; intro a hE
                          refine s_pickF hE goes_none (by decide) (lkb rfl hb81) rfl ?_; intro a hE
                          refine c_fin0 ?_
                          have ht83 := Option.some.inj hl77
                          subst ht83
                          refine c_mid ?_
                          have hM := hM.pull (pre := [_, _, _])
                          have hM := M.fst (l := [_]) hM
                          exact ⟨hE.sub ⟨rfl, rfl, rfl, trivial⟩, hM⟩
                      · skip
                        rintro a w ⟨hE, hM⟩
                        refine c_cond hE rfl ?_ ?_
                        · intro hb84
                          have hF78 := ite_t hF78 hb84
                          refine c_region ?_
                          refine s_assign hE goes_none (by decide) rfl ?_; intro a hE
                          refine c_fin ?_
                          have hr := Option.some.inj hF78
                          subst hr
                          have hM := M.fst (l := []) hM
                          exact wp_ret (r_then (k_ret1 hE rfl (res_tmp hE rfl) ⟨_, rfl, rfl, hM.kept⟩))
                        · intro hb84
                          have hF78 := ite_f hF78 hb84
                          refine wp_skip ?_
                          refine c_nx ?_
                          refine c_region ?_
                          refine s_assign hE goes_none (by decide) rfl ?_; intro a hE
                          refine c_fin ?_
                          refine c_region ?_
                          refine s_move hE goes_none (by decide) rfl ?_; intro a hE
                          refine s_move hE goes_none (by decide) rfl ?_; intro a hE
                          obtain ⟨r85, e86, hF78⟩ := bind_some hF78
                          refine s_call (vs := [u24, (vI 1)]) hE goes_none (by decide) rfl cb36 (c_laws_heldShareS _ r61.1 u24 (hM.ro (pre := []) (fun b hb => hb.elim)) 1 r85 e86) ?_
                          rintro v w a ⟨rfl, hK⟩ hE
                          have hM := hM.keep hK
                          refine s_assign hE goes_none (by decide) rfl ?_; intro a hE
                          refine c_fin ?_
                          refine wp_seq ?_
                          refine c_region ?_
                          refine s_move hE goes_none (by decide) rfl ?_; intro a hE
                          refine s_int hE goes_none (by decide) rfl rfl rfl ?_; intro a hE
                          refine c_fin ?_
                          refine c_cond hE rfl ?_ ?_
                          · intro hb87
                            have hF78 := ite_t hF78 hb87
                            refine c_region ?_
                            refine s_assign hE goes_none (by decide) rfl ?_; intro a hE
                            refine c_fin ?_
                            have hr := Option.some.inj hF78
                            subst hr
                            have hM := M.fst (l := []) hM
                            exact wp_ret (r_then (k_ret1 hE rfl (res_tmp hE rfl) ⟨_, rfl, rfl, hM.kept⟩))
                          · intro hb87
                            have hF78 := ite_f hF78 hb87
                            refine wp_skip ?_
                            refine c_nx ?_
                            refine wp_seq ?_
                            refine c_region ?_
                            refine s_move hE goes_none (by decide) rfl ?_; intro a hE
                            refine s_move hE goes_none (by decide) rfl ?_; intro a hE
                            refine s_int hE goes_none (by decide) rfl rfl rfl ?_; intro a hE
                            refine c_fin ?_
                            refine c_cond hE rfl ?_ ?_
                            · intro hb88
                              have hF78 := ite_t hF78 hb88
                              refine c_region ?_
                              refine s_assign hE goes_none (by decide) rfl ?_; intro a hE
                              refine c_fin ?_
                              have hr := Option.some.inj hF78
                              subst hr
                              have hM := M.fst (l := []) hM
                              exact wp_ret (r_then (k_ret1 hE rfl (res_tmp hE rfl) ⟨_, rfl, rfl, hM.kept⟩))
                            · intro hb88
                              have hF78 := ite_f hF78 hb88
                              refine wp_skip ?_
                              refine c_nx ?_
                              refine c_region ?_
                              refine s_assign hE goes_none (by decide) rfl ?_; intro a hE
                              refine c_fin ?_
                              have hr := Option.some.inj hF78
                              subst hr
                              have hM := M.fst (l := []) hM
                              exact wp_ret (k_ret1 hE rfl (res_tmp hE rfl) ⟨_, rfl, rfl, hM.kept⟩)
end Go.Proofs.Ytbonmndobipbnaa
