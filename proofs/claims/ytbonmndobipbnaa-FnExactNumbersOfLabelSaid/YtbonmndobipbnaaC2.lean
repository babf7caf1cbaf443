/- The walk of what the law reaches: contracts of functions. -/
import Derived.Test.YtbonmndobipbnaaC1
set_option linter.unusedVariables false
set_option linter.unusedSimpArgs false
namespace Go.Proofs.Ytbonmndobipbnaa
open Go
set_option maxRecDepth 20000 in
set_option maxHeartbeats 400000 in
theorem c_impl_IsVault (w0 : World) (p0 : GVault) (v0_1 : Value) (hv0_1 : Ro w0 p0.Keys [v0_1]) (v0_2 : Value) (hv0_2 : Ro w0 p0.Records [v0_2]) (v0_3 : Value) (hv0_3 : Ro w0 p0.Events [v0_3]) (r : Bool) (hF : F_impl_IsVault p0 = some r) :
    Calls Try.prog 27 [(Value.agg (cat [[v0_1], [(vI p0.Next)], [v0_2], [v0_3], Flat.enc p0.Head]).toArray)].toArray w0 (fun en w' => ∃ v, en = .returned v ∧ (v = (vT r) ∧ Kept (Old w0) w0 w')) := by
  refine c_enter (n := 84) Try.func27 rfl rfl (Nat.le_of_ble_eq_true rfl) rfl ?_
  intro a hE
  have hM := M.start w0
  unfold F_impl_IsVault at hF
  refine c_region ?_
  refine s_box (cs := cat [[v0_1], [(vI p0.Next)], [v0_2], [v0_3], Flat.enc p0.Head]) hE hM goes_none (by decide) rfl rfl ?_; intro b1 w a hM hE
  refine s_assign hE goes_none (by decide) rfl ?_; intro a hE
  refine c_fin ?_
  refine wp_seq ?_
  obtain ⟨j3, hl4, hF5⟩ := bind_some hF
  refine c_join (fun a w => Env 84 a [(1, (ptr b1 0)), (27, (vT j3))] ∧ M (Old w0) w0 w [raw b1 (cat [[v0_1], [(vI p0.Next)], [v0_2], [v0_3], Flat.enc p0.Head])]) ?_ ?_
  · skip
    refine wp_region_lit ?_
    refine s_fieldAddr hE goes_none (by decide) rfl (fd49_0) ?_; intro a hE
    refine s_load (v := v0_1) hE goes_none (by decide) rfl ty44 rfl (At.cat (pre := []) (seg := [v0_1]) (post := [[(vI p0.Next)], [v0_2], [v0_3], Flat.enc p0.Head]) (hM.rawAt (pre := [])) cl0) ?_; intro a hE
    obtain ⟨r6, e7, hl4⟩ := bind_some hl4
    refine s_call (vs := [v0_1]) hE goes_none (by decide) rfl cb81 (c_impl_length_impl_Block _ p0.Keys v0_1 (hM.rdo hv0_1) r6 e7) ?_
    rintro v w a ⟨rfl, hK⟩ hE
    have hM := hM.keep hK
    obtain ⟨r8, e9, hl4⟩ := bind_some hl4
    refine s_call (vs := [(vI r6), (vI 1), (vI 8)]) hE goes_none (by decide) rfl cb56 (c_impl_inRange _ r6 1 8 r8 e9) ?_
    rintro v w a ⟨rfl, hK⟩ hE
    have hM := hM.keep hK
    refine s_not hE goes_none (by decide) rfl ?_; intro a hE
    refine s_move hE goes_none (by decide) rfl ?_; intro a hE
    refine splitB (!r8) (fun hb10 => ?_) (fun hb10 => ?_)
    · have hl4 := ite_t hl4 hb10
      refine s_skip hE rfl (lkb rfl hb10) rfl (by decide) ?_; intro a hE
      refine s_skip hE rfl (lkb rfl hb10) rfl (by decide) ?_; intro a hE
      refine s_skip hE rfl (lkb rfl hb10) rfl (by decide) ?_; intro a hE
      refine s_skip hE rfl (lkb rfl hb10) rfl (by decide) ?_; intro a hE
      refine s_pickT hE goes_none (by decide) (lkb rfl hb10) rfl ?_; intro a hE
      refine s_move hE goes_none (by decide) rfl ?_; intro a hE
      refine s_skip hE rfl rfl rfl (by decide) ?_; intro a hE
      refine s_skip hE rfl rfl rfl (by decide) ?_; intro a hE
      refine s_skip hE rfl rfl rfl (by decide) ?_; intro a hE
      refine s_skip hE rfl rfl rfl (by decide) ?_; intro a hE
      refine s_pickT hE goes_none (by decide) rfl rfl ?_; intro a hE
      refine s_move hE goes_none (by decide) rfl ?_; intro a hE
      refine s_skip hE rfl rfl rfl (by decide) ?_; intro a hE
      refine s_skip hE rfl rfl rfl (by decide) ?_; intro a hE
      refine s_skip hE rfl rfl rfl (by decide) ?_; intro a hE
      refine s_skip hE rfl rfl rfl (by decide) ?_; intro a hE
      refine s_pickT hE goes_none (by decide) rfl rfl ?_; intro a hE
      refine c_fin0 ?_
      have ht11 := Option.some.inj hl4
      subst ht11
      refine c_mid ?_
      exact ⟨hE.sub ⟨rfl, rfl, trivial⟩, hM⟩
    · have hl4 := ite_f hl4 hb10
      refine s_fieldAddr hE (goes_yes hE rfl (lkb rfl hb10)) (by decide) rfl (fd49_1) ?_; intro a hE
      refine s_load (v := (vI p0.Next)) hE (goes_yes hE rfl (lkb rfl hb10)) (by decide) rfl ty2 rfl (At.cat (pre := [[v0_1]]) (seg := [(vI p0.Next)]) (post := [[v0_2], [v0_3], Flat.enc p0.Head]) (hM.rawAt (pre := [])) (cl1 (n := 1) (m := 0) rfl cl0)) ?_; intro a hE
      obtain ⟨r12, e13, hl4⟩ := bind_some hl4
      refine s_call (vs := [(vI p0.Next), (vI 1), (vI 1000000)]) hE (goes_yes hE rfl (lkb rfl hb10)) (by decide) rfl cb56 (c_impl_inRange _ p0.Next 1 1000000 r12 e13) ?_
      rintro v w a ⟨rfl, hK⟩ hE
      have hM := hM.keep hK
      refine s_not hE (goes_yes hE rfl (lkb rfl hb10)) (by decide) rfl ?_; intro a hE
      refine s_pickF hE goes_none (by decide) (lkb rfl hb10) rfl ?_; intro a hE
      refine s_move hE goes_none (by decide) rfl ?_; intro a hE
      refine splitB (!r12) (fun hb14 => ?_) (fun hb14 => ?_)
      · have hl4 := ite_t hl4 hb14
        refine s_skip hE rfl (lkb rfl hb14) rfl (by decide) ?_; intro a hE
        refine s_skip hE rfl (lkb rfl hb14) rfl (by decide) ?_; intro a hE
        refine s_skip hE rfl (lkb rfl hb14) rfl (by decide) ?_; intro a hE
        refine s_skip hE rfl (lkb rfl hb14) rfl (by decide) ?_; intro a hE
        refine s_pickT hE goes_none (by decide) (lkb rfl hb14) rfl ?_; intro a hE
        refine s_move hE goes_none (by decide) rfl ?_; intro a hE
        refine s_skip hE rfl rfl rfl (by decide) ?_; intro a hE
        refine s_skip hE rfl rfl rfl (by decide) ?_; intro a hE
        refine s_skip hE rfl rfl rfl (by decide) ?_; intro a hE
        refine s_skip hE rfl rfl rfl (by decide) ?_; intro a hE
        refine s_pickT hE goes_none (by decide) rfl rfl ?_; intro a hE
        refine c_fin0 ?_
        have ht15 := Option.some.inj hl4
        subst ht15
        refine c_mid ?_
        exact ⟨hE.sub ⟨rfl, rfl, trivial⟩, hM⟩
      · have hl4 := ite_f hl4 hb14
        refine s_fieldAddr hE (goes_yes hE rfl (lkb rfl hb14)) (by decide) rfl (fd49_2) ?_; intro a hE
        refine s_load (v := v0_2) hE (goes_yes hE rfl (lkb rfl hb14)) (by decide) rfl ty45 rfl (At.cat (pre := [[v0_1], [(vI p0.Next)]]) (seg := [v0_2]) (post := [[v0_3], Flat.enc p0.Head]) (hM.rawAt (pre := [])) (cl1 (n := 1) (m := 1) rfl (cl1 (n := 1) (m := 0) rfl cl0))) ?_; intro a hE
        refine s_len hE (goes_yes hE rfl (lkb rfl hb14)) (by decide) rfl Try.underlying45 (hM.rd hv0_2) ?_; intro a hE
        refine s_int hE (goes_yes hE rfl (lkb rfl hb14)) (by decide) rfl rfl rfl ?_; intro a hE
        refine s_pickF hE goes_none (by decide) (lkb rfl hb14) rfl ?_; intro a hE
        refine s_move hE goes_none (by decide) rfl ?_; intro a hE
        refine splitB (decide ((p0.Records.length : Int) > 12)) (fun hb16 => ?_) (fun hb16 => ?_)
        · have hl4 := ite_t hl4 hb16
          refine s_skip hE rfl (lkb rfl hb16) rfl (by decide) ?_; intro a hE
          refine s_skip hE rfl (lkb rfl hb16) rfl (by decide) ?_; intro a hE
          refine s_skip hE rfl (lkb rfl hb16) rfl (by decide) ?_; intro a hE
          refine s_skip hE rfl (lkb rfl hb16) rfl (by decide) ?_; intro a hE
          refine s_pickT hE goes_none (by decide) (lkb rfl hb16) rfl ?_; intro a hE
          refine c_fin0 ?_
          have ht17 := Option.some.inj hl4
          subst ht17
          refine c_mid ?_
          exact ⟨hE.sub ⟨rfl, rfl, trivial⟩, hM⟩
        · have hl4 := ite_f hl4 hb16
          refine s_fieldAddr hE (goes_yes hE rfl (lkb rfl hb16)) (by decide) rfl (fd49_3) ?_; intro a hE
          refine s_load (v := v0_3) hE (goes_yes hE rfl (lkb rfl hb16)) (by decide) rfl ty46 rfl (At.cat (pre := [[v0_1], [(vI p0.Next)], [v0_2]]) (seg := [v0_3]) (post := [Flat.enc p0.Head]) (hM.rawAt (pre := [])) (cl1 (n := 1) (m := 2) rfl (cl1 (n := 1) (m := 1) rfl (cl1 (n := 1) (m := 0) rfl cl0)))) ?_; intro a hE
          refine s_len hE (goes_yes hE rfl (lkb rfl hb16)) (by decide) rfl Try.underlying46 (hM.rd hv0_3) ?_; intro a hE
          refine s_int hE (goes_yes hE rfl (lkb rfl hb16)) (by decide) rfl rfl rfl ?_; intro a hE
          refine s_pickF hE goes_none (by decide) (lkb rfl hb16) rfl ?_; intro a hE
          refine c_fin0 ?_
          have ht18 := Option.some.inj hl4
          subst ht18
          refine c_mid ?_
          exact ⟨hE.sub ⟨rfl, rfl, trivial⟩, hM⟩
  · skip
    rintro a w ⟨hE, hM⟩
    refine c_cond hE rfl ?_ ?_
    · intro hb19
      have hF5 := ite_t hF5 hb19
      refine c_region ?_
      refine s_assign hE goes_none (by decide) rfl ?_; intro a hE
      refine c_fin ?_
      have hr := Option.some.inj hF5
      subst hr
      have hM := M.fst (l := []) hM
      exact wp_ret (r_then (k_ret1 hE rfl (res_tmp hE rfl) ⟨_, rfl, rfl, hM.kept⟩))
    · intro hb19
      have hF5 := ite_f hF5 hb19
      refine wp_skip ?_
      refine c_nx ?_
      refine wp_seq ?_
      refine c_region ?_
      refine s_fieldAddr hE goes_none (by decide) rfl (fd49_2) ?_; intro a hE
      refine s_load (v := v0_2) hE goes_none (by decide) rfl ty45 rfl (At.cat (pre := [[v0_1], [(vI p0.Next)]]) (seg := [v0_2]) (post := [[v0_3], Flat.enc p0.Head]) (hM.rawAt (pre := [])) (cl1 (n := 1) (m := 1) rfl (cl1 (n := 1) (m := 0) rfl cl0))) ?_; intro a hE
      refine s_len hE goes_none (by decide) rfl Try.underlying45 (hM.rd hv0_2) ?_; intro a hE
      refine s_move hE goes_none (by decide) rfl ?_; intro a hE
      refine c_fin ?_
      obtain ⟨j20, hl21, hF22⟩ := bind_some hF5
      refine c_cut (fun a w => ∃ s23 : Unit, j20 = Fl.nx s23 ∧ Env 84 a [(1, (ptr b1 0))] ∧ M (Old w0) w0 w [raw b1 (cat [[v0_1], [(vI p0.Next)], [v0_2], [v0_3], Flat.enc p0.Head])]) ?_ ?_
      · skip
        refine wp_block ?_
        refine c_loop (fun (s24 : Int) a w => Env 84 a [(1, (ptr b1 0)), (29, v0_2), (30, (vI (p0.Records.length : Int))), (31, (vI s24))] ∧ M (Old w0) w0 w [raw b1 (cat [[v0_1], [(vI p0.Next)], [v0_2], [v0_3], Flat.enc p0.Head])]) hl21 ⟨hE.sub ⟨rfl, rfl, rfl, rfl, trivial⟩, hM⟩ ?_
        rintro s24 a w ⟨hE, hM⟩ o27 hs25 hx26
        unfold L0_impl_IsVault at hs25
        refine c_region ?_
        refine s_int hE goes_none (by decide) rfl rfl rfl ?_; intro a hE
        refine c_fin ?_
        refine wp_seq ?_
        refine c_cond hE rfl ?_ ?_
        · intro hb28
          have hs25 := ite_t hs25 hb28
          refine wp_skip ?_
          refine c_nx ?_
          refine wp_seq ?_
          refine wp_block ?_
          refine c_region ?_
          refine s_move hE goes_none (by decide) rfl ?_; intro a hE
          obtain ⟨x29, e30, hs25⟩ := bind_some hs25
          have hi31 := idx_some e30
          refine s_indexS hE goes_none (by decide) rfl rfl Try.underlying45 ty106 (hM.rd hv0_2) hi31.1 ?_; intro a hE
          obtain ⟨cs32, hs33, hA34⟩ := sl_atRo hv0_2 hi31.2 -- ^
          obtain ⟨u35, u37, rfl, h36, h38⟩ := un_GRecord hs33 -- ^
          refine s_loadA (cs := cat [[(vI x29.Number)], [(vI x29.Version)], Flat.enc x29.Nonce, [u35], [u37], Flat.enc x29.Tag]) hE goes_none (by decide) rfl ty106 rfl (hM.atk hA34 (sl_blk hv0_2 hi31.2)) (cat_len (cl1 (n := 1) (m := 51) rfl (cl1 (n := 1) (m := 50) rfl (cl1 (n := 16) (m := 34) (Flat.len _) (cl1 (n := 1) (m := 33) rfl (cl1 (n := 1) (m := 32) rfl (cl1 (n := 32) (m := 0) (Flat.len _) cl0))))))) ?_; intro a hE
          refine s_alloc hE hM goes_none (by decide) ty106 ?_; intro b39 w a hM hE
          refine s_assign hE goes_none (by decide) rfl ?_; intro a hE
          refine s_store (seg := cat [[(vI x29.Number)], [(vI x29.Version)], Flat.enc x29.Nonce, [u35], [u37], Flat.enc x29.Tag]) (cs' := cat [[(vI x29.Number)], [(vI x29.Version)], Flat.enc x29.Nonce, [u35], [u37], Flat.enc x29.Tag]) hE hM goes_none rfl rfl rfl ty106 (cat_len (cl1 (n := 1) (m := 51) rfl (cl1 (n := 1) (m := 50) rfl (cl1 (n := 16) (m := 34) (Flat.len _) (cl1 (n := 1) (m := 33) rfl (cl1 (n := 1) (m := 32) rfl (cl1 (n := 32) (m := 0) (Flat.len _) cl0))))))) (Nat.le_of_eq (by rw [Nat.zero_add]; exact (Eq.trans (cat_len (cl1 (n := 1) (m := 51) rfl (cl1 (n := 1) (m := 50) rfl (cl1 (n := 16) (m := 34) (Flat.len _) (cl1 (n := 1) (m := 33) rfl (cl1 (n := 1) (m := 32) rfl (cl1 (n := 32) (m := 0) (Flat.len _) cl0))))))) (Eq.symm (cat_len (cl1 (n := 1) (m := 51) rfl (cl1 (n := 1) (m := 50) rfl (cl1 (n := 16) (m := 34) (Flat.len _) (cl1 (n := 1) (m := 33) rfl (cl1 (n := 1) (m := 32) rfl (cl1 (n := 32) (m := 0) (Flat.len _) cl0))))))))))) (cat_cell (cc1 (Flat.cell x29.Number) (cc1 (Flat.cell x29.Version) (cc1 (Flat.cell _) (cc1 (Rep.cell (hM.rd h36)) (cc1 (Rep.cell (hM.rd h38)) (cc1 (Flat.cell _) cc0))))))) (splice_all (Eq.trans (cat_len (cl1 (n := 1) (m := 51) rfl (cl1 (n := 1) (m := 50) rfl (cl1 (n := 16) (m := 34) (Flat.len _) (cl1 (n := 1) (m := 33) rfl (cl1 (n := 1) (m := 32) rfl (cl1 (n := 32) (m := 0) (Flat.len _) cl0))))))) (Eq.symm (cat_len (cl1 (n := 1) (m := 51) rfl (cl1 (n := 1) (m := 50) rfl (cl1 (n := 16) (m := 34) (Flat.len _) (cl1 (n := 1) (m := 33) rfl (cl1 (n := 1) (m := 32) rfl (cl1 (n := 32) (m := 0) (Flat.len _) cl0)))))))))) ?_; intro w a hM hE
          refine c_fin ?_
          refine wp_seq ?_
          obtain ⟨j41, hl42, hF43⟩ := bind_some hs25
          refine c_join (fun a w => Env 84 a [(1, (ptr b1 0)), (4, (ptr b39 0)), (29, v0_2), (30, (vI (p0.Records.length : Int))), (31, (vI s24)), (58, (vT j41))] ∧ M (Old w0) w0 w [raw b39 (cat [[(vI x29.Number)], [(vI x29.Version)], Flat.enc x29.Nonce, [u35], [u37], Flat.enc x29.Tag]), raw b1 (cat [[v0_1], [(vI p0.Next)], [v0_2], [v0_3], Flat.enc p0.Head])]) ?_ ?_
          · skip
            obtain ⟨r45, e46, hl42⟩ := bind_some hl42
            refine splitB (!r45) (fun hb47 => ?_) (fun hb47 => ?_)
            · have hl42 := ite_t hl42 hb47
              refine c_draw (n := 84) (hd := [_, _, _, _, _, _, _, _, _, _, _, _, _, _, _, _, _, _, _, _, _, _, _]) (tl := []) hmix rfl rfl [36, 37, 38, 39, 40, 41, 42, 43, 44, 45, 46, 47, 48, 49, 50, 51, 52, 53, 54, 55, 56, 57, 58] (by decide) (fun w => M (Old w0) w0 w [raw b39 (cat [[(vI x29.Number)], [(vI x29.Version)], Flat.enc x29.Nonce, [u35], [u37], Flat.enc x29.Tag]), raw b1 (cat [[v0_1], [(vI p0.Next)], [v0_2], [v0_3], Flat.enc p0.Head])]) (fun j => ([fun v _ => v = (ptr b39 (0 + 0)), fun v _ => v = (vI x29.Number), fun v _ => v = (ptr b1 (0 + 1)), fun v _ => v = (vI p0.Next), fun v _ => v = (vI (wr (p0.Next - 1))), fun v _ => v = (vT r45), fun v _ => v = (vT (!r45)), fun v _ => v = (vT (!r45)), fun v _ => v = undef, fun v _ => v = undef, fun v _ => v = undef, fun v _ => v = undef, fun v _ => v = undef, fun v _ => v = undef, fun v _ => v = undef, fun v _ => v = undef, fun v _ => v = undef, fun v _ => v = undef, fun v _ => v = undef, fun v _ => v = undef, fun v _ => v = undef, fun v _ => v = undef, fun v _ => v = (vT true)] : List (Value → World → Prop)).getD j (fun _ _ => True)) (fun _ _ h hk => h.keep hk) (gup (gupE (gupE (gupE (gupE (gupE (gupE (gupE (gupE (gupE (gupE (gupE (gupE (gupE (gupE (gupE (gupE (gupE (gupE (gupE (gupE (gupE (gupE (gupE gupN)))))))))))))))))))))))) hE hM.drew (steps_of (steps_cons ?_ (steps_cons ?_ (steps_cons ?_ (steps_cons ?_ (steps_cons ?_ (steps_cons ?_ (steps_cons ?_ (steps_cons ?_ (steps_cons ?_ (steps_cons ?_ (steps_cons ?_ (steps_cons ?_ (steps_cons ?_ (steps_cons ?_ (steps_cons ?_ (steps_cons ?_ (steps_cons ?_ (steps_cons ?_ (steps_cons ?_ (steps_cons ?_ (steps_cons ?_ (steps_cons ?_ (steps_cons ?_ steps_nil)))))))))))))))))))))))) ?_
              · intro a w ux44 hE hM hp
                refine s_fieldAddr hE goes_none (by decide) rfl (fd106_0) ?_; intro a hE
                exact ⟨Kept.refl _ _, _, _, rfl, hE, rfl⟩
              · intro a w ux44 hE hM hp
                have f0 : ux44 0 = (ptr b39 (0 + 0)) := hp 0 _ rfl rfl
                refine s_load (v := (vI x29.Number)) hE goes_none (by decide) (lk rfl f0) ty2 rfl (At.cat (pre := []) (seg := [(vI x29.Number)]) (post := [[(vI x29.Version)], Flat.enc x29.Nonce, [u35], [u37], Flat.enc x29.Tag]) (hM.rawAt (pre := [])) cl0) ?_; intro a hE
                exact ⟨Kept.refl _ _, _, _, rfl, hE, rfl⟩
              · intro a w ux44 hE hM hp
                refine s_fieldAddr hE goes_none (by decide) rfl (fd49_1) ?_; intro a hE
                exact ⟨Kept.refl _ _, _, _, rfl, hE, rfl⟩
              · intro a w ux44 hE hM hp
                have f2 : ux44 2 = (ptr b1 (0 + 1)) := hp 0 _ rfl rfl
                refine s_load (v := (vI p0.Next)) hE goes_none (by decide) (lk rfl f2) ty2 rfl (At.cat (pre := [[v0_1]]) (seg := [(vI p0.Next)]) (post := [[v0_2], [v0_3], Flat.enc p0.Head]) (hM.rawAt (pre := [_])) (cl1 (n := 1) (m := 0) rfl cl0)) ?_; intro a hE
                exact ⟨Kept.refl _ _, _, _, rfl, hE, rfl⟩
              · intro a w ux44 hE hM hp
                have f3 : ux44 3 = (vI p0.Next) := hp 0 _ rfl rfl
                refine s_int hE goes_none (by decide) (lk rfl f3) rfl rfl ?_; intro a hE
                exact ⟨Kept.refl _ _, _, _, rfl, hE, rfl⟩
              · intro a w ux44 hE hM hp
                have f1 : ux44 1 = (vI x29.Number) := hp 0 _ rfl rfl
                have f4 : ux44 4 = (vI (wr (p0.Next - 1))) := hp 1 _ rfl rfl
                refine s_call (vs := [(vI x29.Number), (vI 1), (vI (wr (p0.Next - 1)))]) hE goes_none (by decide) (evs_of (evsC (lk rfl f1) (evsC rfl (evsC (lk rfl f4) evsN)))) cb56 (c_impl_inRange _ x29.Number 1 (wr (p0.Next - 1)) r45 e46) ?_
                rintro v w a ⟨rfl, hK⟩ hE
                exact ⟨hK, _, _, rfl, hE, rfl⟩
              · intro a w ux44 hE hM hp
                have f5 : ux44 5 = (vT r45) := hp 0 _ rfl rfl
                refine s_not hE goes_none (by decide) (lk rfl f5) ?_; intro a hE
                exact ⟨Kept.refl _ _, _, _, rfl, hE, rfl⟩
              · intro a w ux44 hE hM hp
                have f6 : ux44 6 = (vT (!r45)) := hp 0 _ rfl rfl
                refine s_move hE goes_none (by decide) (lk rfl f6) ?_; intro a hE
                exact ⟨Kept.refl _ _, _, _, rfl, hE, rfl⟩
              · intro a w ux44 hE hM hp
                have f7 : ux44 7 = (vT (!r45)) := hp 0 _ rfl rfl
                refine s_skip hE rfl (lkb (lk rfl f7) hb47) rfl (by decide) ?_; intro a hE
                exact ⟨Kept.refl _ _, _, _, rfl, hE, rfl⟩
              · intro a w ux44 hE hM hp
                have f7 : ux44 7 = (vT (!r45)) := hp 1 _ rfl rfl
                have f8 : ux44 8 = undef := hp 0 _ rfl rfl
                refine s_skip hE rfl (lkb (lk rfl f7) hb47) rfl (by decide) ?_; intro a hE
                exact ⟨Kept.refl _ _, _, _, rfl, hE, rfl⟩
              · intro a w ux44 hE hM hp
                have f7 : ux44 7 = (vT (!r45)) := hp 1 _ rfl rfl
                have f9 : ux44 9 = undef := hp 0 _ rfl rfl
                refine s_skip hE rfl (lkb (lk rfl f7) hb47) rfl (by decide) ?_; intro a hE
                exact ⟨Kept.refl _ _, _, _, rfl, hE, rfl⟩
              · intro a w ux44 hE hM hp
                have f10 : ux44 10 = undef := hp 0 _ rfl rfl
                refine s_skipU hE rfl (lk rfl f10) (by decide) ?_; intro a hE
                exact ⟨Kept.refl _ _, _, _, rfl, hE, rfl⟩
              · intro a w ux44 hE hM hp
                have f10 : ux44 10 = undef := hp 1 _ rfl rfl
                have f11 : ux44 11 = undef := hp 0 _ rfl rfl
                refine s_skipU hE rfl (lk rfl f10) (by decide) ?_; intro a hE
                exact ⟨Kept.refl _ _, _, _, rfl, hE, rfl⟩
              · intro a w ux44 hE hM hp
                have f10 : ux44 10 = undef := hp 0 _ rfl rfl
                refine s_skipU hE rfl (lk rfl f10) (by decide) ?_; intro a hE
                exact ⟨Kept.refl _ _, _, _, rfl, hE, rfl⟩
              · intro a w ux44 hE hM hp
                have f10 : ux44 10 = undef := hp 1 _ rfl rfl
                have f13 : ux44 13 = undef := hp 0 _ rfl rfl
                refine s_skipU hE rfl (lk rfl f10) (by decide) ?_; intro a hE
                exact ⟨Kept.refl _ _, _, _, rfl, hE, rfl⟩
              · intro a w ux44 hE hM hp
                have f10 : ux44 10 = undef := hp 2 _ rfl rfl
                have f12 : ux44 12 = undef := hp 0 _ rfl rfl
                have f14 : ux44 14 = undef := hp 1 _ rfl rfl
                refine s_skipU hE rfl (lk rfl f10) (by decide) ?_; intro a hE
                exact ⟨Kept.refl _ _, _, _, rfl, hE, rfl⟩
              · intro a w ux44 hE hM hp
                have f10 : ux44 10 = undef := hp 1 _ rfl rfl
                have f15 : ux44 15 = undef := hp 0 _ rfl rfl
                refine s_skipU hE rfl (lk rfl f10) (by decide) ?_; intro a hE
                exact ⟨Kept.refl _ _, _, _, rfl, hE, rfl⟩
              · intro a w ux44 hE hM hp
                have f10 : ux44 10 = undef := hp 1 _ rfl rfl
                have f16 : ux44 16 = undef := hp 0 _ rfl rfl
                refine s_skipU hE rfl (lk rfl f10) (by decide) ?_; intro a hE
                exact ⟨Kept.refl _ _, _, _, rfl, hE, rfl⟩
              · intro a w ux44 hE hM hp
                have f10 : ux44 10 = undef := hp 0 _ rfl rfl
                refine s_skipU hE rfl (lk rfl f10) (by decide) ?_; intro a hE
                exact ⟨Kept.refl _ _, _, _, rfl, hE, rfl⟩
              · intro a w ux44 hE hM hp
                have f10 : ux44 10 = undef := hp 1 _ rfl rfl
                have f18 : ux44 18 = undef := hp 0 _ rfl rfl
                refine s_skipU hE rfl (lk rfl f10) (by decide) ?_; intro a hE
                exact ⟨Kept.refl _ _, _, _, rfl, hE, rfl⟩
              · intro a w ux44 hE hM hp
                have f10 : ux44 10 = undef := hp 2 _ rfl rfl
                have f17 : ux44 17 = undef := hp 0 _ rfl rfl
                have f19 : ux44 19 = undef := hp 1 _ rfl rfl
                refine s_skipU hE rfl (lk rfl f10) (by decide) ?_; intro a hE
                exact ⟨Kept.refl _ _, _, _, rfl, hE, rfl⟩
              · intro a w ux44 hE hM hp
                have f7 : ux44 7 = (vT (!r45)) := hp 2 _ rfl rfl
                have f10 : ux44 10 = undef := hp 0 _ rfl rfl
                have f20 : ux44 20 = undef := hp 1 _ rfl rfl
                refine s_skip hE rfl (lkb (lk rfl f7) hb47) rfl (by decide) ?_; intro a hE
                exact ⟨Kept.refl _ _, _, _, rfl, hE, rfl⟩
              · intro a w ux44 hE hM hp
                have f7 : ux44 7 = (vT (!r45)) := hp 0 _ rfl rfl
                have f21 : ux44 21 = undef := hp 1 _ rfl rfl
                refine s_pickT hE goes_none (by decide) (lkb (lk rfl f7) hb47) rfl ?_; intro a hE
                exact ⟨Kept.refl _ _, _, _, rfl, hE, rfl⟩
              · intro a w ux44 hE hM hg
                have f0 : ux44 0 = (ptr b39 (0 + 0)) := hg 0 (by decide)
                have f1 : ux44 1 = (vI x29.Number) := hg 1 (by decide)
                have f2 : ux44 2 = (ptr b1 (0 + 1)) := hg 2 (by decide)
                have f3 : ux44 3 = (vI p0.Next) := hg 3 (by decide)
                have f4 : ux44 4 = (vI (wr (p0.Next - 1))) := hg 4 (by decide)
                have f5 : ux44 5 = (vT r45) := hg 5 (by decide)
                have f6 : ux44 6 = (vT (!r45)) := hg 6 (by decide)
                have f7 : ux44 7 = (vT (!r45)) := hg 7 (by decide)
                have f8 : ux44 8 = undef := hg 8 (by decide)
                have f9 : ux44 9 = undef := hg 9 (by decide)
                have f10 : ux44 10 = undef := hg 10 (by decide)
                have f11 : ux44 11 = undef := hg 11 (by decide)
                have f12 : ux44 12 = undef := hg 12 (by decide)
                have f13 : ux44 13 = undef := hg 13 (by decide)
                have f14 : ux44 14 = undef := hg 14 (by decide)
                have f15 : ux44 15 = undef := hg 15 (by decide)
                have f16 : ux44 16 = undef := hg 16 (by decide)
                have f17 : ux44 17 = undef := hg 17 (by decide)
                have f18 : ux44 18 = undef := hg 18 (by decide)
                have f19 : ux44 19 = undef := hg 19 (by decide)
                have f20 : ux44 20 = undef := hg 20 (by decide)
                have f21 : ux44 21 = undef := hg 21 (by decide)
                have f22 : ux44 22 = (vT true) := hg 22 (by decide)
                have hE := hE.sub (e' := [(36, (ptr b39 (0 + 0))), (37, (vI x29.Number)), (38, (ptr b1 (0 + 1))), (39, (vI p0.Next)), (40, (vI (wr (p0.Next - 1)))), (41, (vT r45)), (42, (vT (!r45))), (43, (vT (!r45))), (44, undef), (45, undef), (46, undef), (47, undef), (48, undef), (49, undef), (50, undef), (51, undef), (52, undef), (53, undef), (54, undef), (55, undef), (56, undef), (57, undef), (58, (vT true)), (1, (ptr b1 0)), (3, (vI s24)), (4, (ptr b39 0)), (29, v0_2), (30, (vI (p0.Records.length : Int))), (31, (vI s24)), (32, (vT (decide (s24 < (p0.Records.length : Int))))), (33, (vI s24)), (34, (ptr (sb v0_2) (so v0_2 + (s24).toNat * 52))), (35, (Value.agg (cat [[(vI x29.Number)], [(vI x29.Version)], Flat.enc x29.Nonce, [u35], [u37], Flat.enc x29.Tag]).toArray))]) ⟨lk rfl f0, lk rfl f1, lk rfl f2, lk rfl f3, lk rfl f4, lk rfl f5, lk rfl f6, lk rfl f7, lk rfl f8, lk rfl f9, lk rfl f10, lk rfl f11, lk rfl f12, lk rfl f13, lk rfl f14, lk rfl f15, lk rfl f16, lk rfl f17, lk rfl f18, lk rfl f19, lk rfl f20, lk rfl f21, lk rfl f22, rfl, rfl, rfl, rfl, rfl, rfl, rfl, rfl, rfl, rfl, trivial⟩
                refine c_fin0 ?_
                have ht48 := Option.some.inj hl42
                subst ht48
                refine c_mid ?_
                exact ⟨hE.sub ⟨rfl, rfl, rfl, rfl, rfl, rfl, trivial⟩, hM⟩
            · have hl42 := ite_f hl42 hb47
              refine splitB (decide (s24 > 0)) (fun hb49 => ?_) (fun hb49 => ?_)
              · have hl42 := ite_t hl42 hb49
                obtain ⟨x50, e51, hl42⟩ := bind_some hl42
                have hi52 := idx_some e51
                obtain ⟨cs53, hs54, hA55⟩ := sl_atRo hv0_2 hi52.2 -- ^
                obtain ⟨u56, u58, rfl, h57, h59⟩ := un_GRecord hs54 -- ^
                refine c_draw (n := 84) (hd := [_, _, _, _, _, _, _, _, _, _, _, _, _, _, _, _, _, _, _, _, _, _, _]) (tl := []) hmix rfl rfl [36, 37, 38, 39, 40, 41, 42, 43, 44, 45, 46, 47, 48, 49, 50, 51, 52, 53, 54, 55, 56, 57, 58] (by decide) (fun w => M (Old w0) w0 w [raw b39 (cat [[(vI x29.Number)], [(vI x29.Version)], Flat.enc x29.Nonce, [u35], [u37], Flat.enc x29.Tag]), raw b1 (cat [[v0_1], [(vI p0.Next)], [v0_2], [v0_3], Flat.enc p0.Head])]) (fun j => ([fun v _ => v = (ptr b39 (0 + 0)), fun v _ => v = (vI x29.Number), fun v _ => v = (ptr b1 (0 + 1)), fun v _ => v = (vI p0.Next), fun v _ => v = (vI (wr (p0.Next - 1))), fun v _ => v = (vT r45), fun v _ => v = (vT (!r45)), fun v _ => v = (vT (!r45)), fun v _ => v = (vI s24), fun v _ => v = (vT (decide (s24 > 0))), fun v _ => v = (vT (decide (s24 > 0))), fun v _ => v = (ptr b1 (0 + 2)), fun v _ => v = v0_2, fun v _ => v = (vI s24), fun v _ => v = (vI (wr (s24 - 1))), fun v _ => v = (ptr (sb v0_2) (so v0_2 + ((wr (s24 - 1))).toNat * 52)), fun v _ => v = (ptr (sb v0_2) (so v0_2 + ((wr (s24 - 1))).toNat * 52 + 0)), fun v _ => v = (vI x50.Number), fun v _ => v = (ptr b39 (0 + 0)), fun v _ => v = (vI x29.Number), fun v _ => v = (vT (decide (x50.Number ≥ x29.Number))), fun v _ => v = (vT (decide (x50.Number ≥ x29.Number))), fun v _ => v = (vT (decide (x50.Number ≥ x29.Number)))] : List (Value → World → Prop)).getD j (fun _ _ => True)) (fun _ _ h hk => h.keep hk) (gup (gupE (gupE (gupE (gupE (gupE (gupE (gupE (gupE (gupE (gupE (gupE (gupE (gupE (gupE (gupE (gupE (gupE (gupE (gupE (gupE (gupE (gupE (gupE gupN)))))))))))))))))))))))) hE hM.drew (steps_of (steps_cons ?_ (steps_cons ?_ (steps_cons ?_ (steps_cons ?_ (steps_cons ?_ (steps_cons ?_ (steps_cons ?_ (steps_cons ?_ (steps_cons ?_ (steps_cons ?_ (steps_cons ?_ (steps_cons ?_ (steps_cons ?_ (steps_cons ?_ (steps_cons ?_ (steps_cons ?_ (steps_cons ?_ (steps_cons ?_ (steps_cons ?_ (steps_cons ?_ (steps_cons ?_ (steps_cons ?_ (steps_cons ?_ steps_nil)))))))))))))))))))))))) ?_
                · intro a w ux44 hE hM hp
                  refine s_fieldAddr hE goes_none (by decide) rfl (fd106_0) ?_; intro a hE
                  exact ⟨Kept.refl _ _, _, _, rfl, hE, rfl⟩
                · intro a w ux44 hE hM hp
                  have f0 : ux44 0 = (ptr b39 (0 + 0)) := hp 0 _ rfl rfl
                  refine s_load (v := (vI x29.Number)) hE goes_none (by decide) (lk rfl f0) ty2 rfl (At.cat (pre := []) (seg := [(vI x29.Number)]) (post := [[(vI x29.Version)], Flat.enc x29.Nonce, [u35], [u37], Flat.enc x29.Tag]) (hM.rawAt (pre := [])) cl0) ?_; intro a hE
                  exact ⟨Kept.refl _ _, _, _, rfl, hE, rfl⟩
                · intro a w ux44 hE hM hp
                  refine s_fieldAddr hE goes_none (by decide) rfl (fd49_1) ?_; intro a hE
                  exact ⟨Kept.refl _ _, _, _, rfl, hE, rfl⟩
                · intro a w ux44 hE hM hp
                  have f2 : ux44 2 = (ptr b1 (0 + 1)) := hp 0 _ rfl rfl
                  refine s_load (v := (vI p0.Next)) hE goes_none (by decide) (lk rfl f2) ty2 rfl (At.cat (pre := [[v0_1]]) (seg := [(vI p0.Next)]) (post := [[v0_2], [v0_3], Flat.enc p0.Head]) (hM.rawAt (pre := [_])) (cl1 (n := 1) (m := 0) rfl cl0)) ?_; intro a hE
                  exact ⟨Kept.refl _ _, _, _, rfl, hE, rfl⟩
                · intro a w ux44 hE hM hp
                  have f3 : ux44 3 = (vI p0.Next) := hp 0 _ rfl rfl
                  refine s_int hE goes_none (by decide) (lk rfl f3) rfl rfl ?_; intro a hE
                  exact ⟨Kept.refl _ _, _, _, rfl, hE, rfl⟩
                · intro a w ux44 hE hM hp
                  have f1 : ux44 1 = (vI x29.Number) := hp 0 _ rfl rfl
                  have f4 : ux44 4 = (vI (wr (p0.Next - 1))) := hp 1 _ rfl rfl
                  refine s_call (vs := [(vI x29.Number), (vI 1), (vI (wr (p0.Next - 1)))]) hE goes_none (by decide) (evs_of (evsC (lk rfl f1) (evsC rfl (evsC (lk rfl f4) evsN)))) cb56 (c_impl_inRange _ x29.Number 1 (wr (p0.Next - 1)) r45 e46) ?_
                  rintro v w a ⟨rfl, hK⟩ hE
                  exact ⟨hK, _, _, rfl, hE, rfl⟩
                · intro a w ux44 hE hM hp
                  have f5 : ux44 5 = (vT r45) := hp 0 _ rfl rfl
                  refine s_not hE goes_none (by decide) (lk rfl f5) ?_; intro a hE
                  exact ⟨Kept.refl _ _, _, _, rfl, hE, rfl⟩
                · intro a w ux44 hE hM hp
                  have f6 : ux44 6 = (vT (!r45)) := hp 0 _ rfl rfl
                  refine s_move hE goes_none (by decide) (lk rfl f6) ?_; intro a hE
                  exact ⟨Kept.refl _ _, _, _, rfl, hE, rfl⟩
                · intro a w ux44 hE hM hp
                  have f7 : ux44 7 = (vT (!r45)) := hp 0 _ rfl rfl
                  refine s_move hE (goes_yes hE rfl (lkb (lk rfl f7) hb47)) (by decide) rfl ?_; intro a hE
                  exact ⟨Kept.refl _ _, _, _, rfl, hE, rfl⟩
                · intro a w ux44 hE hM hp
                  have f7 : ux44 7 = (vT (!r45)) := hp 1 _ rfl rfl
                  have f8 : ux44 8 = (vI s24) := hp 0 _ rfl rfl
                  refine s_int hE (goes_yes hE rfl (lkb (lk rfl f7) hb47)) (by decide) (lk rfl f8) rfl rfl ?_; intro a hE
                  exact ⟨Kept.refl _ _, _, _, rfl, hE, rfl⟩
                · intro a w ux44 hE hM hp
                  have f7 : ux44 7 = (vT (!r45)) := hp 1 _ rfl rfl
                  have f9 : ux44 9 = (vT (decide (s24 > 0))) := hp 0 _ rfl rfl
                  refine s_move hE (goes_yes hE rfl (lkb (lk rfl f7) hb47)) (by decide) (lk rfl f9) ?_; intro a hE
                  exact ⟨Kept.refl _ _, _, _, rfl, hE, rfl⟩
                · intro a w ux44 hE hM hp
                  have f10 : ux44 10 = (vT (decide (s24 > 0))) := hp 0 _ rfl rfl
                  refine s_fieldAddr hE (goes_yes hE rfl (lkb (lk rfl f10) hb49)) (by decide) rfl (fd49_2) ?_; intro a hE
                  exact ⟨Kept.refl _ _, _, _, rfl, hE, rfl⟩
                · intro a w ux44 hE hM hp
                  have f10 : ux44 10 = (vT (decide (s24 > 0))) := hp 1 _ rfl rfl
                  have f11 : ux44 11 = (ptr b1 (0 + 2)) := hp 0 _ rfl rfl
                  refine s_load (v := v0_2) hE (goes_yes hE rfl (lkb (lk rfl f10) hb49)) (by decide) (lk rfl f11) ty45 rfl (At.cat (pre := [[v0_1], [(vI p0.Next)]]) (seg := [v0_2]) (post := [[v0_3], Flat.enc p0.Head]) (hM.rawAt (pre := [_])) (cl1 (n := 1) (m := 1) rfl (cl1 (n := 1) (m := 0) rfl cl0))) ?_; intro a hE
                  exact ⟨Kept.refl _ _, _, _, rfl, hE, rfl⟩
                · intro a w ux44 hE hM hp
                  have f10 : ux44 10 = (vT (decide (s24 > 0))) := hp 0 _ rfl rfl
                  refine s_move hE (goes_yes hE rfl (lkb (lk rfl f10) hb49)) (by decide) rfl ?_; intro a hE
                  exact ⟨Kept.refl _ _, _, _, rfl, hE, rfl⟩
                · intro a w ux44 hE hM hp
                  have f10 : ux44 10 = (vT (decide (s24 > 0))) := hp 1 _ rfl rfl
                  have f13 : ux44 13 = (vI s24) := hp 0 _ rfl rfl
                  refine s_int hE (goes_yes hE rfl (lkb (lk rfl f10) hb49)) (by decide) (lk rfl f13) rfl rfl ?_; intro a hE
                  exact ⟨Kept.refl _ _, _, _, rfl, hE, rfl⟩
                · intro a w ux44 hE hM hp
                  have f10 : ux44 10 = (vT (decide (s24 > 0))) := hp 2 _ rfl rfl
                  have f12 : ux44 12 = v0_2 := hp 0 _ rfl rfl
                  have f14 : ux44 14 = (vI (wr (s24 - 1))) := hp 1 _ rfl rfl
                  refine s_indexS hE (goes_yes hE rfl (lkb (lk rfl f10) hb49)) (by decide) (lk rfl f12) (lk rfl f14) Try.underlying45 ty106 (hM.rd hv0_2) hi52.1 ?_; intro a hE
                  exact ⟨Kept.refl _ _, _, _, rfl, hE, rfl⟩
                · intro a w ux44 hE hM hp
                  have f10 : ux44 10 = (vT (decide (s24 > 0))) := hp 1 _ rfl rfl
                  have f15 : ux44 15 = (ptr (sb v0_2) (so v0_2 + ((wr (s24 - 1))).toNat * 52)) := hp 0 _ rfl rfl
                  refine s_fieldAddr hE (goes_yes hE rfl (lkb (lk rfl f10) hb49)) (by decide) (lk rfl f15) (fd106_0) ?_; intro a hE
                  exact ⟨Kept.refl _ _, _, _, rfl, hE, rfl⟩
                · intro a w ux44 hE hM hp
                  have f10 : ux44 10 = (vT (decide (s24 > 0))) := hp 1 _ rfl rfl
                  have f16 : ux44 16 = (ptr (sb v0_2) (so v0_2 + ((wr (s24 - 1))).toNat * 52 + 0)) := hp 0 _ rfl rfl
                  refine s_load (v := (vI x50.Number)) hE (goes_yes hE rfl (lkb (lk rfl f10) hb49)) (by decide) (lk rfl f16) ty2 rfl (At.cat (pre := []) (seg := [(vI x50.Number)]) (post := [[(vI x50.Version)], Flat.enc x50.Nonce, [u56], [u58], Flat.enc x50.Tag]) (hM.atk hA55 (sl_blk hv0_2 hi52.2)) cl0) ?_; intro a hE
                  exact ⟨Kept.refl _ _, _, _, rfl, hE, rfl⟩
                · intro a w ux44 hE hM hp
                  have f10 : ux44 10 = (vT (decide (s24 > 0))) := hp 0 _ rfl rfl
                  refine s_fieldAddr hE (goes_yes hE rfl (lkb (lk rfl f10) hb49)) (by decide) rfl (fd106_0) ?_; intro a hE
                  exact ⟨Kept.refl _ _, _, _, rfl, hE, rfl⟩
                · intro a w ux44 hE hM hp
                  have f10 : ux44 10 = (vT (decide (s24 > 0))) := hp 1 _ rfl rfl
                  have f18 : ux44 18 = (ptr b39 (0 + 0)) := hp 0 _ rfl rfl
                  refine s_load (v := (vI x29.Number)) hE (goes_yes hE rfl (lkb (lk rfl f10) hb49)) (by decide) (lk rfl f18) ty2 rfl (At.cat (pre := []) (seg := [(vI x29.Number)]) (post := [[(vI x29.Version)], Flat.enc x29.Nonce, [u35], [u37], Flat.enc x29.Tag]) (hM.rawAt (pre := [])) cl0) ?_; intro a hE
                  exact ⟨Kept.refl _ _, _, _, rfl, hE, rfl⟩
                · intro a w ux44 hE hM hp
                  have f10 : ux44 10 = (vT (decide (s24 > 0))) := hp 2 _ rfl rfl
                  have f17 : ux44 17 = (vI x50.Number) := hp 0 _ rfl rfl
                  have f19 : ux44 19 = (vI x29.Number) := hp 1 _ rfl rfl
                  refine s_int hE (goes_yes hE rfl (lkb (lk rfl f10) hb49)) (by decide) (lk rfl f17) (lk rfl f19) rfl ?_; intro a hE
                  exact ⟨Kept.refl _ _, _, _, rfl, hE, rfl⟩
                · intro a w ux44 hE hM hp
                  have f7 : ux44 7 = (vT (!r45)) := hp 2 _ rfl rfl
                  have f10 : ux44 10 = (vT (decide (s24 > 0))) := hp 0 _ rfl rfl
                  have f20 : ux44 20 = (vT (decide (x50.Number ≥ x29.Number))) := hp 1 _ rfl rfl
                  refine s_pickT hE (goes_yes hE rfl (lkb (lk rfl f7) hb47)) (by decide) (lkb (lk rfl f10) hb49) (lk rfl f20) ?_; intro a hE
                  exact ⟨Kept.refl _ _, _, _, rfl, hE, rfl⟩
                · intro a w ux44 hE hM hp
                  have f7 : ux44 7 = (vT (!r45)) := hp 0 _ rfl rfl
                  have f21 : ux44 21 = (vT (decide (x50.Number ≥ x29.Number))) := hp 1 _ rfl rfl
                  refine s_pickF hE goes_none (by decide) (lkb (lk rfl f7) hb47) (lk rfl f21) ?_; intro a hE
                  exact ⟨Kept.refl _ _, _, _, rfl, hE, rfl⟩
                · intro a w ux44 hE hM hg
                  have f0 : ux44 0 = (ptr b39 (0 + 0)) := hg 0 (by decide)
                  have f1 : ux44 1 = (vI x29.Number) := hg 1 (by decide)
                  have f2 : ux44 2 = (ptr b1 (0 + 1)) := hg 2 (by decide)
                  have f3 : ux44 3 = (vI p0.Next) := hg 3 (by decide)
                  have f4 : ux44 4 = (vI (wr (p0.Next - 1))) := hg 4 (by decide)
                  have f5 : ux44 5 = (vT r45) := hg 5 (by decide)
                  have f6 : ux44 6 = (vT (!r45)) := hg 6 (by decide)
                  have f7 : ux44 7 = (vT (!r45)) := hg 7 (by decide)
                  have f8 : ux44 8 = (vI s24) := hg 8 (by decide)
                  have f9 : ux44 9 = (vT (decide (s24 > 0))) := hg 9 (by decide)
                  have f10 : ux44 10 = (vT (decide (s24 > 0))) := hg 10 (by decide)
                  have f11 : ux44 11 = (ptr b1 (0 + 2)) := hg 11 (by decide)
                  have f12 : ux44 12 = v0_2 := hg 12 (by decide)
                  have f13 : ux44 13 = (vI s24) := hg 13 (by decide)
                  have f14 : ux44 14 = (vI (wr (s24 - 1))) := hg 14 (by decide)
                  have f15 : ux44 15 = (ptr (sb v0_2) (so v0_2 + ((wr (s24 - 1))).toNat * 52)) := hg 15 (by decide)
                  have f16 : ux44 16 = (ptr (sb v0_2) (so v0_2 + ((wr (s24 - 1))).toNat * 52 + 0)) := hg 16 (by decide)
                  have f17 : ux44 17 = (vI x50.Number) := hg 17 (by decide)
                  have f18 : ux44 18 = (ptr b39 (0 + 0)) := hg 18 (by decide)
                  have f19 : ux44 19 = (vI x29.Number) := hg 19 (by decide)
                  have f20 : ux44 20 = (vT (decide (x50.Number ≥ x29.Number))) := hg 20 (by decide)
                  have f21 : ux44 21 = (vT (decide (x50.Number ≥ x29.Number))) := hg 21 (by decide)
                  have f22 : ux44 22 = (vT (decide (x50.Number ≥ x29.Number))) := hg 22 (by decide)
                  have hE := hE.sub (e' := [(36, (ptr b39 (0 + 0))), (37, (vI x29.Number)), (38, (ptr b1 (0 + 1))), (39, (vI p0.Next)), (40, (vI (wr (p0.Next - 1)))), (41, (vT r45)), (42, (vT (!r45))), (43, (vT (!r45))), (44, (vI s24)), (45, (vT (decide (s24 > 0)))), (46, (vT (decide (s24 > 0)))), (47, (ptr b1 (0 + 2))), (48, v0_2), (49, (vI s24)), (50, (vI (wr (s24 - 1)))), (51, (ptr (sb v0_2) (so v0_2 + ((wr (s24 - 1))).toNat * 52))), (52, (ptr (sb v0_2) (so v0_2 + ((wr (s24 - 1))).toNat * 52 + 0))), (53, (vI x50.Number)), (54, (ptr b39 (0 + 0))), (55, (vI x29.Number)), (56, (vT (decide (x50.Number ≥ x29.Number)))), (57, (vT (decide (x50.Number ≥ x29.Number)))), (58, (vT (decide (x50.Number ≥ x29.Number)))), (1, (ptr b1 0)), (3, (vI s24)), (4, (ptr b39 0)), (29, v0_2), (30, (vI (p0.Records.length : Int))), (31, (vI s24)), (32, (vT (decide (s24 < (p0.Records.length : Int))))), (33, (vI s24)), (34, (ptr (sb v0_2) (so v0_2 + (s24).toNat * 52))), (35, (Value.agg (cat [[(vI x29.Number)], [(vI x29.Version)], Flat.enc x29.Nonce, [u35], [u37], Flat.enc x29.Tag]).toArray))]) ⟨lk rfl f0, lk rfl f1, lk rfl f2, lk rfl f3, lk rfl f4, lk rfl f5, lk rfl f6, lk rfl f7, lk rfl f8, lk rfl f9, lk rfl f10, lk rfl f11, lk rfl f12, lk rfl f13, lk rfl f14, lk rfl f15, lk rfl f16, lk rfl f17, lk rfl f18, lk rfl f19, lk rfl f20, lk rfl f21, lk rfl f22, rfl, rfl, rfl, rfl, rfl, rfl, rfl, rfl, rfl, rfl, trivial⟩
                  refine c_fin0 ?_
                  have ht60 := Option.some.inj hl42
                  subst ht60
                  refine c_mid ?_
                  exact ⟨hE.sub ⟨rfl, rfl, rfl, rfl, rfl, rfl, trivial⟩, hM⟩
              · have hl42 := ite_f hl42 hb49
                refine c_draw (n := 84) (hd := [_, _, _, _, _, _, _, _, _, _, _, _, _, _, _, _, _, _, _, _, _, _, _]) (tl := []) hmix rfl rfl [36, 37, 38, 39, 40, 41, 42, 43, 44, 45, 46, 47, 48, 49, 50, 51, 52, 53, 54, 55, 56, 57, 58] (by decide) (fun w => M (Old w0) w0 w [raw b39 (cat [[(vI x29.Number)], [(vI x29.Version)], Flat.enc x29.Nonce, [u35], [u37], Flat.enc x29.Tag]), raw b1 (cat [[v0_1], [(vI p0.Next)], [v0_2], [v0_3], Flat.enc p0.Head])]) (fun j => ([fun v _ => v = (ptr b39 (0 + 0)), fun v _ => v = (vI x29.Number), fun v _ => v = (ptr b1 (0 + 1)), fun v _ => v = (vI p0.Next), fun v _ => v = (vI (wr (p0.Next - 1))), fun v _ => v = (vT r45), fun v _ => v = (vT (!r45)), fun v _ => v = (vT (!r45)), fun v _ => v = (vI s24), fun v _ => v = (vT (decide (s24 > 0))), fun v _ => v = (vT (decide (s24 > 0))), fun v _ => v = undef, fun v _ => v = undef, fun v _ => v = undef, fun v _ => v = undef, fun v _ => v = undef, fun v _ => v = undef, fun v _ => v = undef, fun v _ => v = undef, fun v _ => v = undef, fun v _ => v = undef, fun v _ => v = (vT false), fun v _ => v = (vT false)] : List (Value → World → Prop)).getD j (fun _ _ => True)) (fun _ _ h hk => h.keep hk) (gup (gupE (gupE (gupE (gupE (gupE (gupE (gupE (gupE (gupE (gupE (gupE (gupE (gupE (gupE (gupE (gupE (gupE (gupE (gupE (gupE (gupE (gupE (gupE gupN)))))))))))))))))))))))) hE hM.drew (steps_of (steps_cons ?_ (steps_cons ?_ (steps_cons ?_ (steps_cons ?_ (steps_cons ?_ (steps_cons ?_ (steps_cons ?_ (steps_cons ?_ (steps_cons ?_ (steps_cons ?_ (steps_cons ?_ (steps_cons ?_ (steps_cons ?_ (steps_cons ?_ (steps_cons ?_ (steps_cons ?_ (steps_cons ?_ (steps_cons ?_ (steps_cons ?_ (steps_cons ?_ (steps_cons ?_ (steps_cons ?_ (steps_cons ?_ steps_nil)))))))))))))))))))))))) ?_
                · intro a w ux44 hE hM hp
                  refine s_fieldAddr hE goes_none (by decide) rfl (fd106_0) ?_; intro a hE
                  exact ⟨Kept.refl _ _, _, _, rfl, hE, rfl⟩
                · intro a w ux44 hE hM hp
                  have f0 : ux44 0 = (ptr b39 (0 + 0)) := hp 0 _ rfl rfl
                  refine s_load (v := (vI x29.Number)) hE goes_none (by decide) (lk rfl f0) ty2 rfl (At.cat (pre := []) (seg := [(vI x29.Number)]) (post := [[(vI x29.Version)], Flat.enc x29.Nonce, [u35], [u37], Flat.enc x29.Tag]) (hM.rawAt (pre := [])) cl0) ?_; intro a hE
                  exact ⟨Kept.refl _ _, _, _, rfl, hE, rfl⟩
                · intro a w ux44 hE hM hp
                  refine s_fieldAddr hE goes_none (by decide) rfl (fd49_1) ?_; intro a hE
                  exact ⟨Kept.refl _ _, _, _, rfl, hE, rfl⟩
                · intro a w ux44 hE hM hp
                  have f2 : ux44 2 = (ptr b1 (0 + 1)) := hp 0 _ rfl rfl
                  refine s_load (v := (vI p0.Next)) hE goes_none (by decide) (lk rfl f2) ty2 rfl (At.cat (pre := [[v0_1]]) (seg := [(vI p0.Next)]) (post := [[v0_2], [v0_3], Flat.enc p0.Head]) (hM.rawAt (pre := [_])) (cl1 (n := 1) (m := 0) rfl cl0)) ?_; intro a hE
                  exact ⟨Kept.refl _ _, _, _, rfl, hE, rfl⟩
                · intro a w ux44 hE hM hp
                  have f3 : ux44 3 = (vI p0.Next) := hp 0 _ rfl rfl
                  refine s_int hE goes_none (by decide) (lk rfl f3) rfl rfl ?_; intro a hE
                  exact ⟨Kept.refl _ _, _, _, rfl, hE, rfl⟩
                · intro a w ux44 hE hM hp
                  have f1 : ux44 1 = (vI x29.Number) := hp 0 _ rfl rfl
                  have f4 : ux44 4 = (vI (wr (p0.Next - 1))) := hp 1 _ rfl rfl
                  refine s_call (vs := [(vI x29.Number), (vI 1), (vI (wr (p0.Next - 1)))]) hE goes_none (by decide) (evs_of (evsC (lk rfl f1) (evsC rfl (evsC (lk rfl f4) evsN)))) cb56 (c_impl_inRange _ x29.Number 1 (wr (p0.Next - 1)) r45 e46) ?_
                  rintro v w a ⟨rfl, hK⟩ hE
                  exact ⟨hK, _, _, rfl, hE, rfl⟩
                · intro a w ux44 hE hM hp
                  have f5 : ux44 5 = (vT r45) := hp 0 _ rfl rfl
                  refine s_not hE goes_none (by decide) (lk rfl f5) ?_; intro a hE
                  exact ⟨Kept.refl _ _, _, _, rfl, hE, rfl⟩
                · intro a w ux44 hE hM hp
                  have f6 : ux44 6 = (vT (!r45)) := hp 0 _ rfl rfl
                  refine s_move hE goes_none (by decide) (lk rfl f6) ?_; intro a hE
                  exact ⟨Kept.refl _ _, _, _, rfl, hE, rfl⟩
                · intro a w ux44 hE hM hp
                  have f7 : ux44 7 = (vT (!r45)) := hp 0 _ rfl rfl
                  refine s_move hE (goes_yes hE rfl (lkb (lk rfl f7) hb47)) (by decide) rfl ?_; intro a hE
                  exact ⟨Kept.refl _ _, _, _, rfl, hE, rfl⟩
                · intro a w ux44 hE hM hp
                  have f7 : ux44 7 = (vT (!r45)) := hp 1 _ rfl rfl
                  have f8 : ux44 8 = (vI s24) := hp 0 _ rfl rfl
                  refine s_int hE (goes_yes hE rfl (lkb (lk rfl f7) hb47)) (by decide) (lk rfl f8) rfl rfl ?_; intro a hE
                  exact ⟨Kept.refl _ _, _, _, rfl, hE, rfl⟩
                · intro a w ux44 hE hM hp
                  have f7 : ux44 7 = (vT (!r45)) := hp 1 _ rfl rfl
                  have f9 : ux44 9 = (vT (decide (s24 > 0))) := hp 0 _ rfl rfl
                  refine s_move hE (goes_yes hE rfl (lkb (lk rfl f7) hb47)) (by decide) (lk rfl f9) ?_; intro a hE
                  exact ⟨Kept.refl _ _, _, _, rfl, hE, rfl⟩
                · intro a w ux44 hE hM hp
                  have f10 : ux44 10 = (vT (decide (s24 > 0))) := hp 0 _ rfl rfl
                  refine s_skip hE rfl (lkb (lk rfl f10) hb49) rfl (by decide) ?_; intro a hE
                  exact ⟨Kept.refl _ _, _, _, rfl, hE, rfl⟩
                · intro a w ux44 hE hM hp
                  have f10 : ux44 10 = (vT (decide (s24 > 0))) := hp 1 _ rfl rfl
                  have f11 : ux44 11 = undef := hp 0 _ rfl rfl
                  refine s_skip hE rfl (lkb (lk rfl f10) hb49) rfl (by decide) ?_; intro a hE
                  exact ⟨Kept.refl _ _, _, _, rfl, hE, rfl⟩
                · intro a w ux44 hE hM hp
                  have f10 : ux44 10 = (vT (decide (s24 > 0))) := hp 0 _ rfl rfl
                  refine s_skip hE rfl (lkb (lk rfl f10) hb49) rfl (by decide) ?_; intro a hE
                  exact ⟨Kept.refl _ _, _, _, rfl, hE, rfl⟩
                · intro a w ux44 hE hM hp
                  have f10 : ux44 10 = (vT (decide (s24 > 0))) := hp 1 _ rfl rfl
                  have f13 : ux44 13 = undef := hp 0 _ rfl rfl
                  refine s_skip hE rfl (lkb (lk rfl f10) hb49) rfl (by decide) ?_; intro a hE
                  exact ⟨Kept.refl _ _, _, _, rfl, hE, rfl⟩
                · intro a w ux44 hE hM hp
                  have f10 : ux44 10 = (vT (decide (s24 > 0))) := hp 2 _ rfl rfl
                  have f12 : ux44 12 = undef := hp 0 _ rfl rfl
                  have f14 : ux44 14 = undef := hp 1 _ rfl rfl
                  refine s_skip hE rfl (lkb (lk rfl f10) hb49) rfl (by decide) ?_; intro a hE
                  exact ⟨Kept.refl _ _, _, _, rfl, hE, rfl⟩
                · intro a w ux44 hE hM hp
                  have f10 : ux44 10 = (vT (decide (s24 > 0))) := hp 1 _ rfl rfl
                  have f15 : ux44 15 = undef := hp 0 _ rfl rfl
                  refine s_skip hE rfl (lkb (lk rfl f10) hb49) rfl (by decide) ?_; intro a hE
                  exact ⟨Kept.refl _ _, _, _, rfl, hE, rfl⟩
                · intro a w ux44 hE hM hp
                  have f10 : ux44 10 = (vT (decide (s24 > 0))) := hp 1 _ rfl rfl
                  have f16 : ux44 16 = undef := hp 0 _ rfl rfl
                  refine s_skip hE rfl (lkb (lk rfl f10) hb49) rfl (by decide) ?_; intro a hE
                  exact ⟨Kept.refl _ _, _, _, rfl, hE, rfl⟩
                · intro a w ux44 hE hM hp
                  have f10 : ux44 10 = (vT (decide (s24 > 0))) := hp 0 _ rfl rfl
                  refine s_skip hE rfl (lkb (lk rfl f10) hb49) rfl (by decide) ?_; intro a hE
                  exact ⟨Kept.refl _ _, _, _, rfl, hE, rfl⟩
                · intro a w ux44 hE hM hp
                  have f10 : ux44 10 = (vT (decide (s24 > 0))) := hp 1 _ rfl rfl
                  have f18 : ux44 18 = undef := hp 0 _ rfl rfl
                  refine s_skip hE rfl (lkb (lk rfl f10) hb49) rfl (by decide) ?_; intro a hE
                  exact ⟨Kept.refl _ _, _, _, rfl, hE, rfl⟩
                · intro a w ux44 hE hM hp
                  have f10 : ux44 10 = (vT (decide (s24 > 0))) := hp 2 _ rfl rfl
                  have f17 : ux44 17 = undef := hp 0 _ rfl rfl
                  have f19 : ux44 19 = undef := hp 1 _ rfl rfl
                  refine s_skip hE rfl (lkb (lk rfl f10) hb49) rfl (by decide) ?_; intro a hE
                  exact ⟨Kept.refl _ _, _, _, rfl, hE, rfl⟩
                · intro a w ux44 hE hM hp
                  have f7 : ux44 7 = (vT (!r45)) := hp 2 _ rfl rfl
                  have f10 : ux44 10 = (vT (decide (s24 > 0))) := hp 0 _ rfl rfl
                  have f20 : ux44 20 = undef := hp 1 _ rfl rfl
                  refine s_pickF hE (goes_yes hE rfl (lkb (lk rfl f7) hb47)) (by decide) (lkb (lk rfl f10) hb49) rfl ?_; intro a hE
                  exact ⟨Kept.refl _ _, _, _, rfl, hE, rfl⟩
                · intro a w ux44 hE hM hp
                  have f7 : ux44 7 = (vT (!r45)) := hp 0 _ rfl rfl
                  have f21 : ux44 21 = (vT false) := hp 1 _ rfl rfl
                  refine s_pickF hE goes_none (by decide) (lkb (lk rfl f7) hb47) (lk rfl f21) ?_; intro a hE
                  exact ⟨Kept.refl _ _, _, _, rfl, hE, rfl⟩
                · intro a w ux44 hE hM hg
                  have f0 : ux44 0 = (ptr b39 (0 + 0)) := hg 0 (by decide)
                  have f1 : ux44 1 = (vI x29.Number) := hg 1 (by decide)
                  have f2 : ux44 2 = (ptr b1 (0 + 1)) := hg 2 (by decide)
                  have f3 : ux44 3 = (vI p0.Next) := hg 3 (by decide)
                  have f4 : ux44 4 = (vI (wr (p0.Next - 1))) := hg 4 (by decide)
                  have f5 : ux44 5 = (vT r45) := hg 5 (by decide)
                  have f6 : ux44 6 = (vT (!r45)) := hg 6 (by decide)
                  have f7 : ux44 7 = (vT (!r45)) := hg 7 (by decide)
                  have f8 : ux44 8 = (vI s24) := hg 8 (by decide)
                  have f9 : ux44 9 = (vT (decide (s24 > 0))) := hg 9 (by decide)
                  have f10 : ux44 10 = (vT (decide (s24 > 0))) := hg 10 (by decide)
                  have f11 : ux44 11 = undef := hg 11 (by decide)
                  have f12 : ux44 12 = undef := hg 12 (by decide)
                  have f13 : ux44 13 = undef := hg 13 (by decide)
                  have f14 : ux44 14 = undef := hg 14 (by decide)
                  have f15 : ux44 15 = undef := hg 15 (by decide)
                  have f16 : ux44 16 = undef := hg 16 (by decide)
                  have f17 : ux44 17 = undef := hg 17 (by decide)
                  have f18 : ux44 18 = undef := hg 18 (by decide)
                  have f19 : ux44 19 = undef := hg 19 (by decide)
                  have f20 : ux44 20 = undef := hg 20 (by decide)
                  have f21 : ux44 21 = (vT false) := hg 21 (by decide)
                  have f22 : ux44 22 = (vT false) := hg 22 (by decide)
                  have hE := hE.sub (e' := [(36, (ptr b39 (0 + 0))), (37, (vI x29.Number)), (38, (ptr b1 (0 + 1))), (39, (vI p0.Next)), (40, (vI (wr (p0.Next - 1)))), (41, (vT r45)), (42, (vT (!r45))), (43, (vT (!r45))), (44, (vI s24)), (45, (vT (decide (s24 > 0)))), (46, (vT (decide (s24 > 0)))), (47, undef), (48, undef), (49, undef), (50, undef), (51, undef), (52, undef), (53, undef), (54, undef), (55, undef), (56, undef), (57, (vT false)), (58, (vT false)), (1, (ptr b1 0)), (3, (vI s24)), (4, (ptr b39 0)), (29, v0_2), (30, (vI (p0.Records.length : Int))), (31, (vI s24)), (32, (vT (decide (s24 < (p0.Records.length : Int))))), (33, (vI s24)), (34, (ptr (sb v0_2) (so v0_2 + (s24).toNat * 52))), (35, (Value.agg (cat [[(vI x29.Number)], [(vI x29.Version)], Flat.enc x29.Nonce, [u35], [u37], Flat.enc x29.Tag]).toArray))]) ⟨lk rfl f0, lk rfl f1, lk rfl f2, lk rfl f3, lk rfl f4, lk rfl f5, lk rfl f6, lk rfl f7, lk rfl f8, lk rfl f9, lk rfl f10, lk rfl f11, lk rfl f12, lk rfl f13, lk rfl f14, lk rfl f15, lk rfl f16, lk rfl f17, lk rfl f18, lk rfl f19, lk rfl f20, lk rfl f21, lk rfl f22, rfl, rfl, rfl, rfl, rfl, rfl, rfl, rfl, rfl, rfl, trivial⟩
                  refine c_fin0 ?_
                  have ht61 := Option.some.inj hl42
                  subst ht61
                  refine c_mid ?_
                  exact ⟨hE.sub ⟨rfl, rfl, rfl, rfl, rfl, rfl, trivial⟩, hM⟩
          · skip
            rintro a w ⟨hE, hM⟩
            refine c_cond hE rfl ?_ ?_
            · intro hb62
              have hF43 := ite_t hF43 hb62
              refine c_region ?_
              refine s_assign hE goes_none (by decide) rfl ?_; intro a hE
              refine c_fin ?_
              have ht63 := hx26 _ (Option.some.inj hF43).symm
              subst ht63
              have hr := Option.some.inj hF22
              subst hr
              have hM := M.fst (l := []) hM
              exact wp_ret (r_then (r_inb (r_then (r_then (r_inb (r_then (r_then (k_ret1 hE rfl (res_tmp hE rfl) ⟨_, rfl, rfl, hM.kept⟩))))))))
            · intro hb62
              have hF43 := ite_f hF43 hb62
              refine wp_skip ?_
              refine c_nx ?_
              obtain ⟨j64, hl65, hF66⟩ := bind_some hF43
              refine c_join (fun a w => Env 84 a [(1, (ptr b1 0)), (29, v0_2), (30, (vI (p0.Records.length : Int))), (31, (vI s24)), (78, (vT j64))] ∧ M (Old w0) w0 w [raw b1 (cat [[v0_1], [(vI p0.Next)], [v0_2], [v0_3], Flat.enc p0.Head])]) ?_ ?_
              · skip
                obtain ⟨r68, e69, hl65⟩ := bind_some hl65
                obtain ⟨r70, e71, hl65⟩ := bind_some hl65
                refine splitB (!r70) (fun hb72 => ?_) (fun hb72 => ?_)
                · have hl65 := ite_t hl65 hb72
                  refine c_draw (n := 84) (hd := [_, _, _, _, _, _, _, _, _, _, _, _, _, _, _, _, _, _, _, _]) (tl := []) hmix rfl rfl [59, 60, 61, 62, 63, 64, 65, 66, 67, 68, 69, 70, 71, 72, 73, 74, 75, 76, 77, 78] (by decide) (fun w => M (Old w0) w0 w [raw b39 (cat [[(vI x29.Number)], [(vI x29.Version)], Flat.enc x29.Nonce, [u35], [u37], Flat.enc x29.Tag]), raw b1 (cat [[v0_1], [(vI p0.Next)], [v0_2], [v0_3], Flat.enc p0.Head])]) (fun j => ([fun v _ => v = (ptr b39 (0 + 1)), fun v _ => v = (vI x29.Version), fun v _ => v = (ptr b1 (0 + 0)), fun v _ => v = v0_1, fun v _ => v = (vI r68), fun v _ => v = (vI (wr (r68 - 1))), fun v _ => v = (vT r70), fun v _ => v = (vT (!r70)), fun v _ => v = (vT (!r70)), fun v _ => v = undef, fun v _ => v = undef, fun v _ => v = undef, fun v _ => v = undef, fun v _ => v = (vT true), fun v _ => v = (vT true), fun v _ => v = undef, fun v _ => v = undef, fun v _ => v = undef, fun v _ => v = undef, fun v _ => v = (vT true)] : List (Value → World → Prop)).getD j (fun _ _ => True)) (fun _ _ h hk => h.keep hk) (gup (gupE (gupE (gupE (gupE (gupE (gupE (gupE (gupE (gupE (gupE (gupE (gupE (gupE (gupE (gupE (gupE (gupE (gupE (gupE (gupE gupN))))))))))))))))))))) hE hM.drew (steps_of (steps_cons ?_ (steps_cons ?_ (steps_cons ?_ (steps_cons ?_ (steps_cons ?_ (steps_cons ?_ (steps_cons ?_ (steps_cons ?_ (steps_cons ?_ (steps_cons ?_ (steps_cons ?_ (steps_cons ?_ (steps_cons ?_ (steps_cons ?_ (steps_cons ?_ (steps_cons ?_ (steps_cons ?_ (steps_cons ?_ (steps_cons ?_ (steps_cons ?_ steps_nil))))))))))))))))))))) ?_
                  · intro a w ux67 hE hM hp
                    refine s_fieldAddr hE goes_none (by decide) rfl (fd106_1) ?_; intro a hE
                    exact ⟨Kept.refl _ _, _, _, rfl, hE, rfl⟩
                  · intro a w ux67 hE hM hp
                    have f0 : ux67 0 = (ptr b39 (0 + 1)) := hp 0 _ rfl rfl
                    refine s_load (v := (vI x29.Version)) hE goes_none (by decide) (lk rfl f0) ty2 rfl (At.cat (pre := [[(vI x29.Number)]]) (seg := [(vI x29.Version)]) (post := [Flat.enc x29.Nonce, [u35], [u37], Flat.enc x29.Tag]) (hM.rawAt (pre := [])) (cl1 (n := 1) (m := 0) rfl cl0)) ?_; intro a hE
                    exact ⟨Kept.refl _ _, _, _, rfl, hE, rfl⟩
                  · intro a w ux67 hE hM hp
                    refine s_fieldAddr hE goes_none (by decide) rfl (fd49_0) ?_; intro a hE
                    exact ⟨Kept.refl _ _, _, _, rfl, hE, rfl⟩
                  · intro a w ux67 hE hM hp
                    have f2 : ux67 2 = (ptr b1 (0 + 0)) := hp 0 _ rfl rfl
                    refine s_load (v := v0_1) hE goes_none (by decide) (lk rfl f2) ty44 rfl (At.cat (pre := []) (seg := [v0_1]) (post := [[(vI p0.Next)], [v0_2], [v0_3], Flat.enc p0.Head]) (hM.rawAt (pre := [_])) cl0) ?_; intro a hE
                    exact ⟨Kept.refl _ _, _, _, rfl, hE, rfl⟩
                  · intro a w ux67 hE hM hp
                    have f3 : ux67 3 = v0_1 := hp 0 _ rfl rfl
                    refine s_call (vs := [v0_1]) hE goes_none (by decide) (evs_of (evsC (lk rfl f3) evsN)) cb81 (c_impl_length_impl_Block _ p0.Keys v0_1 (hM.rdo hv0_1) r68 e69) ?_
                    rintro v w a ⟨rfl, hK⟩ hE
                    exact ⟨hK, _, _, rfl, hE, rfl⟩
                  · intro a w ux67 hE hM hp
                    have f4 : ux67 4 = (vI r68) := hp 0 _ rfl rfl
                    refine s_int hE goes_none (by decide) (lk rfl f4) rfl rfl ?_; intro a hE
                    exact ⟨Kept.refl _ _, _, _, rfl, hE, rfl⟩
                  · intro a w ux67 hE hM hp
                    have f1 : ux67 1 = (vI x29.Version) := hp 0 _ rfl rfl
                    have f5 : ux67 5 = (vI (wr (r68 - 1))) := hp 1 _ rfl rfl
                    refine s_call (vs := [(vI x29.Version), (vI 0), (vI (wr (r68 - 1)))]) hE goes_none (by decide) (evs_of (evsC (lk rfl f1) (evsC rfl (evsC (lk rfl f5) evsN)))) cb56 (c_impl_inRange _ x29.Version 0 (wr (r68 - 1)) r70 e71) ?_
                    rintro v w a ⟨rfl, hK⟩ hE
                    exact ⟨hK, _, _, rfl, hE, rfl⟩
                  · intro a w ux67 hE hM hp
                    have f6 : ux67 6 = (vT r70) := hp 0 _ rfl rfl
                    refine s_not hE goes_none (by decide) (lk rfl f6) ?_; intro a hE
                    exact ⟨Kept.refl _ _, _, _, rfl, hE, rfl⟩
                  · intro a w ux67 hE hM hp
                    have f7 : ux67 7 = (vT (!r70)) := hp 0 _ rfl rfl
                    refine s_move hE goes_none (by decide) (lk rfl f7) ?_; intro a hE
                    exact ⟨Kept.refl _ _, _, _, rfl, hE, rfl⟩
                  · intro a w ux67 hE hM hp
                    have f8 : ux67 8 = (vT (!r70)) := hp 0 _ rfl rfl
                    refine s_skip hE rfl (lkb (lk rfl f8) hb72) rfl (by decide) ?_; intro a hE
                    exact ⟨Kept.refl _ _, _, _, rfl, hE, rfl⟩
                  · intro a w ux67 hE hM hp
                    have f8 : ux67 8 = (vT (!r70)) := hp 1 _ rfl rfl
                    have f9 : ux67 9 = undef := hp 0 _ rfl rfl
                    refine s_skip hE rfl (lkb (lk rfl f8) hb72) rfl (by decide) ?_; intro a hE
                    exact ⟨Kept.refl _ _, _, _, rfl, hE, rfl⟩
                  · intro a w ux67 hE hM hp
                    have f8 : ux67 8 = (vT (!r70)) := hp 1 _ rfl rfl
                    have f10 : ux67 10 = undef := hp 0 _ rfl rfl
                    refine s_skip hE rfl (lkb (lk rfl f8) hb72) rfl (by decide) ?_; intro a hE
                    exact ⟨Kept.refl _ _, _, _, rfl, hE, rfl⟩
                  · intro a w ux67 hE hM hp
                    have f8 : ux67 8 = (vT (!r70)) := hp 1 _ rfl rfl
                    have f11 : ux67 11 = undef := hp 0 _ rfl rfl
                    refine s_skip hE rfl (lkb (lk rfl f8) hb72) rfl (by decide) ?_; intro a hE
                    exact ⟨Kept.refl _ _, _, _, rfl, hE, rfl⟩
                  · intro a w ux67 hE hM hp
                    have f8 : ux67 8 = (vT (!r70)) := hp 0 _ rfl rfl
                    have f12 : ux67 12 = undef := hp 1 _ rfl rfl
                    refine s_pickT hE goes_none (by decide) (lkb (lk rfl f8) hb72) rfl ?_; intro a hE
                    exact ⟨Kept.refl _ _, _, _, rfl, hE, rfl⟩
                  · intro a w ux67 hE hM hp
                    have f13 : ux67 13 = (vT true) := hp 0 _ rfl rfl
                    refine s_move hE goes_none (by decide) (lk rfl f13) ?_; intro a hE
                    exact ⟨Kept.refl _ _, _, _, rfl, hE, rfl⟩
                  · intro a w ux67 hE hM hp
                    have f14 : ux67 14 = (vT true) := hp 0 _ rfl rfl
                    refine s_skip hE rfl (lk rfl f14) rfl (by decide) ?_; intro a hE
                    exact ⟨Kept.refl _ _, _, _, rfl, hE, rfl⟩
                  · intro a w ux67 hE hM hp
                    have f14 : ux67 14 = (vT true) := hp 1 _ rfl rfl
                    have f15 : ux67 15 = undef := hp 0 _ rfl rfl
                    refine s_skip hE rfl (lk rfl f14) rfl (by decide) ?_; intro a hE
                    exact ⟨Kept.refl _ _, _, _, rfl, hE, rfl⟩
                  · intro a w ux67 hE hM hp
                    have f14 : ux67 14 = (vT true) := hp 1 _ rfl rfl
                    have f16 : ux67 16 = undef := hp 0 _ rfl rfl
                    refine s_skip hE rfl (lk rfl f14) rfl (by decide) ?_; intro a hE
                    exact ⟨Kept.refl _ _, _, _, rfl, hE, rfl⟩
                  · intro a w ux67 hE hM hp
                    have f14 : ux67 14 = (vT true) := hp 1 _ rfl rfl
                    have f17 : ux67 17 = undef := hp 0 _ rfl rfl
                    refine s_skip hE rfl (lk rfl f14) rfl (by decide) ?_; intro a hE
                    exact ⟨Kept.refl _ _, _, _, rfl, hE, rfl⟩
                  · intro a w ux67 hE hM hp
                    have f14 : ux67 14 = (vT true) := hp 0 _ rfl rfl
                    have f18 : ux67 18 = undef := hp 1 _ rfl rfl
                    refine s_pickT hE goes_none (by decide) (lk rfl f14) rfl ?_; intro a hE
                    exact ⟨Kept.refl _ _, _, _, rfl, hE, rfl⟩
                  · intro a w ux67 hE hM hg
                    have f0 : ux67 0 = (ptr b39 (0 + 1)) := hg 0 (by decide)
                    have f1 : ux67 1 = (vI x29.Version) := hg 1 (by decide)
                    have f2 : ux67 2 = (ptr b1 (0 + 0)) := hg 2 (by decide)
                    have f3 : ux67 3 = v0_1 := hg 3 (by decide)
                    have f4 : ux67 4 = (vI r68) := hg 4 (by decide)
                    have f5 : ux67 5 = (vI (wr (r68 - 1))) := hg 5 (by decide)
                    have f6 : ux67 6 = (vT r70) := hg 6 (by decide)
                    have f7 : ux67 7 = (vT (!r70)) := hg 7 (by decide)
                    have f8 : ux67 8 = (vT (!r70)) := hg 8 (by decide)
                    have f9 : ux67 9 = undef := hg 9 (by decide)
                    have f10 : ux67 10 = undef := hg 10 (by decide)
                    have f11 : ux67 11 = undef := hg 11 (by decide)
                    have f12 : ux67 12 = undef := hg 12 (by decide)
                    have f13 : ux67 13 = (vT true) := hg 13 (by decide)
                    have f14 : ux67 14 = (vT true) := hg 14 (by decide)
                    have f15 : ux67 15 = undef := hg 15 (by decide)
                    have f16 : ux67 16 = undef := hg 16 (by decide)
                    have f17 : ux67 17 = undef := hg 17 (by decide)
                    have f18 : ux67 18 = undef := hg 18 (by decide)
                    have f19 : ux67 19 = (vT true) := hg 19 (by decide)
                    have hE := hE.sub (e' := [(59, (ptr b39 (0 + 1))), (60, (vI x29.Version)), (61, (ptr b1 (0 + 0))), (62, v0_1), (63, (vI r68)), (64, (vI (wr (r68 - 1)))), (65, (vT r70)), (66, (vT (!r70))), (67, (vT (!r70))), (68, undef), (69, undef), (70, undef), (71, undef), (72, (vT true)), (73, (vT true)), (74, undef), (75, undef), (76, undef), (77, undef), (78, (vT true)), (1, (ptr b1 0)), (4, (ptr b39 0)), (29, v0_2), (30, (vI (p0.Records.length : Int))), (31, (vI s24)), (58, (vT j41))]) ⟨lk rfl f0, lk rfl f1, lk rfl f2, lk rfl f3, lk rfl f4, lk rfl f5, lk rfl f6, lk rfl f7, lk rfl f8, lk rfl f9, lk rfl f10, lk rfl f11, lk rfl f12, lk rfl f13, lk rfl f14, lk rfl f15, lk rfl f16, lk rfl f17, lk rfl f18, lk rfl f19, rfl, rfl, rfl, rfl, rfl, rfl, trivial⟩
                    refine c_fin0 ?_
                    have ht73 := Option.some.inj hl65
                    subst ht73
                    refine c_mid ?_
                    have hM := hM.pull (pre := [_])
                    have hM := M.fst (l := [_]) hM
                    exact ⟨hE.sub ⟨rfl, rfl, rfl, rfl, rfl, trivial⟩, hM⟩
                · have hl65 := ite_f hl65 hb72
                  refine splitB (decide ((x29.Label.length : Int) > 32)) (fun hb74 => ?_) (fun hb74 => ?_)
                  · have hl65 := ite_t hl65 hb74
                    refine c_draw (n := 84) (hd := [_, _, _, _, _, _, _, _, _, _, _, _, _, _, _, _, _, _, _, _]) (tl := []) hmix rfl rfl [59, 60, 61, 62, 63, 64, 65, 66, 67, 68, 69, 70, 71, 72, 73, 74, 75, 76, 77, 78] (by decide) (fun w => M (Old w0) w0 w [raw b39 (cat [[(vI x29.Number)], [(vI x29.Version)], Flat.enc x29.Nonce, [u35], [u37], Flat.enc x29.Tag]), raw b1 (cat [[v0_1], [(vI p0.Next)], [v0_2], [v0_3], Flat.enc p0.Head])]) (fun j => ([fun v _ => v = (ptr b39 (0 + 1)), fun v _ => v = (vI x29.Version), fun v _ => v = (ptr b1 (0 + 0)), fun v _ => v = v0_1, fun v _ => v = (vI r68), fun v _ => v = (vI (wr (r68 - 1))), fun v _ => v = (vT r70), fun v _ => v = (vT (!r70)), fun v _ => v = (vT (!r70)), fun v _ => v = (ptr b39 (0 + 18)), fun v _ => v = u35, fun v _ => v = (vI (x29.Label.length : Int)), fun v _ => v = (vT (decide ((x29.Label.length : Int) > 32))), fun v _ => v = (vT (decide ((x29.Label.length : Int) > 32))), fun v _ => v = (vT (decide ((x29.Label.length : Int) > 32))), fun v _ => v = undef, fun v _ => v = undef, fun v _ => v = undef, fun v _ => v = undef, fun v _ => v = (vT true)] : List (Value → World → Prop)).getD j (fun _ _ => True)) (fun _ _ h hk => h.keep hk) (gup (gupE (gupE (gupE (gupE (gupE (gupE (gupE (gupE (gupE (gupE (gupE (gupE (gupE (gupE (gupE (gupE (gupE (gupE (gupE (gupE gupN))))))))))))))))))))) hE hM.drew (steps_of (steps_cons ?_ (steps_cons ?_ (steps_cons ?_ (steps_cons ?_ (steps_cons ?_ (steps_cons ?_ (steps_cons ?_ (steps_cons ?_ (steps_cons ?_ (steps_cons ?_ (steps_cons ?_ (steps_cons ?_ (steps_cons ?_ (steps_cons ?_ (steps_cons ?_ (steps_cons ?_ (steps_cons ?_ (steps_cons ?_ (steps_cons ?_ (steps_cons ?_ steps_nil))))))))))))))))))))) ?_
                    · intro a w ux67 hE hM hp
                      refine s_fieldAddr hE goes_none (by decide) rfl (fd106_1) ?_; intro a hE
                      exact ⟨Kept.refl _ _, _, _, rfl, hE, rfl⟩
                    · intro a w ux67 hE hM hp
                      have f0 : ux67 0 = (ptr b39 (0 + 1)) := hp 0 _ rfl rfl
                      refine s_load (v := (vI x29.Version)) hE goes_none (by decide) (lk rfl f0) ty2 rfl (At.cat (pre := [[(vI x29.Number)]]) (seg := [(vI x29.Version)]) (post := [Flat.enc x29.Nonce, [u35], [u37], Flat.enc x29.Tag]) (hM.rawAt (pre := [])) (cl1 (n := 1) (m := 0) rfl cl0)) ?_; intro a hE
                      exact ⟨Kept.refl _ _, _, _, rfl, hE, rfl⟩
                    · intro a w ux67 hE hM hp
                      refine s_fieldAddr hE goes_none (by decide) rfl (fd49_0) ?_; intro a hE
                      exact ⟨Kept.refl _ _, _, _, rfl, hE, rfl⟩
                    · intro a w ux67 hE hM hp
                      have f2 : ux67 2 = (ptr b1 (0 + 0)) := hp 0 _ rfl rfl
                      refine s_load (v := v0_1) hE goes_none (by decide) (lk rfl f2) ty44 rfl (At.cat (pre := []) (seg := [v0_1]) (post := [[(vI p0.Next)], [v0_2], [v0_3], Flat.enc p0.Head]) (hM.rawAt (pre := [_])) cl0) ?_; intro a hE
                      exact ⟨Kept.refl _ _, _, _, rfl, hE, rfl⟩
                    · intro a w ux67 hE hM hp
                      have f3 : ux67 3 = v0_1 := hp 0 _ rfl rfl
                      refine s_call (vs := [v0_1]) hE goes_none (by decide) (evs_of (evsC (lk rfl f3) evsN)) cb81 (c_impl_length_impl_Block _ p0.Keys v0_1 (hM.rdo hv0_1) r68 e69) ?_
                      rintro v w a ⟨rfl, hK⟩ hE
                      exact ⟨hK, _, _, rfl, hE, rfl⟩
                    · intro a w ux67 hE hM hp
                      have f4 : ux67 4 = (vI r68) := hp 0 _ rfl rfl
                      refine s_int hE goes_none (by decide) (lk rfl f4) rfl rfl ?_; intro a hE
                      exact ⟨Kept.refl _ _, _, _, rfl, hE, rfl⟩
                    · intro a w ux67 hE hM hp
                      have f1 : ux67 1 = (vI x29.Version) := hp 0 _ rfl rfl
                      have f5 : ux67 5 = (vI (wr (r68 - 1))) := hp 1 _ rfl rfl
                      refine s_call (vs := [(vI x29.Version), (vI 0), (vI (wr (r68 - 1)))]) hE goes_none (by decide) (evs_of (evsC (lk rfl f1) (evsC rfl (evsC (lk rfl f5) evsN)))) cb56 (c_impl_inRange _ x29.Version 0 (wr (r68 - 1)) r70 e71) ?_
                      rintro v w a ⟨rfl, hK⟩ hE
                      exact ⟨hK, _, _, rfl, hE, rfl⟩
                    · intro a w ux67 hE hM hp
                      have f6 : ux67 6 = (vT r70) := hp 0 _ rfl rfl
                      refine s_not hE goes_none (by decide) (lk rfl f6) ?_; intro a hE
                      exact ⟨Kept.refl _ _, _, _, rfl, hE, rfl⟩
                    · intro a w ux67 hE hM hp
                      have f7 : ux67 7 = (vT (!r70)) := hp 0 _ rfl rfl
                      refine s_move hE goes_none (by decide) (lk rfl f7) ?_; intro a hE
                      exact ⟨Kept.refl _ _, _, _, rfl, hE, rfl⟩
                    · intro a w ux67 hE hM hp
                      have f8 : ux67 8 = (vT (!r70)) := hp 0 _ rfl rfl
                      refine s_fieldAddr hE (goes_yes hE rfl (lkb (lk rfl f8) hb72)) (by decide) rfl (fd106_3) ?_; intro a hE
                      exact ⟨Kept.refl _ _, _, _, rfl, hE, rfl⟩
                    · intro a w ux67 hE hM hp
                      have f8 : ux67 8 = (vT (!r70)) := hp 1 _ rfl rfl
                      have f9 : ux67 9 = (ptr b39 (0 + 18)) := hp 0 _ rfl rfl
                      refine s_load (v := u35) hE (goes_yes hE rfl (lkb (lk rfl f8) hb72)) (by decide) (lk rfl f9) ty29 rfl (At.cat (pre := [[(vI x29.Number)], [(vI x29.Version)], Flat.enc x29.Nonce]) (seg := [u35]) (post := [[u37], Flat.enc x29.Tag]) (hM.rawAt (pre := [])) (cl1 (n := 1) (m := 17) rfl (cl1 (n := 1) (m := 16) rfl (cl1 (n := 16) (m := 0) (Flat.len _) cl0)))) ?_; intro a hE
                      exact ⟨Kept.refl _ _, _, _, rfl, hE, rfl⟩
                    · intro a w ux67 hE hM hp
                      have f8 : ux67 8 = (vT (!r70)) := hp 1 _ rfl rfl
                      have f10 : ux67 10 = u35 := hp 0 _ rfl rfl
                      refine s_len hE (goes_yes hE rfl (lkb (lk rfl f8) hb72)) (by decide) (lk rfl f10) Try.underlying29 (hM.rd h36) ?_; intro a hE
                      exact ⟨Kept.refl _ _, _, _, rfl, hE, rfl⟩
                    · intro a w ux67 hE hM hp
                      have f8 : ux67 8 = (vT (!r70)) := hp 1 _ rfl rfl
                      have f11 : ux67 11 = (vI (x29.Label.length : Int)) := hp 0 _ rfl rfl
                      refine s_int hE (goes_yes hE rfl (lkb (lk rfl f8) hb72)) (by decide) (lk rfl f11) rfl rfl ?_; intro a hE
                      exact ⟨Kept.refl _ _, _, _, rfl, hE, rfl⟩
                    · intro a w ux67 hE hM hp
                      have f8 : ux67 8 = (vT (!r70)) := hp 0 _ rfl rfl
                      have f12 : ux67 12 = (vT (decide ((x29.Label.length : Int) > 32))) := hp 1 _ rfl rfl
                      refine s_pickF hE goes_none (by decide) (lkb (lk rfl f8) hb72) (lk rfl f12) ?_; intro a hE
                      exact ⟨Kept.refl _ _, _, _, rfl, hE, rfl⟩
                    · intro a w ux67 hE hM hp
                      have f13 : ux67 13 = (vT (decide ((x29.Label.length : Int) > 32))) := hp 0 _ rfl rfl
                      refine s_move hE goes_none (by decide) (lk rfl f13) ?_; intro a hE
                      exact ⟨Kept.refl _ _, _, _, rfl, hE, rfl⟩
                    · intro a w ux67 hE hM hp
                      have f14 : ux67 14 = (vT (decide ((x29.Label.length : Int) > 32))) := hp 0 _ rfl rfl
                      refine s_skip hE rfl (lkb (lk rfl f14) hb74) rfl (by decide) ?_; intro a hE
                      exact ⟨Kept.refl _ _, _, _, rfl, hE, rfl⟩
                    · intro a w ux67 hE hM hp
                      have f14 : ux67 14 = (vT (decide ((x29.Label.length : Int) > 32))) := hp 1 _ rfl rfl
                      have f15 : ux67 15 = undef := hp 0 _ rfl rfl
                      refine s_skip hE rfl (lkb (lk rfl f14) hb74) rfl (by decide) ?_; intro a hE
                      exact ⟨Kept.refl _ _, _, _, rfl, hE, rfl⟩
                    · intro a w ux67 hE hM hp
                      have f14 : ux67 14 = (vT (decide ((x29.Label.length : Int) > 32))) := hp 1 _ rfl rfl
                      have f16 : ux67 16 = undef := hp 0 _ rfl rfl
                      refine s_skip hE rfl (lkb (lk rfl f14) hb74) rfl (by decide) ?_; intro a hE
                      exact ⟨Kept.refl _ _, _, _, rfl, hE, rfl⟩
                    · intro a w ux67 hE hM hp
                      have f14 : ux67 14 = (vT (decide ((x29.Label.length : Int) > 32))) := hp 1 _ rfl rfl
                      have f17 : ux67 17 = undef := hp 0 _ rfl rfl
                      refine s_skip hE rfl (lkb (lk rfl f14) hb74) rfl (by decide) ?_; intro a hE
                      exact ⟨Kept.refl _ _, _, _, rfl, hE, rfl⟩
                    · intro a w ux67 hE hM hp
                      have f14 : ux67 14 = (vT (decide ((x29.Label.length : Int) > 32))) := hp 0 _ rfl rfl
                      have f18 : ux67 18 = undef := hp 1 _ rfl rfl
                      refine s_pickT hE goes_none (by decide) (lkb (lk rfl f14) hb74) rfl ?_; intro a hE
                      exact ⟨Kept.refl _ _, _, _, rfl, hE, rfl⟩
                    · intro a w ux67 hE hM hg
                      have f0 : ux67 0 = (ptr b39 (0 + 1)) := hg 0 (by decide)
                      have f1 : ux67 1 = (vI x29.Version) := hg 1 (by decide)
                      have f2 : ux67 2 = (ptr b1 (0 + 0)) := hg 2 (by decide)
                      have f3 : ux67 3 = v0_1 := hg 3 (by decide)
                      have f4 : ux67 4 = (vI r68) := hg 4 (by decide)
                      have f5 : ux67 5 = (vI (wr (r68 - 1))) := hg 5 (by decide)
                      have f6 : ux67 6 = (vT r70) := hg 6 (by decide)
                      have f7 : ux67 7 = (vT (!r70)) := hg 7 (by decide)
                      have f8 : ux67 8 = (vT (!r70)) := hg 8 (by decide)
                      have f9 : ux67 9 = (ptr b39 (0 + 18)) := hg 9 (by decide)
                      have f10 : ux67 10 = u35 := hg 10 (by decide)
                      have f11 : ux67 11 = (vI (x29.Label.length : Int)) := hg 11 (by decide)
                      have f12 : ux67 12 = (vT (decide ((x29.Label.length : Int) > 32))) := hg 12 (by decide)
                      have f13 : ux67 13 = (vT (decide ((x29.Label.length : Int) > 32))) := hg 13 (by decide)
                      have f14 : ux67 14 = (vT (decide ((x29.Label.length : Int) > 32))) := hg 14 (by decide)
                      have f15 : ux67 15 = undef := hg 15 (by decide)
                      have f16 : ux67 16 = undef := hg 16 (by decide)
                      have f17 : ux67 17 = undef := hg 17 (by decide)
                      have f18 : ux67 18 = undef := hg 18 (by decide)
                      have f19 : ux67 19 = (vT true) := hg 19 (by decide)
                      have hE := hE.sub (e' := [(59, (ptr b39 (0 + 1))), (60, (vI x29.Version)), (61, (ptr b1 (0 + 0))), (62, v0_1), (63, (vI r68)), (64, (vI (wr (r68 - 1)))), (65, (vT r70)), (66, (vT (!r70))), (67, (vT (!r70))), (68, (ptr b39 (0 + 18))), (69, u35), (70, (vI (x29.Label.length : Int))), (71, (vT (decide ((x29.Label.length : Int) > 32)))), (72, (vT (decide ((x29.Label.length : Int) > 32)))), (73, (vT (decide ((x29.Label.length : Int) > 32)))), (74, undef), (75, undef), (76, undef), (77, undef), (78, (vT true)), (1, (ptr b1 0)), (4, (ptr b39 0)), (29, v0_2), (30, (vI (p0.Records.length : Int))), (31, (vI s24)), (58, (vT j41))]) ⟨lk rfl f0, lk rfl f1, lk rfl f2, lk rfl f3, lk rfl f4, lk rfl f5, lk rfl f6, lk rfl f7, lk rfl f8, lk rfl f9, lk rfl f10, lk rfl f11, lk rfl f12, lk rfl f13, lk rfl f14, lk rfl f15, lk rfl f16, lk rfl f17, lk rfl f18, lk rfl f19, rfl, rfl, rfl, rfl, rfl, rfl, trivial⟩
                      refine c_fin0 ?_
                      have ht75 := Option.some.inj hl65
                      subst ht75
                      refine c_mid ?_
                      have hM := hM.pull (pre := [_])
                      have hM := M.fst (l := [_]) hM
                      exact ⟨hE.sub ⟨rfl, rfl, rfl, rfl, rfl, trivial⟩, hM⟩
                  · have hl65 := ite_f hl65 hb74
                    refine c_draw (n := 84) (hd := [_, _, _, _, _, _, _, _, _, _, _, _, _, _, _, _, _, _, _, _]) (tl := []) hmix rfl rfl [59, 60, 61, 62, 63, 64, 65, 66, 67, 68, 69, 70, 71, 72, 73, 74, 75, 76, 77, 78] (by decide) (fun w => M (Old w0) w0 w [raw b39 (cat [[(vI x29.Number)], [(vI x29.Version)], Flat.enc x29.Nonce, [u35], [u37], Flat.enc x29.Tag]), raw b1 (cat [[v0_1], [(vI p0.Next)], [v0_2], [v0_3], Flat.enc p0.Head])]) (fun j => ([fun v _ => v = (ptr b39 (0 + 1)), fun v _ => v = (vI x29.Version), fun v _ => v = (ptr b1 (0 + 0)), fun v _ => v = v0_1, fun v _ => v = (vI r68), fun v _ => v = (vI (wr (r68 - 1))), fun v _ => v = (vT r70), fun v _ => v = (vT (!r70)), fun v _ => v = (vT (!r70)), fun v _ => v = (ptr b39 (0 + 18)), fun v _ => v = u35, fun v _ => v = (vI (x29.Label.length : Int)), fun v _ => v = (vT (decide ((x29.Label.length : Int) > 32))), fun v _ => v = (vT (decide ((x29.Label.length : Int) > 32))), fun v _ => v = (vT (decide ((x29.Label.length : Int) > 32))), fun v _ => v = (ptr b39 (0 + 19)), fun v _ => v = u37, fun v _ => v = (vI (x29.Body.length : Int)), fun v _ => v = (vT (decide ((x29.Body.length : Int) > 200))), fun v _ => v = (vT (decide ((x29.Body.length : Int) > 200)))] : List (Value → World → Prop)).getD j (fun _ _ => True)) (fun _ _ h hk => h.keep hk) (gup (gupE (gupE (gupE (gupE (gupE (gupE (gupE (gupE (gupE (gupE (gupE (gupE (gupE (gupE (gupE (gupE (gupE (gupE (gupE (gupE gupN))))))))))))))))))))) hE hM.drew (steps_of (steps_cons ?_ (steps_cons ?_ (steps_cons ?_ (steps_cons ?_ (steps_cons ?_ (steps_cons ?_ (steps_cons ?_ (steps_cons ?_ (steps_cons ?_ (steps_cons ?_ (steps_cons ?_ (steps_cons ?_ (steps_cons ?_ (steps_cons ?_ (steps_cons ?_ (steps_cons ?_ (steps_cons ?_ (steps_cons ?_ (steps_cons ?_ (steps_cons ?_ steps_nil))))))))))))))))))))) ?_
                    · intro a w ux67 hE hM hp
                      refine s_fieldAddr hE goes_none (by decide) rfl (fd106_1) ?_; intro a hE
                      exact ⟨Kept.refl _ _, _, _, rfl, hE, rfl⟩
                    · intro a w ux67 hE hM hp
                      have f0 : ux67 0 = (ptr b39 (0 + 1)) := hp 0 _ rfl rfl
                      refine s_load (v := (vI x29.Version)) hE goes_none (by decide) (lk rfl f0) ty2 rfl (At.cat (pre := [[(vI x29.Number)]]) (seg := [(vI x29.Version)]) (post := [Flat.enc x29.Nonce, [u35], [u37], Flat.enc x29.Tag]) (hM.rawAt (pre := [])) (cl1 (n := 1) (m := 0) rfl cl0)) ?_; intro a hE
                      exact ⟨Kept.refl _ _, _, _, rfl, hE, rfl⟩
                    · intro a w ux67 hE hM hp
                      refine s_fieldAddr hE goes_none (by decide) rfl (fd49_0) ?_; intro a hE
                      exact ⟨Kept.refl _ _, _, _, rfl, hE, rfl⟩
                    · intro a w ux67 hE hM hp
                      have f2 : ux67 2 = (ptr b1 (0 + 0)) := hp 0 _ rfl rfl
                      refine s_load (v := v0_1) hE goes_none (by decide) (lk rfl f2) ty44 rfl (At.cat (pre := []) (seg := [v0_1]) (post := [[(vI p0.Next)], [v0_2], [v0_3], Flat.enc p0.Head]) (hM.rawAt (pre := [_])) cl0) ?_; intro a hE
                      exact ⟨Kept.refl _ _, _, _, rfl, hE, rfl⟩
                    · intro a w ux67 hE hM hp
                      have f3 : ux67 3 = v0_1 := hp 0 _ rfl rfl
                      refine s_call (vs := [v0_1]) hE goes_none (by decide) (evs_of (evsC (lk rfl f3) evsN)) cb81 (c_impl_length_impl_Block _ p0.Keys v0_1 (hM.rdo hv0_1) r68 e69) ?_
                      rintro v w a ⟨rfl, hK⟩ hE
                      exact ⟨hK, _, _, rfl, hE, rfl⟩
                    · intro a w ux67 hE hM hp
                      have f4 : ux67 4 = (vI r68) := hp 0 _ rfl rfl
                      refine s_int hE goes_none (by decide) (lk rfl f4) rfl rfl ?_; intro a hE
                      exact ⟨Kept.refl _ _, _, _, rfl, hE, rfl⟩
                    · intro a w ux67 hE hM hp
                      have f1 : ux67 1 = (vI x29.Version) := hp 0 _ rfl rfl
                      have f5 : ux67 5 = (vI (wr (r68 - 1))) := hp 1 _ rfl rfl
                      refine s_call (vs := [(vI x29.Version), (vI 0), (vI (wr (r68 - 1)))]) hE goes_none (by decide) (evs_of (evsC (lk rfl f1) (evsC rfl (evsC (lk rfl f5) evsN)))) cb56 (c_impl_inRange _ x29.Version 0 (wr (r68 - 1)) r70 e71) ?_
                      rintro v w a ⟨rfl, hK⟩ hE
                      exact ⟨hK, _, _, rfl, hE, rfl⟩
                    · intro a w ux67 hE hM hp
                      have f6 : ux67 6 = (vT r70) := hp 0 _ rfl rfl
                      refine s_not hE goes_none (by decide) (lk rfl f6) ?_; intro a hE
                      exact ⟨Kept.refl _ _, _, _, rfl, hE, rfl⟩
                    · intro a w ux67 hE hM hp
                      have f7 : ux67 7 = (vT (!r70)) := hp 0 _ rfl rfl
                      refine s_move hE goes_none (by decide) (lk rfl f7) ?_; intro a hE
                      exact ⟨Kept.refl _ _, _, _, rfl, hE, rfl⟩
                    · intro a w ux67 hE hM hp
                      have f8 : ux67 8 = (vT (!r70)) := hp 0 _ rfl rfl
                      refine s_fieldAddr hE (goes_yes hE rfl (lkb (lk rfl f8) hb72)) (by decide) rfl (fd106_3) ?_; intro a hE
                      exact ⟨Kept.refl _ _, _, _, rfl, hE, rfl⟩
                    · intro a w ux67 hE hM hp
                      have f8 : ux67 8 = (vT (!r70)) := hp 1 _ rfl rfl
                      have f9 : ux67 9 = (ptr b39 (0 + 18)) := hp 0 _ rfl rfl
                      refine s_load (v := u35) hE (goes_yes hE rfl (lkb (lk rfl f8) hb72)) (by decide) (lk rfl f9) ty29 rfl (At.cat (pre := [[(vI x29.Number)], [(vI x29.Version)], Flat.enc x29.Nonce]) (seg := [u35]) (post := [[u37], Flat.enc x29.Tag]) (hM.rawAt (pre := [])) (cl1 (n := 1) (m := 17) rfl (cl1 (n := 1) (m := 16) rfl (cl1 (n := 16) (m := 0) (Flat.len _) cl0)))) ?_; intro a hE
                      exact ⟨Kept.refl _ _, _, _, rfl, hE, rfl⟩
                    · intro a w ux67 hE hM hp
                      have f8 : ux67 8 = (vT (!r70)) := hp 1 _ rfl rfl
                      have f10 : ux67 10 = u35 := hp 0 _ rfl rfl
                      refine s_len hE (goes_yes hE rfl (lkb (lk rfl f8) hb72)) (by decide) (lk rfl f10) Try.underlying29 (hM.rd h36) ?_; intro a hE
                      exact ⟨Kept.refl _ _, _, _, rfl, hE, rfl⟩
                    · intro a w ux67 hE hM hp
                      have f8 : ux67 8 = (vT (!r70)) := hp 1 _ rfl rfl
                      have f11 : ux67 11 = (vI (x29.Label.length : Int)) := hp 0 _ rfl rfl
                      refine s_int hE (goes_yes hE rfl (lkb (lk rfl f8) hb72)) (by decide) (lk rfl f11) rfl rfl ?_; intro a hE
                      exact ⟨Kept.refl _ _, _, _, rfl, hE, rfl⟩
                    · intro a w ux67 hE hM hp
                      have f8 : ux67 8 = (vT (!r70)) := hp 0 _ rfl rfl
                      have f12 : ux67 12 = (vT (decide ((x29.Label.length : Int) > 32))) := hp 1 _ rfl rfl
                      refine s_pickF hE goes_none (by decide) (lkb (lk rfl f8) hb72) (lk rfl f12) ?_; intro a hE
                      exact ⟨Kept.refl _ _, _, _, rfl, hE, rfl⟩
                    · intro a w ux67 hE hM hp
                      have f13 : ux67 13 = (vT (decide ((x29.Label.length : Int) > 32))) := hp 0 _ rfl rfl
                      refine s_move hE goes_none (by decide) (lk rfl f13) ?_; intro a hE
                      exact ⟨Kept.refl _ _, _, _, rfl, hE, rfl⟩
                    · intro a w ux67 hE hM hp
                      have f14 : ux67 14 = (vT (decide ((x29.Label.length : Int) > 32))) := hp 0 _ rfl rfl
                      refine s_fieldAddr hE (goes_yes hE rfl (lkb (lk rfl f14) hb74)) (by decide) rfl (fd106_4) ?_; intro a hE
                      exact ⟨Kept.refl _ _, _, _, rfl, hE, rfl⟩
                    · intro a w ux67 hE hM hp
                      have f14 : ux67 14 = (vT (decide ((x29.Label.length : Int) > 32))) := hp 1 _ rfl rfl
                      have f15 : ux67 15 = (ptr b39 (0 + 19)) := hp 0 _ rfl rfl
                      refine s_load (v := u37) hE (goes_yes hE rfl (lkb (lk rfl f14) hb74)) (by decide) (lk rfl f15) ty29 rfl (At.cat (pre := [[(vI x29.Number)], [(vI x29.Version)], Flat.enc x29.Nonce, [u35]]) (seg := [u37]) (post := [Flat.enc x29.Tag]) (hM.rawAt (pre := [])) (cl1 (n := 1) (m := 18) rfl (cl1 (n := 1) (m := 17) rfl (cl1 (n := 16) (m := 1) (Flat.len _) (cl1 (n := 1) (m := 0) rfl cl0))))) ?_; intro a hE
                      exact ⟨Kept.refl _ _, _, _, rfl, hE, rfl⟩
                    · intro a w ux67 hE hM hp
                      have f14 : ux67 14 = (vT (decide ((x29.Label.length : Int) > 32))) := hp 1 _ rfl rfl
                      have f16 : ux67 16 = u37 := hp 0 _ rfl rfl
                      refine s_len hE (goes_yes hE rfl (lkb (lk rfl f14) hb74)) (by decide) (lk rfl f16) Try.underlying29 (hM.rd h38) ?_; intro a hE
                      exact ⟨Kept.refl _ _, _, _, rfl, hE, rfl⟩
                    · intro a w ux67 hE hM hp
                      have f14 : ux67 14 = (vT (decide ((x29.Label.length : Int) > 32))) := hp 1 _ rfl rfl
                      have f17 : ux67 17 = (vI (x29.Body.length : Int)) := hp 0 _ rfl rfl
                      refine s_int hE (goes_yes hE rfl (lkb (lk rfl f14) hb74)) (by decide) (lk rfl f17) rfl rfl ?_; intro a hE
                      exact ⟨Kept.refl _ _, _, _, rfl, hE, rfl⟩
                    · intro a w ux67 hE hM hp
                      have f14 : ux67 14 = (vT (decide ((x29.Label.length : Int) > 32))) := hp 0 _ rfl rfl
                      have f18 : ux67 18 = (vT (decide ((x29.Body.length : Int) > 200))) := hp 1 _ rfl rfl
                      refine s_pickF hE goes_none (by decide) (lkb (lk rfl f14) hb74) (lk rfl f18) ?_; intro a hE
                      exact ⟨Kept.refl _ _, _, _, rfl, hE, rfl⟩
                    · intro a w ux67 hE hM hg
                      have f0 : ux67 0 = (ptr b39 (0 + 1)) := hg 0 (by decide)
                      have f1 : ux67 1 = (vI x29.Version) := hg 1 (by decide)
                      have f2 : ux67 2 = (ptr b1 (0 + 0)) := hg 2 (by decide)
                      have f3 : ux67 3 = v0_1 := hg 3 (by decide)
                      have f4 : ux67 4 = (vI r68) := hg 4 (by decide)
                      have f5 : ux67 5 = (vI (wr (r68 - 1))) := hg 5 (by decide)
                      have f6 : ux67 6 = (vT r70) := hg 6 (by decide)
                      have f7 : ux67 7 = (vT (!r70)) := hg 7 (by decide)
                      have f8 : ux67 8 = (vT (!r70)) := hg 8 (by decide)
                      have f9 : ux67 9 = (ptr b39 (0 + 18)) := hg 9 (by decide)
                      have f10 : ux67 10 = u35 := hg 10 (by decide)
                      have f11 : ux67 11 = (vI (x29.Label.length : Int)) := hg 11 (by decide)
                      have f12 : ux67 12 = (vT (decide ((x29.Label.length : Int) > 32))) := hg 12 (by decide)
                      have f13 : ux67 13 = (vT (decide ((x29.Label.length : Int) > 32))) := hg 13 (by decide)
                      have f14 : ux67 14 = (vT (decide ((x29.Label.length : Int) > 32))) := hg 14 (by decide)
                      have f15 : ux67 15 = (ptr b39 (0 + 19)) := hg 15 (by decide)
                      have f16 : ux67 16 = u37 := hg 16 (by decide)
                      have f17 : ux67 17 = (vI (x29.Body.length : Int)) := hg 17 (by decide)
                      have f18 : ux67 18 = (vT (decide ((x29.Body.length : Int) > 200))) := hg 18 (by decide)
                      have f19 : ux67 19 = (vT (decide ((x29.Body.length : Int) > 200))) := hg 19 (by decide)
                      have hE := hE.sub (e' := [(59, (ptr b39 (0 + 1))), (60, (vI x29.Version)), (61, (ptr b1 (0 + 0))), (62, v0_1), (63, (vI r68)), (64, (vI (wr (r68 - 1)))), (65, (vT r70)), (66, (vT (!r70))), (67, (vT (!r70))), (68, (ptr b39 (0 + 18))), (69, u35), (70, (vI (x29.Label.length : Int))), (71, (vT (decide ((x29.Label.length : Int) > 32)))), (72, (vT (decide ((x29.Label.length : Int) > 32)))), (73, (vT (decide ((x29.Label.length : Int) > 32)))), (74, (ptr b39 (0 + 19))), (75, u37), (76, (vI (x29.Body.length : Int))), (77, (vT (decide ((x29.Body.length : Int) > 200)))), (78, (vT (decide ((x29.Body.length : Int) > 200)))), (1, (ptr b1 0)), (4, (ptr b39 0)), (29, v0_2), (30, (vI (p0.Records.length : Int))), (31, (vI s24)), (58, (vT j41))]) ⟨lk rfl f0, lk rfl f1, lk rfl f2, lk rfl f3, lk rfl f4, lk rfl f5, lk rfl f6, lk rfl f7, lk rfl f8, lk rfl f9, lk rfl f10, lk rfl f11, lk rfl f12, lk rfl f13, lk rfl f14, lk rfl f15, lk rfl f16, lk rfl f17, lk rfl f18, lk rfl f19, rfl, rfl, rfl, rfl, rfl, rfl, trivial⟩
                      refine c_fin0 ?_
                      have ht76 := Option.some.inj hl65
                      subst ht76
                      refine c_mid ?_
                      have hM := hM.pull (pre := [_])
                      have hM := M.fst (l := [_]) hM
                      exact ⟨hE.sub ⟨rfl, rfl, rfl, rfl, rfl, trivial⟩, hM⟩
              · skip
                rintro a w ⟨hE, hM⟩
                refine c_cond hE rfl ?_ ?_
                · intro hb77
                  have hF66 := ite_t hF66 hb77
                  refine c_region ?_
                  refine s_assign hE goes_none (by decide) rfl ?_; intro a hE
                  refine c_fin ?_
                  have ht78 := hx26 _ (Option.some.inj hF66).symm
                  subst ht78
                  have hr := Option.some.inj hF22
                  subst hr
                  have hM := M.fst (l := []) hM
                  exact wp_ret (r_inb (r_then (r_then (r_inb (r_then (r_then (k_ret1 hE rfl (res_tmp hE rfl) ⟨_, rfl, rfl, hM.kept⟩)))))))
                · intro hb77
                  have hF66 := ite_f hF66 hb77
                  refine wp_skip ?_
                  refine c_nb ?_
                  refine c_nx ?_
                  refine wp_region_lit ?_
                  refine s_int hE goes_none (by decide) rfl rfl rfl ?_; intro a hE
                  refine s_move hE goes_none (by decide) rfl ?_; intro a hE
                  refine c_fin0 ?_
                  refine c_mid ?_
                  exact ⟨_, (Option.some.inj hF66).symm, hE.sub ⟨rfl, rfl, rfl, rfl, trivial⟩, hM⟩
        · intro hb28
          have hs25 := ite_f hs25 hb28
          refine wp_exit (e_then (e_then (e_eq ?_)))
          have ht79 := hx26 _ (Option.some.inj hs25).symm
          subst ht79
          refine c_mid ?_
          exact ⟨(), rfl, hE.sub ⟨rfl, trivial⟩, hM⟩
      · skip
        rintro a w ⟨s23, ht, hE, hM⟩
        subst ht
        refine c_nx ?_
        refine c_region ?_
        refine s_fieldAddr hE goes_none (by decide) rfl (fd49_3) ?_; intro a hE
        refine s_load (v := v0_3) hE goes_none (by decide) rfl ty46 rfl (At.cat (pre := [[v0_1], [(vI p0.Next)], [v0_2]]) (seg := [v0_3]) (post := [Flat.enc p0.Head]) (hM.rawAt (pre := [])) (cl1 (n := 1) (m := 2) rfl (cl1 (n := 1) (m := 1) rfl (cl1 (n := 1) (m := 0) rfl cl0)))) ?_; intro a hE
        obtain ⟨r80, e81, hF22⟩ := bind_some hF22
        refine s_call (vs := [v0_3, (Value.func (.func 83) #[] [].toArray)]) hE goes_none (by decide) rfl cb82 (c_slices_ContainsFunc_impl_Event_impl_Event _ p0.Events v0_3 (hM.rdo hv0_3) (fun z0 => F_impl_IsVault_1 z0) 83 [] cb83 (fun w2 hk2 z0 zr zhr => c_impl_IsVault_1 w2 z0 zr zhr) r80 e81) ?_
        rintro v w a ⟨rfl, hK⟩ hE
        have hM := hM.keep hK
        refine s_not hE goes_none (by decide) rfl ?_; intro a hE
        refine s_assign hE goes_none (by decide) rfl ?_; intro a hE
        refine c_fin ?_
        have hr := Option.some.inj hF22
        subst hr
        have hM := M.fst (l := []) hM
        exact wp_ret (k_ret1 hE rfl (res_tmp hE rfl) ⟨_, rfl, rfl, hM.kept⟩)
noncomputable def L0_impl_Vault_numbersOf (p0 : GVault) (p1 : GRecord → Option (Bool)) (s10 : Int × (List Int)) : Option (Fl (Int × (List Int)) (List Int)) :=
  if (decide (s10.1 < (p0.Records.length : Int))) = true then (((idx p0.Records s10.1).bind fun (x22 : GRecord) => ((p1 x22)).bind fun (r34 : Bool) => (if r34 = true then ((app 8 s10.2 ([x22.Number] : List Int)).bind fun (l44 : (List Int)) => some (s10.2 ++ ([x22.Number] : List Int))) else (some s10.2) : Option ((List Int))).bind fun (j36 : (List Int)) => some j36 : Option ((List Int))).bind fun (j17 : (List Int)) => some (Fl.nx (wr (s10.1 + 1), j17))) else (some (Fl.ex s10.2))
noncomputable def F_impl_Vault_numbersOf (p0 : GVault) (p1 : GRecord → Option (Bool)) : Option ((List Int)) :=
  (iter (L0_impl_Vault_numbersOf p0 p1) (0, ([] : List Int)) : Option ((List Int))).bind fun (j5 : (List Int)) => some j5
set_option maxRecDepth 20000 in
set_option maxHeartbeats 400000 in
theorem c_impl_Vault_numbersOf (w0 : World) (p0 : GVault) (v0_1 : Value) (hv0_1 : Ro w0 p0.Keys [v0_1]) (v0_2 : Value) (hv0_2 : Ro w0 p0.Records [v0_2]) (v0_3 : Value) (hv0_3 : Ro w0 p0.Events [v0_3]) (p1 : GRecord → Option (Bool)) (k1 : Nat) (q1 : List Value) (hcb1 : Callable Try.prog k1) (hg1 : ∀ (w2 : World), Kept (Old w0) w0 w2 → ∀ (z0 : GRecord) (zu1 : Value) (_ : Ro w2 z0.Label [zu1]) (zu2 : Value) (_ : Ro w2 z0.Body [zu2]) (zr : Bool), p1 z0 = some zr → Calls Try.prog k1 ([(Value.agg (cat [[(vI z0.Number)], [(vI z0.Version)], Flat.enc z0.Nonce, [zu1], [zu2], Flat.enc z0.Tag]).toArray)] ++ q1).toArray w2 (fun en w3 => ∃ v, en = .returned v ∧ (v = (vT zr) ∧ Kept (Old w2) w2 w3))) (r : (List Int)) (hF : F_impl_Vault_numbersOf p0 p1 = some r) :
    Calls Try.prog 103 [(Value.agg (cat [[v0_1], [(vI p0.Next)], [v0_2], [v0_3], Flat.enc p0.Head]).toArray), (Value.func (.func k1) #[] q1.toArray)].toArray w0 (fun en w' => ∃ v, en = .returned v ∧ (∃ (y1 : Value), v = y1 ∧ Fr w0 w' [osl NoB (r : List Int) y1] ∧ Kept (Old w0) w0 w')) := by
  refine c_enter (n := 26) Try.func103 rfl rfl (Nat.le_of_ble_eq_true rfl) rfl ?_
  intro a hE
  have hM := M.start w0
  unfold F_impl_Vault_numbersOf at hF
  refine c_region ?_
  refine s_box (cs := cat [[v0_1], [(vI p0.Next)], [v0_2], [v0_3], Flat.enc p0.Head]) hE hM goes_none (by decide) rfl rfl ?_; intro b1 w a hM hE
  refine s_assign hE goes_none (by decide) rfl ?_; intro a hE
  refine c_fin ?_
  refine c_region ?_
  refine s_buildF (xs := []) (l := ([] : List Int)) (vs := []) hE hM goes_none (by decide) rfl rfl Try.underlying66 ty2 rfl (by decide) rfl ?_; intro u3 w a hM hE
  refine s_assign hE goes_none (by decide) rfl ?_; intro a hE
  refine c_fin ?_
  refine wp_seq ?_
  refine c_region ?_
  refine s_fieldAddr hE goes_none (by decide) rfl (fd49_2) ?_; intro a hE
  refine s_load (v := v0_2) hE goes_none (by decide) rfl ty45 rfl (At.cat (pre := [[v0_1], [(vI p0.Next)]]) (seg := [v0_2]) (post := [[v0_3], Flat.enc p0.Head]) (hM.rawAt (pre := [_])) (cl1 (n := 1) (m := 1) rfl (cl1 (n := 1) (m := 0) rfl cl0))) ?_; intro a hE
  refine s_len hE goes_none (by decide) rfl Try.underlying45 (hM.rd hv0_2) ?_; intro a hE
  refine s_move hE goes_none (by decide) rfl ?_; intro a hE
  refine c_fin ?_
  obtain ⟨j5, hl6, hF7⟩ := bind_some hF
  refine c_cut (fun a w => ∃ (u8 : Value), Env 26 a [(5, u8)] ∧ M (Old w0) w0 w [osl NoB (j5 : List Int) u8]) ?_ ?_
  · skip
    refine wp_block ?_
    have hM := M.fst (l := [_]) hM
    refine c_loop (fun (s10 : Int × (List Int)) a w => ∃ (u11 : Value), Env 26 a [(1, (Value.func (.func k1) #[] q1.toArray)), (5, u11), (10, v0_2), (11, (vI (p0.Records.length : Int))), (12, (vI s10.1))] ∧ M (Old w0) w0 w [osl NoB (s10.2 : List Int) u11]) hl6 ⟨u3, hE.sub ⟨rfl, rfl, rfl, rfl, rfl, trivial⟩, hM⟩ ?_
    rintro s10 a w ⟨u11, hE, hM⟩ o15 hs13 hx14
    unfold L0_impl_Vault_numbersOf at hs13
    refine c_region ?_
    refine s_int hE goes_none (by decide) rfl rfl rfl ?_; intro a hE
    refine c_fin ?_
    refine wp_seq ?_
    refine c_cond hE rfl ?_ ?_
    · intro hb16
      have hs13 := ite_t hs13 hb16
      refine wp_skip ?_
      refine c_nx ?_
      obtain ⟨j17, hl18, hF19⟩ := bind_some hs13
      refine c_join (fun a w => ∃ (u20 : Value), Env 26 a [(1, (Value.func (.func k1) #[] q1.toArray)), (5, u20), (10, v0_2), (11, (vI (p0.Records.length : Int))), (12, (vI s10.1))] ∧ M (Old w0) w0 w [osl NoB (j17 : List Int) u20]) ?_ ?_
      · skip
        refine wp_block ?_
        refine c_region ?_
        obtain ⟨x22, e23, hl18⟩ := bind_some hl18
        have hi24 := idx_some e23
        refine s_indexS hE goes_none (by decide) rfl rfl Try.underlying45 ty106 (hM.rd hv0_2) hi24.1 ?_; intro a hE
        obtain ⟨cs25, hs26, hA27⟩ := sl_atRo hv0_2 hi24.2 -- ^
        obtain ⟨u28, u30, rfl, h29, h31⟩ := un_GRecord hs26 -- ^
        refine s_loadA (cs := cat [[(vI x22.Number)], [(vI x22.Version)], Flat.enc x22.Nonce, [u28], [u30], Flat.enc x22.Tag]) hE goes_none (by decide) rfl ty106 rfl (hM.atk hA27 (sl_blk hv0_2 hi24.2)) (cat_len (cl1 (n := 1) (m := 51) rfl (cl1 (n := 1) (m := 50) rfl (cl1 (n := 16) (m := 34) (Flat.len _) (cl1 (n := 1) (m := 33) rfl (cl1 (n := 1) (m := 32) rfl (cl1 (n := 32) (m := 0) (Flat.len _) cl0))))))) ?_; intro a hE
        refine s_alloc hE hM goes_none (by decide) ty106 ?_; intro b32 w a hM hE
        refine s_store (seg := cat [[(vI x22.Number)], [(vI x22.Version)], Flat.enc x22.Nonce, [u28], [u30], Flat.enc x22.Tag]) (cs' := cat [[(vI x22.Number)], [(vI x22.Version)], Flat.enc x22.Nonce, [u28], [u30], Flat.enc x22.Tag]) hE hM goes_none rfl rfl rfl ty106 (cat_len (cl1 (n := 1) (m := 51) rfl (cl1 (n := 1) (m := 50) rfl (cl1 (n := 16) (m := 34) (Flat.len _) (cl1 (n := 1) (m := 33) rfl (cl1 (n := 1) (m := 32) rfl (cl1 (n := 32) (m := 0) (Flat.len _) cl0))))))) (Nat.le_of_eq (by rw [Nat.zero_add]; exact (Eq.trans (cat_len (cl1 (n := 1) (m := 51) rfl (cl1 (n := 1) (m := 50) rfl (cl1 (n := 16) (m := 34) (Flat.len _) (cl1 (n := 1) (m := 33) rfl (cl1 (n := 1) (m := 32) rfl (cl1 (n := 32) (m := 0) (Flat.len _) cl0))))))) (Eq.symm (cat_len (cl1 (n := 1) (m := 51) rfl (cl1 (n := 1) (m := 50) rfl (cl1 (n := 16) (m := 34) (Flat.len _) (cl1 (n := 1) (m := 33) rfl (cl1 (n := 1) (m := 32) rfl (cl1 (n := 32) (m := 0) (Flat.len _) cl0))))))))))) (cat_cell (cc1 (Flat.cell x22.Number) (cc1 (Flat.cell x22.Version) (cc1 (Flat.cell _) (cc1 (Rep.cell (hM.rd h29)) (cc1 (Rep.cell (hM.rd h31)) (cc1 (Flat.cell _) cc0))))))) (splice_all (Eq.trans (cat_len (cl1 (n := 1) (m := 51) rfl (cl1 (n := 1) (m := 50) rfl (cl1 (n := 16) (m := 34) (Flat.len _) (cl1 (n := 1) (m := 33) rfl (cl1 (n := 1) (m := 32) rfl (cl1 (n := 32) (m := 0) (Flat.len _) cl0))))))) (Eq.symm (cat_len (cl1 (n := 1) (m := 51) rfl (cl1 (n := 1) (m := 50) rfl (cl1 (n := 16) (m := 34) (Flat.len _) (cl1 (n := 1) (m := 33) rfl (cl1 (n := 1) (m := 32) rfl (cl1 (n := 32) (m := 0) (Flat.len _) cl0)))))))))) ?_; intro w a hM hE
        refine c_fin ?_
        refine c_region ?_
        refine s_move hE goes_none (by decide) rfl ?_; intro a hE
        refine s_loadA (cs := cat [[(vI x22.Number)], [(vI x22.Version)], Flat.enc x22.Nonce, [u28], [u30], Flat.enc x22.Tag]) hE goes_none (by decide) rfl ty106 rfl (hM.rawAt (pre := [])) (cat_len (cl1 (n := 1) (m := 51) rfl (cl1 (n := 1) (m := 50) rfl (cl1 (n := 16) (m := 34) (Flat.len _) (cl1 (n := 1) (m := 33) rfl (cl1 (n := 1) (m := 32) rfl (cl1 (n := 32) (m := 0) (Flat.len _) cl0))))))) ?_; intro a hE
        obtain ⟨r34, e35, hl18⟩ := bind_some hl18
        refine s_callv2 (vs := [(Value.agg (cat [[(vI x22.Number)], [(vI x22.Version)], Flat.enc x22.Nonce, [u28], [u30], Flat.enc x22.Tag]).toArray)]) hE goes_none (by decide) rfl rfl hcb1 (hg1 _ hM.kept x22 u28 (hM.rdo h29) u30 (hM.rdo h31) r34 e35) ?_
        rintro v w a ⟨rfl, hK⟩ hE
        have hM := hM.keep hK
        refine c_fin ?_
        obtain ⟨j36, hl37, hF38⟩ := bind_some hl18
        refine c_cut (fun a w => ∃ (u39 : Value), Env 26 a [(1, (Value.func (.func k1) #[] q1.toArray)), (5, u39), (10, v0_2), (11, (vI (p0.Records.length : Int))), (12, (vI s10.1))] ∧ M (Old w0) w0 w [osl NoB (j36 : List Int) u39]) ?_ ?_
        · skip
          refine c_cond hE rfl ?_ ?_
          · intro hb41
            have hl37 := ite_t hl37 hb41
            refine wp_region_lit ?_
            refine s_move hE goes_none (by decide) rfl ?_; intro a hE
            refine s_fieldAddr hE goes_none (by decide) rfl (fd106_0) ?_; intro a hE
            refine s_load (v := (vI x22.Number)) hE goes_none (by decide) rfl ty2 rfl (At.cat (pre := []) (seg := [(vI x22.Number)]) (post := [[(vI x22.Version)], Flat.enc x22.Nonce, [u28], [u30], Flat.enc x22.Tag]) (hM.rawAt (pre := [])) cl0) ?_; intro a hE
            refine s_buildF (xs := [.tmp 21]) (l := ([x22.Number] : List Int)) (vs := [(vI x22.Number)]) hE hM goes_none (by decide) rfl rfl Try.underlying66 ty2 rfl (by decide) rfl ?_; intro u42 w a hM hE
            obtain ⟨l44, e45, hl37⟩ := bind_some hl37
            obtain ⟨e48, rfl⟩ := app_some e45
            have hM := hM.pull (pre := [_, _])
            refine s_appendF hE hM goes_none (by decide) rfl rfl (hM.sl (pre := [_]) noB) Try.underlying66 ty2 rfl (by decide) e48 ?_; intro u46 w a hM hE
            refine s_assign hE goes_none (by decide) rfl ?_; intro a hE
            refine c_fin0 ?_
            have ht49 := Option.some.inj hl37
            subst ht49
            refine c_mid ?_
            have hM := M.fst (l := [_]) hM
            exact ⟨u46, hE.sub ⟨rfl, rfl, rfl, rfl, rfl, trivial⟩, hM⟩
          · intro hb41
            have hl37 := ite_f hl37 hb41
            refine wp_skip ?_
            have ht50 := Option.some.inj hl37
            subst ht50
            refine c_mid ?_
            have hM := hM.pull (pre := [_])
            have hM := M.fst (l := [_]) hM
            exact ⟨u11, hE.sub ⟨rfl, rfl, rfl, rfl, rfl, trivial⟩, hM⟩
        · skip
          rintro a w ⟨u39, hE, hM⟩
          refine c_nb ?_
          have ht51 := Option.some.inj hF38
          subst ht51
          refine c_mid ?_
          exact ⟨u39, hE.sub ⟨rfl, rfl, rfl, rfl, rfl, trivial⟩, hM⟩
      · skip
        rintro a w ⟨u20, hE, hM⟩
        refine wp_region_lit ?_
        refine s_int hE goes_none (by decide) rfl rfl rfl ?_; intro a hE
        refine s_move hE goes_none (by decide) rfl ?_; intro a hE
        refine c_fin0 ?_
        refine c_mid ?_
        exact ⟨_, (Option.some.inj hF19).symm, u20, hE.sub ⟨rfl, rfl, rfl, rfl, rfl, trivial⟩, hM⟩
    · intro hb16
      have hs13 := ite_f hs13 hb16
      refine wp_exit (e_then (e_then (e_eq ?_)))
      have ht52 := hx14 _ (Option.some.inj hs13).symm
      subst ht52
      refine c_mid ?_
      exact ⟨u11, hE.sub ⟨rfl, trivial⟩, hM⟩
  · skip
    rintro a w ⟨u8, hE, hM⟩
    refine c_nx ?_
    refine c_region ?_
    refine s_move hE goes_none (by decide) rfl ?_; intro a hE
    refine s_assign hE goes_none (by decide) rfl ?_; intro a hE
    refine c_fin ?_
    have hr := Option.some.inj hF7
    subst hr
    exact wp_ret (k_ret1 hE rfl (res_tmp hE rfl) ⟨_, rfl, u8, rfl, hM.outF (locN1 locN0), hM.kept⟩)
noncomputable def F_bytes_Equal (p0 : (List UInt8)) (p1 : (List UInt8)) : Option (Bool) :=
  some (decide ((⟨p0⟩ : Str) = (⟨p1⟩ : Str)))
set_option maxRecDepth 20000 in
set_option maxHeartbeats 400000 in
theorem c_bytes_Equal (w0 : World) (p0 : (List UInt8)) (v0_1 : Value) (hv0_1 : Ro w0 p0 [v0_1]) (p1 : (List UInt8)) (v1_1 : Value) (hv1_1 : Ro w0 p1 [v1_1]) (r : Bool) (hF : F_bytes_Equal p0 p1 = some r) :
    Calls Try.prog 98 [v0_1, v1_1].toArray w0 (fun en w' => ∃ v, en = .returned v ∧ (v = (vT r) ∧ Kept (Old w0) w0 w')) := by
  refine c_enter (n := 10) Try.func98 rfl rfl (Nat.le_of_ble_eq_true rfl) rfl ?_
  intro a hE
  have hM := M.start w0
  unfold F_bytes_Equal at hF
  refine c_region ?_
  refine s_assign hE goes_none (by decide) rfl ?_; intro a hE
  refine c_fin ?_
  refine c_region ?_
  refine s_move hE goes_none (by decide) rfl ?_; intro a hE
  refine s_bytesStr hE goes_none (by decide) rfl Try.underlying29 Try.underlying5 Try.underlying9 (hM.rd hv0_1) ?_; intro a hE
  refine s_move hE goes_none (by decide) rfl ?_; intro a hE
  refine s_bytesStr hE goes_none (by decide) rfl Try.underlying29 Try.underlying5 Try.underlying9 (hM.rd hv1_1) ?_; intro a hE
  refine s_eqS hE goes_none (by decide) rfl rfl ?_; intro a hE
  refine s_assign hE goes_none (by decide) rfl ?_; intro a hE
  refine c_fin ?_
  have hr := Option.some.inj hF
  subst hr
  exact wp_ret (k_ret1 hE rfl (res_tmp hE rfl) ⟨_, rfl, rfl, hM.kept⟩)
noncomputable def F_impl_NumbersOfLabel_1 (p0 : GRecord) (p1 : (List UInt8)) : Option (Bool) :=
  (F_bytes_Equal p0.Label p1).bind fun (r3 : Bool) => some r3
set_option maxRecDepth 20000 in
set_option maxHeartbeats 400000 in
theorem c_impl_NumbersOfLabel_1 (w0 : World) (p0 : GRecord) (v0_1 : Value) (hv0_1 : Ro w0 p0.Label [v0_1]) (v0_2 : Value) (hv0_2 : Ro w0 p0.Body [v0_2]) (pb1 : Nat) (p1 : (List UInt8)) (v1_2 : Value) (hv1_2 : Ro w0 p1 [v1_2]) (hA1 : At w0 pb1 0 ([v1_2])) (hB1 : Old w0 pb1) (r : Bool) (hF : F_impl_NumbersOfLabel_1 p0 p1 = some r) :
    Calls Try.prog 112 [(Value.agg (cat [[(vI p0.Number)], [(vI p0.Version)], Flat.enc p0.Nonce, [v0_1], [v0_2], Flat.enc p0.Tag]).toArray), (ptr pb1 0)].toArray w0 (fun en w' => ∃ v, en = .returned v ∧ (v = (vT r) ∧ Kept (Old w0) w0 w')) := by
  refine c_enter (n := 8) Try.func112 rfl rfl (Nat.le_of_ble_eq_true rfl) rfl ?_
  intro a hE
  have hM := M.start w0
  unfold F_impl_NumbersOfLabel_1 at hF
  refine c_region ?_
  refine s_box (cs := cat [[(vI p0.Number)], [(vI p0.Version)], Flat.enc p0.Nonce, [v0_1], [v0_2], Flat.enc p0.Tag]) hE hM goes_none (by decide) rfl rfl ?_; intro b1 w a hM hE
  refine s_assign hE goes_none (by decide) rfl ?_; intro a hE
  refine c_fin ?_
  refine c_region ?_
  refine s_fieldAddr hE goes_none (by decide) rfl (fd106_3) ?_; intro a hE
  refine s_load (v := v0_1) hE goes_none (by decide) rfl ty29 rfl (At.cat (pre := [[(vI p0.Number)], [(vI p0.Version)], Flat.enc p0.Nonce]) (seg := [v0_1]) (post := [[v0_2], Flat.enc p0.Tag]) (hM.rawAt (pre := [])) (cl1 (n := 1) (m := 17) rfl (cl1 (n := 1) (m := 16) rfl (cl1 (n := 16) (m := 0) (Flat.len _) cl0)))) ?_; intro a hE
  refine s_load (v := v1_2) hE goes_none (by decide) rfl ty29 rfl (hM.atk hA1 hB1) ?_; intro a hE
  obtain ⟨r3, e4, hF⟩ := bind_some hF
  refine s_call (vs := [v0_1, v1_2]) hE goes_none (by decide) rfl cb98 (c_bytes_Equal _ p0.Label v0_1 (hM.rdo hv0_1) p1 v1_2 (hM.rdo hv1_2) r3 e4) ?_
  rintro v w a ⟨rfl, hK⟩ hE
  have hM := hM.keep hK
  refine s_assign hE goes_none (by decide) rfl ?_; intro a hE
  refine c_fin ?_
  have hr := Option.some.inj hF
  subst hr
  have hM := M.fst (l := []) hM
  exact wp_ret (k_ret1 hE rfl (res_tmp hE rfl) ⟨_, rfl, rfl, hM.kept⟩)
noncomputable def F_impl_NumbersOfLabel (p0 : GVault) (p1 : (List UInt8)) : Option ((List Int) × Int) :=
  (F_impl_IsVault p0).bind fun (r5 : Bool) => if (!r5) = true then (some ([], 1)) else (if (decide ((p1.length : Int) > 32)) = true then (some ([], 2)) else ((F_impl_Vault_numbersOf p0 (fun z0 => F_impl_NumbersOfLabel_1 z0 p1)).bind fun (r11 : (List Int)) => some (r11, 0)))
set_option maxRecDepth 20000 in
set_option maxHeartbeats 400000 in
theorem c_impl_NumbersOfLabel (w0 : World) (p0 : GVault) (v0_1 : Value) (hv0_1 : Ro w0 p0.Keys [v0_1]) (v0_2 : Value) (hv0_2 : Ro w0 p0.Records [v0_2]) (v0_3 : Value) (hv0_3 : Ro w0 p0.Events [v0_3]) (p1 : (List UInt8)) (v1_1 : Value) (hv1_1 : Ro w0 p1 [v1_1]) (r : (List Int) × Int) (hF : F_impl_NumbersOfLabel p0 p1 = some r) :
    Calls Try.prog 52 [(Value.agg (cat [[v0_1], [(vI p0.Next)], [v0_2], [v0_3], Flat.enc p0.Head]).toArray), v1_1].toArray w0 (fun en w' => ∃ v, en = .returned v ∧ (∃ (y1 : Value), v = (Value.tuple [y1, (vI r.2)].toArray) ∧ Fr w0 w' [osl NoB (r.1 : List Int) y1] ∧ Kept (Old w0) w0 w')) := by
  refine c_enter (n := 17) Try.func52 rfl rfl (Nat.le_of_ble_eq_true rfl) rfl ?_
  intro a hE
  have hM := M.start w0
  unfold F_impl_NumbersOfLabel at hF
  refine c_region ?_
  refine s_box (cs := cat [[v0_1], [(vI p0.Next)], [v0_2], [v0_3], Flat.enc p0.Head]) hE hM goes_none (by decide) rfl rfl ?_; intro b1 w a hM hE
  refine s_box (cs := [v1_1]) hE hM goes_none (by decide) rfl (sl_cells (hM.rd hv1_1)) ?_; intro b3 w a hM hE
  refine s_assign hE goes_none (by decide) rfl ?_; intro a hE
  refine s_assign hE goes_none (by decide) rfl ?_; intro a hE
  refine c_fin ?_
  refine wp_seq ?_
  refine wp_block ?_
  refine c_region ?_
  refine s_loadA (cs := cat [[v0_1], [(vI p0.Next)], [v0_2], [v0_3], Flat.enc p0.Head]) hE goes_none (by decide) rfl ty49 rfl (hM.rawAt (pre := [_])) (cat_len (cl1 (n := 1) (m := 35) rfl (cl1 (n := 1) (m := 34) rfl (cl1 (n := 1) (m := 33) rfl (cl1 (n := 1) (m := 32) rfl (cl1 (n := 32) (m := 0) (Flat.len _) cl0)))))) ?_; intro a hE
  obtain ⟨r5, e6, hF⟩ := bind_some hF
  refine s_call (vs := [(Value.agg (cat [[v0_1], [(vI p0.Next)], [v0_2], [v0_3], Flat.enc p0.Head]).toArray)]) hE goes_none (by decide) rfl cb27 (c_impl_IsVault _ p0 v0_1 (hM.rdo hv0_1) v0_2 (hM.rdo hv0_2) v0_3 (hM.rdo hv0_3) r5 e6) ?_
  rintro v w a ⟨rfl, hK⟩ hE
  have hM := hM.keep hK
  refine s_not hE goes_none (by decide) rfl ?_; intro a hE
  refine s_assign hE goes_none (by decide) rfl ?_; intro a hE
  refine c_fin ?_
  refine c_cond hE rfl ?_ ?_
  · intro hb7
    have hF := ite_t hF hb7
    refine c_region ?_
    refine s_assign hE goes_none (by decide) rfl ?_; intro a hE
    refine s_assign hE goes_none (by decide) rfl ?_; intro a hE
    refine c_fin ?_
    have hM := M.nilS (α := Int) NoB noB hM
    have hr := Option.some.inj hF
    subst hr
    have hM := M.fst (l := [_]) hM
    exact wp_ret (r_inb (r_then (k_ret2 hE rfl (res_tmp hE rfl) (res_tmp hE rfl) ⟨_, rfl, (Value.slice none 0 0), rfl, hM.outF (locN1 locN0), hM.kept⟩)))
  · intro hb7
    have hF := ite_f hF hb7
    refine c_region ?_
    refine s_load (v := v1_1) hE goes_none (by decide) rfl ty29 rfl (hM.rawAt (pre := [])) ?_; intro a hE
    refine s_len hE goes_none (by decide) rfl Try.underlying29 (hM.rd hv1_1) ?_; intro a hE
    refine s_int hE goes_none (by decide) rfl rfl rfl ?_; intro a hE
    refine s_assign hE goes_none (by decide) rfl ?_; intro a hE
    refine c_fin ?_
    refine c_cond hE rfl ?_ ?_
    · intro hb9
      have hF := ite_t hF hb9
      refine c_region ?_
      refine s_assign hE goes_none (by decide) rfl ?_; intro a hE
      refine s_assign hE goes_none (by decide) rfl ?_; intro a hE
      refine c_fin ?_
      have hM := M.nilS (α := Int) NoB noB hM
      have hr := Option.some.inj hF
      subst hr
      have hM := M.fst (l := [_]) hM
      exact wp_ret (r_inb (r_then (k_ret2 hE rfl (res_tmp hE rfl) (res_tmp hE rfl) ⟨_, rfl, (Value.slice none 0 0), rfl, hM.outF (locN1 locN0), hM.kept⟩)))
    · intro hb9
      have hF := ite_f hF hb9
      refine wp_skip ?_
      refine c_nb ?_
      refine c_nx ?_
      refine c_region ?_
      refine s_loadA (cs := cat [[v0_1], [(vI p0.Next)], [v0_2], [v0_3], Flat.enc p0.Head]) hE goes_none (by decide) rfl ty49 rfl (hM.rawAt (pre := [_])) (cat_len (cl1 (n := 1) (m := 35) rfl (cl1 (n := 1) (m := 34) rfl (cl1 (n := 1) (m := 33) rfl (cl1 (n := 1) (m := 32) rfl (cl1 (n := 32) (m := 0) (Flat.len _) cl0)))))) ?_; intro a hE
      refine s_makeFunc hE goes_none (by decide) rfl ?_; intro a hE
      obtain ⟨r11, e12, hF⟩ := bind_some hF
      refine s_call (vs := [(Value.agg (cat [[v0_1], [(vI p0.Next)], [v0_2], [v0_3], Flat.enc p0.Head]).toArray), (Value.func (.func 112) #[] [(ptr b3 0)].toArray)]) hE goes_none (by decide) rfl cb103 (c_impl_Vault_numbersOf _ p0 v0_1 (hM.rdo hv0_1) v0_2 (hM.rdo hv0_2) v0_3 (hM.rdo hv0_3) (fun z0 => F_impl_NumbersOfLabel_1 z0 p1) 112 [(ptr b3 0)] cb112 (fun w2 hk2 z0 zu0_0 zh0_0 zu0_1 zh0_1 zr zhr => c_impl_NumbersOfLabel_1 w2 z0 zu0_0 zh0_0 zu0_1 zh0_1 b3 p1 v1_1 (ro_later (hM.rdo hv1_1) hk2) (at_later (hM.rawAt (pre := [])) hk2 (by simp [cat])) (at_lt_later (hM.rawAt (pre := [])) hk2 (by simp [cat])) zr zhr) r11 e12) ?_
      rintro u13 w a ⟨_, rfl, hFr, hK⟩ hE
      have hM := hM.add hK hFr
      refine s_assign hE goes_none (by decide) rfl ?_; intro a hE
      refine s_assign hE goes_none (by decide) rfl ?_; intro a hE
      refine c_fin ?_
      have hr := Option.some.inj hF
      subst hr
      have hM := M.fst (l := [_]) hM
      exact wp_ret (k_ret2 hE rfl (res_tmp hE rfl) (res_tmp hE rfl) ⟨_, rfl, u13, rfl, hM.outF (locN1 locN0), hM.kept⟩)
noncomputable def L0_laws_eqInt64S (p0 : (List Int)) (p1 : (List Int)) (s6 : Int) : Option (Fl Int (Fl Unit Bool)) :=
  if (decide (s6 < (p0.length : Int))) = true then (((idx p0 s6).bind fun (x15 : Int) => (idx p1 s6).bind fun (x18 : Int) => some (x15 != x18) : Option (Bool)).bind fun (j11 : Bool) => if j11 = true then (some (Fl.ex (Fl.ex false))) else (some (Fl.nx (wr (s6 + 1))))) else (some (Fl.ex (Fl.nx ())))
noncomputable def F_laws_eqInt64S (p0 : (List Int)) (p1 : (List Int)) : Option (Bool) :=
  if ((p0.length : Int) != (p1.length : Int)) = true then (some false) else ((iter (L0_laws_eqInt64S p0 p1) 0 : Option (Fl Unit Bool)).bind fun (j2 : Fl Unit Bool) => j2.el (fun (s5 : Unit) => some true) (fun r => some r))
set_option maxRecDepth 20000 in
set_option maxHeartbeats 400000 in
theorem c_laws_eqInt64S (w0 : World) (p0 : (List Int)) (v0_1 : Value) (hv0_1 : Ro w0 p0 [v0_1]) (p1 : (List Int)) (v1_1 : Value) (hv1_1 : Ro w0 p1 [v1_1]) (r : Bool) (hF : F_laws_eqInt64S p0 p1 = some r) :
    Calls Try.prog 43 [v0_1, v1_1].toArray w0 (fun en w' => ∃ v, en = .returned v ∧ (v = (vT r) ∧ Kept (Old w0) w0 w')) := by
  refine c_enter (n := 26) Try.func43 rfl rfl (Nat.le_of_ble_eq_true rfl) rfl ?_
  intro a hE
  have hM := M.start w0
  unfold F_laws_eqInt64S at hF
  refine c_region ?_
  refine s_assign hE goes_none (by decide) rfl ?_; intro a hE
  refine c_fin ?_
  refine wp_seq ?_
  refine c_region ?_
  refine s_move hE goes_none (by decide) rfl ?_; intro a hE
  refine s_len hE goes_none (by decide) rfl Try.underlying66 (hM.rd hv0_1) ?_; intro a hE
  refine s_move hE goes_none (by decide) rfl ?_; intro a hE
  refine s_len hE goes_none (by decide) rfl Try.underlying66 (hM.rd hv1_1) ?_; intro a hE
  refine s_int hE goes_none (by decide) rfl rfl rfl ?_; intro a hE
  refine c_fin ?_
  refine c_cond hE rfl ?_ ?_
  · intro hb1
    have hF := ite_t hF hb1
    refine c_region ?_
    refine s_assign hE goes_none (by decide) rfl ?_; intro a hE
    refine c_fin ?_
    have hr := Option.some.inj hF
    subst hr
    exact wp_ret (r_then (k_ret1 hE rfl (res_tmp hE rfl) ⟨_, rfl, rfl, hM.kept⟩))
  · intro hb1
    have hF := ite_f hF hb1
    refine wp_skip ?_
    refine c_nx ?_
    refine wp_seq ?_
    refine c_region ?_
    refine s_assign hE goes_none (by decide) rfl ?_; intro a hE
    refine c_fin ?_
    obtain ⟨j2, hl3, hF4⟩ := bind_some hF
    refine c_cut (fun a w => ∃ s5 : Unit, j2 = Fl.nx s5 ∧ Env 26 a [] ∧ M (Old w0) w0 w []) ?_ ?_
    · skip
      refine wp_block ?_
      refine c_loop (fun (s6 : Int) a w => Env 26 a [(0, v0_1), (1, v1_1), (5, (vI s6))] ∧ M (Old w0) w0 w []) hl3 ⟨hE.sub ⟨rfl, rfl, rfl, trivial⟩, hM⟩ ?_
      rintro s6 a w ⟨hE, hM⟩ o9 hs7 hx8
      unfold L0_laws_eqInt64S at hs7
      refine wp_seq ?_
      refine c_region ?_
      refine s_move hE goes_none (by decide) rfl ?_; intro a hE
      refine s_move hE goes_none (by decide) rfl ?_; intro a hE
      refine s_len hE goes_none (by decide) rfl Try.underlying66 (hM.rd hv0_1) ?_; intro a hE
      refine s_int hE goes_none (by decide) rfl rfl rfl ?_; intro a hE
      refine c_fin ?_
      refine c_cond hE rfl ?_ ?_
      · intro hb10
        have hs7 := ite_t hs7 hb10
        refine wp_skip ?_
        refine c_nx ?_
        refine wp_seq ?_
        refine wp_block ?_
        obtain ⟨j11, hl12, hF13⟩ := bind_some hs7
        refine c_join (fun a w => Env 26 a [(0, v0_1), (1, v1_1), (5, (vI s6)), (25, (vT j11))] ∧ M (Old w0) w0 w []) ?_ ?_
        · skip
          obtain ⟨x15, e16, hl12⟩ := bind_some hl12
          have hi17 := idx_some e16
          obtain ⟨x18, e19, hl12⟩ := bind_some hl12
          have hi20 := idx_some e19
          refine c_draw (n := 26) (hd := [_, _, _, _, _, _, _, _, _]) (tl := []) hmix rfl rfl [17, 18, 19, 20, 21, 22, 23, 24, 25] (by decide) (fun w => M (Old w0) w0 w []) (fun j => ([fun v _ => v = v0_1, fun v _ => v = (vI s6), fun v _ => v = (ptr (sb v0_1) (so v0_1 + (s6).toNat * 1)), fun v _ => v = (vI x15), fun v _ => v = v1_1, fun v _ => v = (vI s6), fun v _ => v = (ptr (sb v1_1) (so v1_1 + (s6).toNat * 1)), fun v _ => v = (vI x18), fun v _ => v = (vT (x15 != x18))] : List (Value → World → Prop)).getD j (fun _ _ => True)) (fun _ _ h hk => h.keep hk) (gup (gupE (gupE (gupE (gupE (gupE (gupE (gupE (gupE (gupE gupN)))))))))) hE hM.drew (steps_of (steps_cons ?_ (steps_cons ?_ (steps_cons ?_ (steps_cons ?_ (steps_cons ?_ (steps_cons ?_ (steps_cons ?_ (steps_cons ?_ (steps_cons ?_ steps_nil)))))))))) ?_
          · intro a w ux14 hE hM hp
            refine s_move hE goes_none (by decide) rfl ?_; intro a hE
            exact ⟨Kept.refl _ _, _, _, rfl, hE, rfl⟩
          · intro a w ux14 hE hM hp
            refine s_move hE goes_none (by decide) rfl ?_; intro a hE
            exact ⟨Kept.refl _ _, _, _, rfl, hE, rfl⟩
          · intro a w ux14 hE hM hp
            have f0 : ux14 0 = v0_1 := hp 0 _ rfl rfl
            have f1 : ux14 1 = (vI s6) := hp 1 _ rfl rfl
            refine s_indexS hE goes_none (by decide) (lk rfl f0) (lk rfl f1) Try.underlying66 ty2 (hM.rd hv0_1) hi17.1 ?_; intro a hE
            exact ⟨Kept.refl _ _, _, _, rfl, hE, rfl⟩
          · intro a w ux14 hE hM hp
            have f2 : ux14 2 = (ptr (sb v0_1) (so v0_1 + (s6).toNat * 1)) := hp 0 _ rfl rfl
            refine s_load (v := (vI x15)) hE goes_none (by decide) (lk rfl f2) ty2 rfl (sl_atF (hM.rd hv0_1) hi17.2) ?_; intro a hE
            exact ⟨Kept.refl _ _, _, _, rfl, hE, rfl⟩
          · intro a w ux14 hE hM hp
            refine s_move hE goes_none (by decide) rfl ?_; intro a hE
            exact ⟨Kept.refl _ _, _, _, rfl, hE, rfl⟩
          · intro a w ux14 hE hM hp
            refine s_move hE goes_none (by decide) rfl ?_; intro a hE
            exact ⟨Kept.refl _ _, _, _, rfl, hE, rfl⟩
          · intro a w ux14 hE hM hp
            have f4 : ux14 4 = v1_1 := hp 0 _ rfl rfl
            have f5 : ux14 5 = (vI s6) := hp 1 _ rfl rfl
            refine s_indexS hE goes_none (by decide) (lk rfl f4) (lk rfl f5) Try.underlying66 ty2 (hM.rd hv1_1) hi20.1 ?_; intro a hE
            exact ⟨Kept.refl _ _, _, _, rfl, hE, rfl⟩
          · intro a w ux14 hE hM hp
            have f6 : ux14 6 = (ptr (sb v1_1) (so v1_1 + (s6).toNat * 1)) := hp 0 _ rfl rfl
            refine s_load (v := (vI x18)) hE goes_none (by decide) (lk rfl f6) ty2 rfl (sl_atF (hM.rd hv1_1) hi20.2) ?_; intro a hE
            exact ⟨Kept.refl _ _, _, _, rfl, hE, rfl⟩
          · intro a w ux14 hE hM hp
            have f3 : ux14 3 = (vI x15) := hp 0 _ rfl rfl
            have f7 : ux14 7 = (vI x18) := hp 1 _ rfl rfl
            refine s_int hE goes_none (by decide) (lk rfl f3) (lk rfl f7) rfl ?_; intro a hE
            exact ⟨Kept.refl _ _, _, _, rfl, hE, rfl⟩
          · intro a w ux14 hE hM hg
            have f0 : ux14 0 = v0_1 := hg 0 (by decide)
            have f1 : ux14 1 = (vI s6) := hg 1 (by decide)
            have f2 : ux14 2 = (ptr (sb v0_1) (so v0_1 + (s6).toNat * 1)) := hg 2 (by decide)
            have f3 : ux14 3 = (vI x15) := hg 3 (by decide)
            have f4 : ux14 4 = v1_1 := hg 4 (by decide)
            have f5 : ux14 5 = (vI s6) := hg 5 (by decide)
            have f6 : ux14 6 = (ptr (sb v1_1) (so v1_1 + (s6).toNat * 1)) := hg 6 (by decide)
            have f7 : ux14 7 = (vI x18) := hg 7 (by decide)
            have f8 : ux14 8 = (vT (x15 != x18)) := hg 8 (by decide)
            have hE := hE.sub (e' := [(17, v0_1), (18, (vI s6)), (19, (ptr (sb v0_1) (so v0_1 + (s6).toNat * 1))), (20, (vI x15)), (21, v1_1), (22, (vI s6)), (23, (ptr (sb v1_1) (so v1_1 + (s6).toNat * 1))), (24, (vI x18)), (25, (vT (x15 != x18))), (0, v0_1), (1, v1_1), (5, (vI s6)), (11, (vI s6)), (12, v0_1), (13, (vI (p0.length : Int))), (14, (vT (decide (s6 < (p0.length : Int)))))]) ⟨lk rfl f0, lk rfl f1, lk rfl f2, lk rfl f3, lk rfl f4, lk rfl f5, lk rfl f6, lk rfl f7, lk rfl f8, rfl, rfl, rfl, rfl, rfl, rfl, rfl, trivial⟩
            refine c_fin0 ?_
            have ht21 := Option.some.inj hl12
            subst ht21
            refine c_mid ?_
            exact ⟨hE.sub ⟨rfl, rfl, rfl, rfl, trivial⟩, hM⟩
        · skip
          rintro a w ⟨hE, hM⟩
          refine c_cond hE rfl ?_ ?_
          · intro hb22
            have hF13 := ite_t hF13 hb22
            refine c_region ?_
            refine s_assign hE goes_none (by decide) rfl ?_; intro a hE
            refine c_fin ?_
            have ht23 := hx8 _ (Option.some.inj hF13).symm
            subst ht23
            have hr := Option.some.inj hF4
            subst hr
            exact wp_ret (r_inb (r_then (r_then (r_inb (r_then (r_then (k_ret1 hE rfl (res_tmp hE rfl) ⟨_, rfl, rfl, hM.kept⟩)))))))
          · intro hb22
            have hF13 := ite_f hF13 hb22
            refine wp_skip ?_
            refine c_nb ?_
            refine c_nx ?_
            refine wp_region_lit ?_
            refine s_move hE goes_none (by decide) rfl ?_; intro a hE
            refine s_int hE goes_none (by decide) rfl rfl rfl ?_; intro a hE
            refine s_assign hE goes_none (by decide) rfl ?_; intro a hE
            refine c_fin0 ?_
            refine c_mid ?_
            exact ⟨_, (Option.some.inj hF13).symm, hE.sub ⟨rfl, rfl, rfl, trivial⟩, hM⟩
      · intro hb10
        have hs7 := ite_f hs7 hb10
        refine wp_exit (e_then (e_then (e_eq ?_)))
        have ht24 := hx8 _ (Option.some.inj hs7).symm
        subst ht24
        refine c_mid ?_
        exact ⟨(), rfl, hE.sub trivial, hM⟩
    · skip
      rintro a w ⟨s5, ht, hE, hM⟩
      subst ht
      refine c_nx ?_
      refine c_region ?_
      refine s_assign hE goes_none (by decide) rfl ?_; intro a hE
      refine c_fin ?_
      have hr := Option.some.inj hF4
      subst hr
      exact wp_ret (k_ret1 hE rfl (res_tmp hE rfl) ⟨_, rfl, rfl, hM.kept⟩)
noncomputable def L0_laws_eqBlock (p0 : (Vector UInt8 16)) (p1 : (Vector UInt8 16)) (s9 : Int) : Option (Fl Int (Fl Unit Bool)) :=
  if (decide (s9 < 16)) = true then (((vidx p0 s9).bind fun (x19 : UInt8) => (vidx p1 s9).bind fun (x22 : UInt8) => some (x19 != x22) : Option (Bool)).bind fun (j14 : Bool) => if j14 = true then (some (Fl.ex (Fl.ex false))) else (some (Fl.nx (wr (s9 + 1))))) else (some (Fl.ex (Fl.nx ())))
noncomputable def F_laws_eqBlock (p0 : (Vector UInt8 16)) (p1 : (Vector UInt8 16)) : Option (Bool) :=
  (iter (L0_laws_eqBlock p0 p1) 0 : Option (Fl Unit Bool)).bind fun (j5 : Fl Unit Bool) => j5.el (fun (s8 : Unit) => some true) (fun r => some r)
set_option maxRecDepth 20000 in
set_option maxHeartbeats 400000 in
theorem c_laws_eqBlock (w0 : World) (p0 : (Vector UInt8 16)) (p1 : (Vector UInt8 16)) (r : Bool) (hF : F_laws_eqBlock p0 p1 = some r) :
    Calls Try.prog 132 [(Value.agg (Flat.enc p0).toArray), (Value.agg (Flat.enc p1).toArray)].toArray w0 (fun en w' => ∃ v, en = .returned v ∧ (v = (vT r) ∧ Kept (Old w0) w0 w')) := by
  refine c_enter (n := 17) Try.func132 rfl rfl (Nat.le_of_ble_eq_true rfl) rfl ?_
  intro a hE
  have hM := M.start w0
  unfold F_laws_eqBlock at hF
  refine c_region ?_
  refine s_box (cs := Flat.enc p0) hE hM goes_none (by decide) rfl rfl ?_; intro b1 w a hM hE
  refine s_box (cs := Flat.enc p1) hE hM goes_none (by decide) rfl rfl ?_; intro b3 w a hM hE
  refine s_assign hE goes_none (by decide) rfl ?_; intro a hE
  refine c_fin ?_
  refine wp_seq ?_
  refine c_region ?_
  refine s_assign hE goes_none (by decide) rfl ?_; intro a hE
  refine c_fin ?_
  obtain ⟨j5, hl6, hF7⟩ := bind_some hF
  refine c_cut (fun a w => ∃ s8 : Unit, j5 = Fl.nx s8 ∧ Env 17 a [] ∧ M (Old w0) w0 w []) ?_ ?_
  · skip
    refine wp_block ?_
    refine c_loop (fun (s9 : Int) a w => Env 17 a [(2, (ptr b1 0)), (3, (ptr b3 0)), (5, (vI s9))] ∧ M (Old w0) w0 w [raw b3 (Flat.enc p1), raw b1 (Flat.enc p0)]) hl6 ⟨hE.sub ⟨rfl, rfl, rfl, trivial⟩, hM⟩ ?_
    rintro s9 a w ⟨hE, hM⟩ o12 hs10 hx11
    unfold L0_laws_eqBlock at hs10
    refine wp_seq ?_
    refine c_region ?_
    refine s_move hE goes_none (by decide) rfl ?_; intro a hE
    refine s_int hE goes_none (by decide) rfl rfl rfl ?_; intro a hE
    refine c_fin ?_
    refine c_cond hE rfl ?_ ?_
    · intro hb13
      have hs10 := ite_t hs10 hb13
      refine wp_skip ?_
      refine c_nx ?_
      refine wp_seq ?_
      refine wp_block ?_
      obtain ⟨j14, hl15, hF16⟩ := bind_some hs10
      refine c_join (fun a w => Env 17 a [(2, (ptr b1 0)), (3, (ptr b3 0)), (5, (vI s9)), (16, (vT j14))] ∧ M (Old w0) w0 w [raw b3 (Flat.enc p1), raw b1 (Flat.enc p0)]) ?_ ?_
      · skip
        obtain ⟨x19, e20, hl15⟩ := bind_some hl15
        have hi18 := vidx_some e20
        obtain ⟨x22, e23, hl15⟩ := bind_some hl15
        have hi21 := vidx_some e23
        refine c_draw (n := 17) (hd := [_, _, _, _, _, _, _]) (tl := []) hmix rfl rfl [10, 11, 12, 13, 14, 15, 16] (by decide) (fun w => M (Old w0) w0 w [raw b3 (Flat.enc p1), raw b1 (Flat.enc p0)]) (fun j => ([fun v _ => v = (vI s9), fun v _ => v = (ptr b1 (0 + (s9).toNat * 1)), fun v _ => v = (vB x19), fun v _ => v = (vI s9), fun v _ => v = (ptr b3 (0 + (s9).toNat * 1)), fun v _ => v = (vB x22), fun v _ => v = (vT (x19 != x22))] : List (Value → World → Prop)).getD j (fun _ _ => True)) (fun _ _ h hk => h.keep hk) (gup (gupE (gupE (gupE (gupE (gupE (gupE (gupE gupN)))))))) hE hM.drew (steps_of (steps_cons ?_ (steps_cons ?_ (steps_cons ?_ (steps_cons ?_ (steps_cons ?_ (steps_cons ?_ (steps_cons ?_ steps_nil)))))))) ?_
        · intro a w ux17 hE hM hp
          refine s_move hE goes_none (by decide) rfl ?_; intro a hE
          exact ⟨Kept.refl _ _, _, _, rfl, hE, rfl⟩
        · intro a w ux17 hE hM hp
          have f0 : ux17 0 = (vI s9) := hp 0 _ rfl rfl
          refine s_indexA hE goes_none (by decide) rfl (lk rfl f0) Try.underlying104 ty5 hi18.1 ?_; intro a hE
          exact ⟨Kept.refl _ _, _, _, rfl, hE, rfl⟩
        · intro a w ux17 hE hM hp
          have f1 : ux17 1 = (ptr b1 (0 + (s9).toNat * 1)) := hp 0 _ rfl rfl
          refine s_load (v := (vB x19)) hE goes_none (by decide) (lk rfl f1) ty5 rfl (At.vec (hM.rawAt (pre := [_])) hi18.2) ?_; intro a hE
          exact ⟨Kept.refl _ _, _, _, rfl, hE, rfl⟩
        · intro a w ux17 hE hM hp
          refine s_move hE goes_none (by decide) rfl ?_; intro a hE
          exact ⟨Kept.refl _ _, _, _, rfl, hE, rfl⟩
        · intro a w ux17 hE hM hp
          have f3 : ux17 3 = (vI s9) := hp 0 _ rfl rfl
          refine s_indexA hE goes_none (by decide) rfl (lk rfl f3) Try.underlying104 ty5 hi21.1 ?_; intro a hE
          exact ⟨Kept.refl _ _, _, _, rfl, hE, rfl⟩
        · intro a w ux17 hE hM hp
          have f4 : ux17 4 = (ptr b3 (0 + (s9).toNat * 1)) := hp 0 _ rfl rfl
          refine s_load (v := (vB x22)) hE goes_none (by decide) (lk rfl f4) ty5 rfl (At.vec (hM.rawAt (pre := [])) hi21.2) ?_; intro a hE
          exact ⟨Kept.refl _ _, _, _, rfl, hE, rfl⟩
        · intro a w ux17 hE hM hp
          have f2 : ux17 2 = (vB x19) := hp 0 _ rfl rfl
          have f5 : ux17 5 = (vB x22) := hp 1 _ rfl rfl
          refine s_int hE goes_none (by decide) (lk rfl f2) (lk rfl f5) (bB_neq x19 x22) ?_; intro a hE
          exact ⟨Kept.refl _ _, _, _, rfl, hE, rfl⟩
        · intro a w ux17 hE hM hg
          have f0 : ux17 0 = (vI s9) := hg 0 (by decide)
          have f1 : ux17 1 = (ptr b1 (0 + (s9).toNat * 1)) := hg 1 (by decide)
          have f2 : ux17 2 = (vB x19) := hg 2 (by decide)
          have f3 : ux17 3 = (vI s9) := hg 3 (by decide)
          have f4 : ux17 4 = (ptr b3 (0 + (s9).toNat * 1)) := hg 4 (by decide)
          have f5 : ux17 5 = (vB x22) := hg 5 (by decide)
          have f6 : ux17 6 = (vT (x19 != x22)) := hg 6 (by decide)
          have hE := hE.sub (e' := [(10, (vI s9)), (11, (ptr b1 (0 + (s9).toNat * 1))), (12, (vB x19)), (13, (vI s9)), (14, (ptr b3 (0 + (s9).toNat * 1))), (15, (vB x22)), (16, (vT (x19 != x22))), (2, (ptr b1 0)), (3, (ptr b3 0)), (5, (vI s9)), (6, (vI s9)), (7, (vT (decide (s9 < 16))))]) ⟨lk rfl f0, lk rfl f1, lk rfl f2, lk rfl f3, lk rfl f4, lk rfl f5, lk rfl f6, rfl, rfl, rfl, rfl, rfl, trivial⟩
          refine c_fin0 ?_
          have ht24 := Option.some.inj hl15
          subst ht24
          refine c_mid ?_
          exact ⟨hE.sub ⟨rfl, rfl, rfl, rfl, trivial⟩, hM⟩
      · skip
        rintro a w ⟨hE, hM⟩
        refine c_cond hE rfl ?_ ?_
        · intro hb25
          have hF16 := ite_t hF16 hb25
          refine c_region ?_
          refine s_assign hE goes_none (by decide) rfl ?_; intro a hE
          refine c_fin ?_
          have ht26 := hx11 _ (Option.some.inj hF16).symm
          subst ht26
          have hr := Option.some.inj hF7
          subst hr
          have hM := M.fst (l := []) hM
          exact wp_ret (r_inb (r_then (r_then (r_inb (r_then (r_then (k_ret1 hE rfl (res_tmp hE rfl) ⟨_, rfl, rfl, hM.kept⟩)))))))
        · intro hb25
          have hF16 := ite_f hF16 hb25
          refine wp_skip ?_
          refine c_nb ?_
          refine c_nx ?_
          refine wp_region_lit ?_
          refine s_move hE goes_none (by decide) rfl ?_; intro a hE
          refine s_int hE goes_none (by decide) rfl rfl rfl ?_; intro a hE
          refine s_assign hE goes_none (by decide) rfl ?_; intro a hE
          refine c_fin0 ?_
          refine c_mid ?_
          exact ⟨_, (Option.some.inj hF16).symm, hE.sub ⟨rfl, rfl, rfl, trivial⟩, hM⟩
    · intro hb13
      have hs10 := ite_f hs10 hb13
      refine wp_exit (e_then (e_then (e_eq ?_)))
      have ht27 := hx11 _ (Option.some.inj hs10).symm
      subst ht27
      refine c_mid ?_
      have hM := M.fst (l := []) hM
      exact ⟨(), rfl, hE.sub trivial, hM⟩
  · skip
    rintro a w ⟨s8, ht, hE, hM⟩
    subst ht
    refine c_nx ?_
    refine c_region ?_
    refine s_assign hE goes_none (by decide) rfl ?_; intro a hE
    refine c_fin ?_
    have hr := Option.some.inj hF7
    subst hr
    exact wp_ret (k_ret1 hE rfl (res_tmp hE rfl) ⟨_, rfl, rfl, hM.kept⟩)
noncomputable def L0_laws_eqBlockS (p0 : (List (Vector UInt8 16))) (p1 : (List (Vector UInt8 16))) (s6 : Int) : Option (Fl Int (Fl Unit Bool)) :=
  if (decide (s6 < (p0.length : Int))) = true then (((idx p0 s6).bind fun (x15 : (Vector UInt8 16)) => (idx p1 s6).bind fun (x18 : (Vector UInt8 16)) => (F_laws_eqBlock x15 x18).bind fun (r21 : Bool) => some (!r21) : Option (Bool)).bind fun (j11 : Bool) => if j11 = true then (some (Fl.ex (Fl.ex false))) else (some (Fl.nx (wr (s6 + 1))))) else (some (Fl.ex (Fl.nx ())))
noncomputable def F_laws_eqBlockS (p0 : (List (Vector UInt8 16))) (p1 : (List (Vector UInt8 16))) : Option (Bool) :=
  if ((p0.length : Int) != (p1.length : Int)) = true then (some false) else ((iter (L0_laws_eqBlockS p0 p1) 0 : Option (Fl Unit Bool)).bind fun (j2 : Fl Unit Bool) => j2.el (fun (s5 : Unit) => some true) (fun r => some r))
set_option maxRecDepth 20000 in
set_option maxHeartbeats 400000 in
theorem c_laws_eqBlockS (w0 : World) (p0 : (List (Vector UInt8 16))) (v0_1 : Value) (hv0_1 : Ro w0 p0 [v0_1]) (p1 : (List (Vector UInt8 16))) (v1_1 : Value) (hv1_1 : Ro w0 p1 [v1_1]) (r : Bool) (hF : F_laws_eqBlockS p0 p1 = some r) :
    Calls Try.prog 85 [v0_1, v1_1].toArray w0 (fun en w' => ∃ v, en = .returned v ∧ (v = (vT r) ∧ Kept (Old w0) w0 w')) := by
  refine c_enter (n := 27) Try.func85 rfl rfl (Nat.le_of_ble_eq_true rfl) rfl ?_
  intro a hE
  have hM := M.start w0
  unfold F_laws_eqBlockS at hF
  refine c_region ?_
  refine s_assign hE goes_none (by decide) rfl ?_; intro a hE
  refine c_fin ?_
  refine wp_seq ?_
  refine c_region ?_
  refine s_move hE goes_none (by decide) rfl ?_; intro a hE
  refine s_len hE goes_none (by decide) rfl Try.underlying44 (hM.rd hv0_1) ?_; intro a hE
  refine s_move hE goes_none (by decide) rfl ?_; intro a hE
  refine s_len hE goes_none (by decide) rfl Try.underlying44 (hM.rd hv1_1) ?_; intro a hE
  refine s_int hE goes_none (by decide) rfl rfl rfl ?_; intro a hE
  refine c_fin ?_
  refine c_cond hE rfl ?_ ?_
  · intro hb1
    have hF := ite_t hF hb1
    refine c_region ?_
    refine s_assign hE goes_none (by decide) rfl ?_; intro a hE
    refine c_fin ?_
    have hr := Option.some.inj hF
    subst hr
    exact wp_ret (r_then (k_ret1 hE rfl (res_tmp hE rfl) ⟨_, rfl, rfl, hM.kept⟩))
  · intro hb1
    have hF := ite_f hF hb1
    refine wp_skip ?_
    refine c_nx ?_
    refine wp_seq ?_
    refine c_region ?_
    refine s_assign hE goes_none (by decide) rfl ?_; intro a hE
    refine c_fin ?_
    obtain ⟨j2, hl3, hF4⟩ := bind_some hF
    refine c_cut (fun a w => ∃ s5 : Unit, j2 = Fl.nx s5 ∧ Env 27 a [] ∧ M (Old w0) w0 w []) ?_ ?_
    · skip
      refine wp_block ?_
      refine c_loop (fun (s6 : Int) a w => Env 27 a [(0, v0_1), (1, v1_1), (5, (vI s6))] ∧ M (Old w0) w0 w []) hl3 ⟨hE.sub ⟨rfl, rfl, rfl, trivial⟩, hM⟩ ?_
      rintro s6 a w ⟨hE, hM⟩ o9 hs7 hx8
      unfold L0_laws_eqBlockS at hs7
      refine wp_seq ?_
      refine c_region ?_
      refine s_move hE goes_none (by decide) rfl ?_; intro a hE
      refine s_move hE goes_none (by decide) rfl ?_; intro a hE
      refine s_len hE goes_none (by decide) rfl Try.underlying44 (hM.rd hv0_1) ?_; intro a hE
      refine s_int hE goes_none (by decide) rfl rfl rfl ?_; intro a hE
      refine c_fin ?_
      refine c_cond hE rfl ?_ ?_
      · intro hb10
        have hs7 := ite_t hs7 hb10
        refine wp_skip ?_
        refine c_nx ?_
        refine wp_seq ?_
        refine wp_block ?_
        obtain ⟨j11, hl12, hF13⟩ := bind_some hs7
        refine c_join (fun a w => Env 27 a [(0, v0_1), (1, v1_1), (5, (vI s6)), (26, (vT j11))] ∧ M (Old w0) w0 w []) ?_ ?_
        · skip
          obtain ⟨x15, e16, hl12⟩ := bind_some hl12
          have hi17 := idx_some e16
          obtain ⟨x18, e19, hl12⟩ := bind_some hl12
          have hi20 := idx_some e19
          obtain ⟨r21, e22, hl12⟩ := bind_some hl12
          refine c_draw (n := 27) (hd := [_, _, _, _, _, _, _, _, _, _]) (tl := []) hmix rfl rfl [17, 18, 19, 20, 21, 22, 23, 24, 25, 26] (by decide) (fun w => M (Old w0) w0 w []) (fun j => ([fun v _ => v = v0_1, fun v _ => v = (vI s6), fun v _ => v = (ptr (sb v0_1) (so v0_1 + (s6).toNat * 16)), fun v _ => v = (Value.agg (Flat.enc x15).toArray), fun v _ => v = v1_1, fun v _ => v = (vI s6), fun v _ => v = (ptr (sb v1_1) (so v1_1 + (s6).toNat * 16)), fun v _ => v = (Value.agg (Flat.enc x18).toArray), fun v _ => v = (vT r21), fun v _ => v = (vT (!r21))] : List (Value → World → Prop)).getD j (fun _ _ => True)) (fun _ _ h hk => h.keep hk) (gup (gupE (gupE (gupE (gupE (gupE (gupE (gupE (gupE (gupE (gupE gupN))))))))))) hE hM.drew (steps_of (steps_cons ?_ (steps_cons ?_ (steps_cons ?_ (steps_cons ?_ (steps_cons ?_ (steps_cons ?_ (steps_cons ?_ (steps_cons ?_ (steps_cons ?_ (steps_cons ?_ steps_nil))))))))))) ?_
          · intro a w ux14 hE hM hp
            refine s_move hE goes_none (by decide) rfl ?_; intro a hE
            exact ⟨Kept.refl _ _, _, _, rfl, hE, rfl⟩
          · intro a w ux14 hE hM hp
            refine s_move hE goes_none (by decide) rfl ?_; intro a hE
            exact ⟨Kept.refl _ _, _, _, rfl, hE, rfl⟩
          · intro a w ux14 hE hM hp
            have f0 : ux14 0 = v0_1 := hp 0 _ rfl rfl
            have f1 : ux14 1 = (vI s6) := hp 1 _ rfl rfl
            refine s_indexS hE goes_none (by decide) (lk rfl f0) (lk rfl f1) Try.underlying44 ty104 (hM.rd hv0_1) hi17.1 ?_; intro a hE
            exact ⟨Kept.refl _ _, _, _, rfl, hE, rfl⟩
          · intro a w ux14 hE hM hp
            have f2 : ux14 2 = (ptr (sb v0_1) (so v0_1 + (s6).toNat * 16)) := hp 0 _ rfl rfl
            refine s_loadA (cs := Flat.enc x15) hE goes_none (by decide) (lk rfl f2) ty104 rfl (sl_atF (hM.rd hv0_1) hi17.2) (Flat.len _) ?_; intro a hE
            exact ⟨Kept.refl _ _, _, _, rfl, hE, rfl⟩
          · intro a w ux14 hE hM hp
            refine s_move hE goes_none (by decide) rfl ?_; intro a hE
            exact ⟨Kept.refl _ _, _, _, rfl, hE, rfl⟩
          · intro a w ux14 hE hM hp
            refine s_move hE goes_none (by decide) rfl ?_; intro a hE
            exact ⟨Kept.refl _ _, _, _, rfl, hE, rfl⟩
          · intro a w ux14 hE hM hp
            have f4 : ux14 4 = v1_1 := hp 0 _ rfl rfl
            have f5 : ux14 5 = (vI s6) := hp 1 _ rfl rfl
            refine s_indexS hE goes_none (by decide) (lk rfl f4) (lk rfl f5) Try.underlying44 ty104 (hM.rd hv1_1) hi20.1 ?_; intro a hE
            exact ⟨Kept.refl _ _, _, _, rfl, hE, rfl⟩
          · intro a w ux14 hE hM hp
            have f6 : ux14 6 = (ptr (sb v1_1) (so v1_1 + (s6).toNat * 16)) := hp 0 _ rfl rfl
            refine s_loadA (cs := Flat.enc x18) hE goes_none (by decide) (lk rfl f6) ty104 rfl (sl_atF (hM.rd hv1_1) hi20.2) (Flat.len _) ?_; intro a hE
            exact ⟨Kept.refl _ _, _, _, rfl, hE, rfl⟩
          · intro a w ux14 hE hM hp
            have f3 : ux14 3 = (Value.agg (Flat.enc x15).toArray) := hp 0 _ rfl rfl
            have f7 : ux14 7 = (Value.agg (Flat.enc x18).toArray) := hp 1 _ rfl rfl
            refine s_call (vs := [(Value.agg (Flat.enc x15).toArray), (Value.agg (Flat.enc x18).toArray)]) hE goes_none (by decide) (evs_of (evsC (lk rfl f3) (evsC (lk rfl f7) evsN))) cb132 (c_laws_eqBlock _ x15 x18 r21 e22) ?_
            rintro v w a ⟨rfl, hK⟩ hE
            exact ⟨hK, _, _, rfl, hE, rfl⟩
          · intro a w ux14 hE hM hp
            have f8 : ux14 8 = (vT r21) := hp 0 _ rfl rfl
            refine s_not hE goes_none (by decide) (lk rfl f8) ?_; intro a hE
            exact ⟨Kept.refl _ _, _, _, rfl, hE, rfl⟩
          · intro a w ux14 hE hM hg
            have f0 : ux14 0 = v0_1 := hg 0 (by decide)
            have f1 : ux14 1 = (vI s6) := hg 1 (by decide)
            have f2 : ux14 2 = (ptr (sb v0_1) (so v0_1 + (s6).toNat * 16)) := hg 2 (by decide)
            have f3 : ux14 3 = (Value.agg (Flat.enc x15).toArray) := hg 3 (by decide)
            have f4 : ux14 4 = v1_1 := hg 4 (by decide)
            have f5 : ux14 5 = (vI s6) := hg 5 (by decide)
            have f6 : ux14 6 = (ptr (sb v1_1) (so v1_1 + (s6).toNat * 16)) := hg 6 (by decide)
            have f7 : ux14 7 = (Value.agg (Flat.enc x18).toArray) := hg 7 (by decide)
            have f8 : ux14 8 = (vT r21) := hg 8 (by decide)
            have f9 : ux14 9 = (vT (!r21)) := hg 9 (by decide)
            have hE := hE.sub (e' := [(17, v0_1), (18, (vI s6)), (19, (ptr (sb v0_1) (so v0_1 + (s6).toNat * 16))), (20, (Value.agg (Flat.enc x15).toArray)), (21, v1_1), (22, (vI s6)), (23, (ptr (sb v1_1) (so v1_1 + (s6).toNat * 16))), (24, (Value.agg (Flat.enc x18).toArray)), (25, (vT r21)), (26, (vT (!r21))), (0, v0_1), (1, v1_1), (5, (vI s6)), (11, (vI s6)), (12, v0_1), (13, (vI (p0.length : Int))), (14, (vT (decide (s6 < (p0.length : Int)))))]) ⟨lk rfl f0, lk rfl f1, lk rfl f2, lk rfl f3, lk rfl f4, lk rfl f5, lk rfl f6, lk rfl f7, lk rfl f8, lk rfl f9, rfl, rfl, rfl, rfl, rfl, rfl, rfl, trivial⟩
            refine c_fin0 ?_
            have ht23 := Option.some.inj hl12
            subst ht23
            refine c_mid ?_
            exact ⟨hE.sub ⟨rfl, rfl, rfl, rfl, trivial⟩, hM⟩
        · skip
          rintro a w ⟨hE, hM⟩
          refine c_cond hE rfl ?_ ?_
          · intro hb24
            have hF13 := ite_t hF13 hb24
            refine c_region ?_
            refine s_assign hE goes_none (by decide) rfl ?_; intro a hE
            refine c_fin ?_
            have ht25 := hx8 _ (Option.some.inj hF13).symm
            subst ht25
            have hr := Option.some.inj hF4
            subst hr
            exact wp_ret (r_inb (r_then (r_then (r_inb (r_then (r_then (k_ret1 hE rfl (res_tmp hE rfl) ⟨_, rfl, rfl, hM.kept⟩)))))))
          · intro hb24
            have hF13 := ite_f hF13 hb24
            refine wp_skip ?_
            refine c_nb ?_
            refine c_nx ?_
            refine wp_region_lit ?_
            refine s_move hE goes_none (by decide) rfl ?_; intro a hE
            refine s_int hE goes_none (by decide) rfl rfl rfl ?_; intro a hE
            refine s_assign hE goes_none (by decide) rfl ?_; intro a hE
            refine c_fin0 ?_
            refine c_mid ?_
            exact ⟨_, (Option.some.inj hF13).symm, hE.sub ⟨rfl, rfl, rfl, trivial⟩, hM⟩
      · intro hb10
        have hs7 := ite_f hs7 hb10
        refine wp_exit (e_then (e_then (e_eq ?_)))
        have ht26 := hx8 _ (Option.some.inj hs7).symm
        subst ht26
        refine c_mid ?_
        exact ⟨(), rfl, hE.sub trivial, hM⟩
    · skip
      rintro a w ⟨s5, ht, hE, hM⟩
      subst ht
      refine c_nx ?_
      refine c_region ?_
      refine s_assign hE goes_none (by decide) rfl ?_; intro a hE
      refine c_fin ?_
      have hr := Option.some.inj hF4
      subst hr
      exact wp_ret (k_ret1 hE rfl (res_tmp hE rfl) ⟨_, rfl, rfl, hM.kept⟩)
noncomputable def L0_laws_eqByteS (p0 : (List UInt8)) (p1 : (List UInt8)) (s6 : Int) : Option (Fl Int (Fl Unit Bool)) :=
  if (decide (s6 < (p0.length : Int))) = true then (((idx p0 s6).bind fun (x15 : UInt8) => (idx p1 s6).bind fun (x18 : UInt8) => some (x15 != x18) : Option (Bool)).bind fun (j11 : Bool) => if j11 = true then (some (Fl.ex (Fl.ex false))) else (some (Fl.nx (wr (s6 + 1))))) else (some (Fl.ex (Fl.nx ())))
noncomputable def F_laws_eqByteS (p0 : (List UInt8)) (p1 : (List UInt8)) : Option (Bool) :=
  if ((p0.length : Int) != (p1.length : Int)) = true then (some false) else ((iter (L0_laws_eqByteS p0 p1) 0 : Option (Fl Unit Bool)).bind fun (j2 : Fl Unit Bool) => j2.el (fun (s5 : Unit) => some true) (fun r => some r))
set_option maxRecDepth 20000 in
set_option maxHeartbeats 400000 in
theorem c_laws_eqByteS (w0 : World) (p0 : (List UInt8)) (v0_1 : Value) (hv0_1 : Ro w0 p0 [v0_1]) (p1 : (List UInt8)) (v1_1 : Value) (hv1_1 : Ro w0 p1 [v1_1]) (r : Bool) (hF : F_laws_eqByteS p0 p1 = some r) :
    Calls Try.prog 21 [v0_1, v1_1].toArray w0 (fun en w' => ∃ v, en = .returned v ∧ (v = (vT r) ∧ Kept (Old w0) w0 w')) := by
  refine c_enter (n := 26) Try.func21 rfl rfl (Nat.le_of_ble_eq_true rfl) rfl ?_
  intro a hE
  have hM := M.start w0
  unfold F_laws_eqByteS at hF
  refine c_region ?_
  refine s_assign hE goes_none (by decide) rfl ?_; intro a hE
  refine c_fin ?_
  refine wp_seq ?_
  refine c_region ?_
  refine s_move hE goes_none (by decide) rfl ?_; intro a hE
  refine s_len hE goes_none (by decide) rfl Try.underlying29 (hM.rd hv0_1) ?_; intro a hE
  refine s_move hE goes_none (by decide) rfl ?_; intro a hE
  refine s_len hE goes_none (by decide) rfl Try.underlying29 (hM.rd hv1_1) ?_; intro a hE
  refine s_int hE goes_none (by decide) rfl rfl rfl ?_; intro a hE
  refine c_fin ?_
  refine c_cond hE rfl ?_ ?_
  · intro hb1
    have hF := ite_t hF hb1
    refine c_region ?_
    refine s_assign hE goes_none (by decide) rfl ?_; intro a hE
    refine c_fin ?_
    have hr := Option.some.inj hF
    subst hr
    exact wp_ret (r_then (k_ret1 hE rfl (res_tmp hE rfl) ⟨_, rfl, rfl, hM.kept⟩))
  · intro hb1
    have hF := ite_f hF hb1
    refine wp_skip ?_
    refine c_nx ?_
    refine wp_seq ?_
    refine c_region ?_
    refine s_assign hE goes_none (by decide) rfl ?_; intro a hE
    refine c_fin ?_
    obtain ⟨j2, hl3, hF4⟩ := bind_some hF
    refine c_cut (fun a w => ∃ s5 : Unit, j2 = Fl.nx s5 ∧ Env 26 a [] ∧ M (Old w0) w0 w []) ?_ ?_
    · skip
      refine wp_block ?_
      refine c_loop (fun (s6 : Int) a w => Env 26 a [(0, v0_1), (1, v1_1), (5, (vI s6))] ∧ M (Old w0) w0 w []) hl3 ⟨hE.sub ⟨rfl, rfl, rfl, trivial⟩, hM⟩ ?_
      rintro s6 a w ⟨hE, hM⟩ o9 hs7 hx8
      unfold L0_laws_eqByteS at hs7
      refine wp_seq ?_
      refine c_region ?_
      refine s_move hE goes_none (by decide) rfl ?_; intro a hE
      refine s_move hE goes_none (by decide) rfl ?_; intro a hE
      refine s_len hE goes_none (by decide) rfl Try.underlying29 (hM.rd hv0_1) ?_; intro a hE
      refine s_int hE goes_none (by decide) rfl rfl rfl ?_; intro a hE
      refine c_fin ?_
      refine c_cond hE rfl ?_ ?_
      · intro hb10
        have hs7 := ite_t hs7 hb10
        refine wp_skip ?_
        refine c_nx ?_
        refine wp_seq ?_
        refine wp_block ?_
        obtain ⟨j11, hl12, hF13⟩ := bind_some hs7
        refine c_join (fun a w => Env 26 a [(0, v0_1), (1, v1_1), (5, (vI s6)), (25, (vT j11))] ∧ M (Old w0) w0 w []) ?_ ?_
        · skip
          obtain ⟨x15, e16, hl12⟩ := bind_some hl12
          have hi17 := idx_some e16
          obtain ⟨x18, e19, hl12⟩ := bind_some hl12
          have hi20 := idx_some e19
          refine c_draw (n := 26) (hd := [_, _, _, _, _, _, _, _, _]) (tl := []) hmix rfl rfl [17, 18, 19, 20, 21, 22, 23, 24, 25] (by decide) (fun w => M (Old w0) w0 w []) (fun j => ([fun v _ => v = v0_1, fun v _ => v = (vI s6), fun v _ => v = (ptr (sb v0_1) (so v0_1 + (s6).toNat * 1)), fun v _ => v = (vB x15), fun v _ => v = v1_1, fun v _ => v = (vI s6), fun v _ => v = (ptr (sb v1_1) (so v1_1 + (s6).toNat * 1)), fun v _ => v = (vB x18), fun v _ => v = (vT (x15 != x18))] : List (Value → World → Prop)).getD j (fun _ _ => True)) (fun _ _ h hk => h.keep hk) (gup (gupE (gupE (gupE (gupE (gupE (gupE (gupE (gupE (gupE gupN)))))))))) hE hM.drew (steps_of (steps_cons ?_ (steps_cons ?_ (steps_cons ?_ (steps_cons ?_ (steps_cons ?_ (steps_cons ?_ (steps_cons ?_ (steps_cons ?_ (steps_cons ?_ steps_nil)))))))))) ?_
          · intro a w ux14 hE hM hp
            refine s_move hE goes_none (by decide) rfl ?_; intro a hE
            exact ⟨Kept.refl _ _, _, _, rfl, hE, rfl⟩
          · intro a w ux14 hE hM hp
            refine s_move hE goes_none (by decide) rfl ?_; intro a hE
            exact ⟨Kept.refl _ _, _, _, rfl, hE, rfl⟩
          · intro a w ux14 hE hM hp
            have f0 : ux14 0 = v0_1 := hp 0 _ rfl rfl
            have f1 : ux14 1 = (vI s6) := hp 1 _ rfl rfl
            refine s_indexS hE goes_none (by decide) (lk rfl f0) (lk rfl f1) Try.underlying29 ty5 (hM.rd hv0_1) hi17.1 ?_; intro a hE
            exact ⟨Kept.refl _ _, _, _, rfl, hE, rfl⟩
          · intro a w ux14 hE hM hp
            have f2 : ux14 2 = (ptr (sb v0_1) (so v0_1 + (s6).toNat * 1)) := hp 0 _ rfl rfl
            refine s_load (v := (vB x15)) hE goes_none (by decide) (lk rfl f2) ty5 rfl (sl_atF (hM.rd hv0_1) hi17.2) ?_; intro a hE
            exact ⟨Kept.refl _ _, _, _, rfl, hE, rfl⟩
          · intro a w ux14 hE hM hp
            refine s_move hE goes_none (by decide) rfl ?_; intro a hE
            exact ⟨Kept.refl _ _, _, _, rfl, hE, rfl⟩
          · intro a w ux14 hE hM hp
            refine s_move hE goes_none (by decide) rfl ?_; intro a hE
            exact ⟨Kept.refl _ _, _, _, rfl, hE, rfl⟩
          · intro a w ux14 hE hM hp
            have f4 : ux14 4 = v1_1 := hp 0 _ rfl rfl
            have f5 : ux14 5 = (vI s6) := hp 1 _ rfl rfl
            refine s_indexS hE goes_none (by decide) (lk rfl f4) (lk rfl f5) Try.underlying29 ty5 (hM.rd hv1_1) hi20.1 ?_; intro a hE
            exact ⟨Kept.refl _ _, _, _, rfl, hE, rfl⟩
          · intro a w ux14 hE hM hp
            have f6 : ux14 6 = (ptr (sb v1_1) (so v1_1 + (s6).toNat * 1)) := hp 0 _ rfl rfl
            refine s_load (v := (vB x18)) hE goes_none (by decide) (lk rfl f6) ty5 rfl (sl_atF (hM.rd hv1_1) hi20.2) ?_; intro a hE
            exact ⟨Kept.refl _ _, _, _, rfl, hE, rfl⟩
          · intro a w ux14 hE hM hp
            have f3 : ux14 3 = (vB x15) := hp 0 _ rfl rfl
            have f7 : ux14 7 = (vB x18) := hp 1 _ rfl rfl
            refine s_int hE goes_none (by decide) (lk rfl f3) (lk rfl f7) (bB_neq x15 x18) ?_; intro a hE
            exact ⟨Kept.refl _ _, _, _, rfl, hE, rfl⟩
          · intro a w ux14 hE hM hg
            have f0 : ux14 0 = v0_1 := hg 0 (by decide)
            have f1 : ux14 1 = (vI s6) := hg 1 (by decide)
            have f2 : ux14 2 = (ptr (sb v0_1) (so v0_1 + (s6).toNat * 1)) := hg 2 (by decide)
            have f3 : ux14 3 = (vB x15) := hg 3 (by decide)
            have f4 : ux14 4 = v1_1 := hg 4 (by decide)
            have f5 : ux14 5 = (vI s6) := hg 5 (by decide)
            have f6 : ux14 6 = (ptr (sb v1_1) (so v1_1 + (s6).toNat * 1)) := hg 6 (by decide)
            have f7 : ux14 7 = (vB x18) := hg 7 (by decide)
            have f8 : ux14 8 = (vT (x15 != x18)) := hg 8 (by decide)
            have hE := hE.sub (e' := [(17, v0_1), (18, (vI s6)), (19, (ptr (sb v0_1) (so v0_1 + (s6).toNat * 1))), (20, (vB x15)), (21, v1_1), (22, (vI s6)), (23, (ptr (sb v1_1) (so v1_1 + (s6).toNat * 1))), (24, (vB x18)), (25, (vT (x15 != x18))), (0, v0_1), (1, v1_1), (5, (vI s6)), (11, (vI s6)), (12, v0_1), (13, (vI (p0.length : Int))), (14, (vT (decide (s6 < (p0.length : Int)))))]) ⟨lk rfl f0, lk rfl f1, lk rfl f2, lk rfl f3, lk rfl f4, lk rfl f5, lk rfl f6, lk rfl f7, lk rfl f8, rfl, rfl, rfl, rfl, rfl, rfl, rfl, trivial⟩
            refine c_fin0 ?_
            have ht21 := Option.some.inj hl12
            subst ht21
            refine c_mid ?_
            exact ⟨hE.sub ⟨rfl, rfl, rfl, rfl, trivial⟩, hM⟩
        · skip
          rintro a w ⟨hE, hM⟩
          refine c_cond hE rfl ?_ ?_
          · intro hb22
            have hF13 := ite_t hF13 hb22
            refine c_region ?_
            refine s_assign hE goes_none (by decide) rfl ?_; intro a hE
            refine c_fin ?_
            have ht23 := hx8 _ (Option.some.inj hF13).symm
            subst ht23
            have hr := Option.some.inj hF4
            subst hr
            exact wp_ret (r_inb (r_then (r_then (r_inb (r_then (r_then (k_ret1 hE rfl (res_tmp hE rfl) ⟨_, rfl, rfl, hM.kept⟩)))))))
          · intro hb22
            have hF13 := ite_f hF13 hb22
            refine wp_skip ?_
            refine c_nb ?_
            refine c_nx ?_
            refine wp_region_lit ?_
            refine s_move hE goes_none (by decide) rfl ?_; intro a hE
            refine s_int hE goes_none (by decide) rfl rfl rfl ?_; intro a hE
            refine s_assign hE goes_none (by decide) rfl ?_; intro a hE
            refine c_fin0 ?_
            refine c_mid ?_
            exact ⟨_, (Option.some.inj hF13).symm, hE.sub ⟨rfl, rfl, rfl, trivial⟩, hM⟩
      · intro hb10
        have hs7 := ite_f hs7 hb10
        refine wp_exit (e_then (e_then (e_eq ?_)))
        have ht24 := hx8 _ (Option.some.inj hs7).symm
        subst ht24
        refine c_mid ?_
        exact ⟨(), rfl, hE.sub trivial, hM⟩
    · skip
      rintro a w ⟨s5, ht, hE, hM⟩
      subst ht
      refine c_nx ?_
      refine c_region ?_
      refine s_assign hE goes_none (by decide) rfl ?_; intro a hE
      refine c_fin ?_
      have hr := Option.some.inj hF4
      subst hr
      exact wp_ret (k_ret1 hE rfl (res_tmp hE rfl) ⟨_, rfl, rfl, hM.kept⟩)
noncomputable def L0_laws_eqDigest (p0 : (Vector UInt8 32)) (p1 : (Vector UInt8 32)) (s9 : Int) : Option (Fl Int (Fl Unit Bool)) :=
  if (decide (s9 < 32)) = true then (((vidx p0 s9).bind fun (x19 : UInt8) => (vidx p1 s9).bind fun (x22 : UInt8) => some (x19 != x22) : Option (Bool)).bind fun (j14 : Bool) => if j14 = true then (some (Fl.ex (Fl.ex false))) else (some (Fl.nx (wr (s9 + 1))))) else (some (Fl.ex (Fl.nx ())))
noncomputable def F_laws_eqDigest (p0 : (Vector UInt8 32)) (p1 : (Vector UInt8 32)) : Option (Bool) :=
  (iter (L0_laws_eqDigest p0 p1) 0 : Option (Fl Unit Bool)).bind fun (j5 : Fl Unit Bool) => j5.el (fun (s8 : Unit) => some true) (fun r => some r)
set_option maxRecDepth 20000 in
set_option maxHeartbeats 400000 in
theorem c_laws_eqDigest (w0 : World) (p0 : (Vector UInt8 32)) (p1 : (Vector UInt8 32)) (r : Bool) (hF : F_laws_eqDigest p0 p1 = some r) :
    Calls Try.prog 88 [(Value.agg (Flat.enc p0).toArray), (Value.agg (Flat.enc p1).toArray)].toArray w0 (fun en w' => ∃ v, en = .returned v ∧ (v = (vT r) ∧ Kept (Old w0) w0 w')) := by
  refine c_enter (n := 17) Try.func88 rfl rfl (Nat.le_of_ble_eq_true rfl) rfl ?_
  intro a hE
  have hM := M.start w0
  unfold F_laws_eqDigest at hF
  refine c_region ?_
  refine s_box (cs := Flat.enc p0) hE hM goes_none (by decide) rfl rfl ?_; intro b1 w a hM hE
  refine s_box (cs := Flat.enc p1) hE hM goes_none (by decide) rfl rfl ?_; intro b3 w a hM hE
  refine s_assign hE goes_none (by decide) rfl ?_; intro a hE
  refine c_fin ?_
  refine wp_seq ?_
  refine c_region ?_
  refine s_assign hE goes_none (by decide) rfl ?_; intro a hE
  refine c_fin ?_
  obtain ⟨j5, hl6, hF7⟩ := bind_some hF
  refine c_cut (fun a w => ∃ s8 : Unit, j5 = Fl.nx s8 ∧ Env 17 a [] ∧ M (Old w0) w0 w []) ?_ ?_
  · skip
    refine wp_block ?_
    refine c_loop (fun (s9 : Int) a w => Env 17 a [(2, (ptr b1 0)), (3, (ptr b3 0)), (5, (vI s9))] ∧ M (Old w0) w0 w [raw b3 (Flat.enc p1), raw b1 (Flat.enc p0)]) hl6 ⟨hE.sub ⟨rfl, rfl, rfl, trivial⟩, hM⟩ ?_
    rintro s9 a w ⟨hE, hM⟩ o12 hs10 hx11
    unfold L0_laws_eqDigest at hs10
    refine wp_seq ?_
    refine c_region ?_
    refine s_move hE goes_none (by decide) rfl ?_; intro a hE
    refine s_int hE goes_none (by decide) rfl rfl rfl ?_; intro a hE
    refine c_fin ?_
    refine c_cond hE rfl ?_ ?_
    · intro hb13
      have hs10 := ite_t hs10 hb13
      refine wp_skip ?_
      refine c_nx ?_
      refine wp_seq ?_
      refine wp_block ?_
      obtain ⟨j14, hl15, hF16⟩ := bind_some hs10
      refine c_join (fun a w => Env 17 a [(2, (ptr b1 0)), (3, (ptr b3 0)), (5, (vI s9)), (16, (vT j14))] ∧ M (Old w0) w0 w [raw b3 (Flat.enc p1), raw b1 (Flat.enc p0)]) ?_ ?_
      · skip
        obtain ⟨x19, e20, hl15⟩ := bind_some hl15
        have hi18 := vidx_some e20
        obtain ⟨x22, e23, hl15⟩ := bind_some hl15
        have hi21 := vidx_some e23
        refine c_draw (n := 17) (hd := [_, _, _, _, _, _, _]) (tl := []) hmix rfl rfl [10, 11, 12, 13, 14, 15, 16] (by decide) (fun w => M (Old w0) w0 w [raw b3 (Flat.enc p1), raw b1 (Flat.enc p0)]) (fun j => ([fun v _ => v = (vI s9), fun v _ => v = (ptr b1 (0 + (s9).toNat * 1)), fun v _ => v = (vB x19), fun v _ => v = (vI s9), fun v _ => v = (ptr b3 (0 + (s9).toNat * 1)), fun v _ => v = (vB x22), fun v _ => v = (vT (x19 != x22))] : List (Value → World → Prop)).getD j (fun _ _ => True)) (fun _ _ h hk => h.keep hk) (gup (gupE (gupE (gupE (gupE (gupE (gupE (gupE gupN)))))))) hE hM.drew (steps_of (steps_cons ?_ (steps_cons ?_ (steps_cons ?_ (steps_cons ?_ (steps_cons ?_ (steps_cons ?_ (steps_cons ?_ steps_nil)))))))) ?_
        · intro a w ux17 hE hM hp
          refine s_move hE goes_none (by decide) rfl ?_; intro a hE
          exact ⟨Kept.refl _ _, _, _, rfl, hE, rfl⟩
        · intro a w ux17 hE hM hp
          have f0 : ux17 0 = (vI s9) := hp 0 _ rfl rfl
          refine s_indexA hE goes_none (by decide) rfl (lk rfl f0) Try.underlying47 ty5 hi18.1 ?_; intro a hE
          exact ⟨Kept.refl _ _, _, _, rfl, hE, rfl⟩
        · intro a w ux17 hE hM hp
          have f1 : ux17 1 = (ptr b1 (0 + (s9).toNat * 1)) := hp 0 _ rfl rfl
          refine s_load (v := (vB x19)) hE goes_none (by decide) (lk rfl f1) ty5 rfl (At.vec (hM.rawAt (pre := [_])) hi18.2) ?_; intro a hE
          exact ⟨Kept.refl _ _, _, _, rfl, hE, rfl⟩
        · intro a w ux17 hE hM hp
          refine s_move hE goes_none (by decide) rfl ?_; intro a hE
          exact ⟨Kept.refl _ _, _, _, rfl, hE, rfl⟩
        · intro a w ux17 hE hM hp
          have f3 : ux17 3 = (vI s9) := hp 0 _ rfl rfl
          refine s_indexA hE goes_none (by decide) rfl (lk rfl f3) Try.underlying47 ty5 hi21.1 ?_; intro a hE
          exact ⟨Kept.refl _ _, _, _, rfl, hE, rfl⟩
        · intro a w ux17 hE hM hp
          have f4 : ux17 4 = (ptr b3 (0 + (s9).toNat * 1)) := hp 0 _ rfl rfl
          refine s_load (v := (vB x22)) hE goes_none (by decide) (lk rfl f4) ty5 rfl (At.vec (hM.rawAt (pre := [])) hi21.2) ?_; intro a hE
          exact ⟨Kept.refl _ _, _, _, rfl, hE, rfl⟩
        · intro a w ux17 hE hM hp
          have f2 : ux17 2 = (vB x19) := hp 0 _ rfl rfl
          have f5 : ux17 5 = (vB x22) := hp 1 _ rfl rfl
          refine s_int hE goes_none (by decide) (lk rfl f2) (lk rfl f5) (bB_neq x19 x22) ?_; intro a hE
          exact ⟨Kept.refl _ _, _, _, rfl, hE, rfl⟩
        · intro a w ux17 hE hM hg
          have f0 : ux17 0 = (vI s9) := hg 0 (by decide)
          have f1 : ux17 1 = (ptr b1 (0 + (s9).toNat * 1)) := hg 1 (by decide)
          have f2 : ux17 2 = (vB x19) := hg 2 (by decide)
          have f3 : ux17 3 = (vI s9) := hg 3 (by decide)
          have f4 : ux17 4 = (ptr b3 (0 + (s9).toNat * 1)) := hg 4 (by decide)
          have f5 : ux17 5 = (vB x22) := hg 5 (by decide)
          have f6 : ux17 6 = (vT (x19 != x22)) := hg 6 (by decide)
          have hE := hE.sub (e' := [(10, (vI s9)), (11, (ptr b1 (0 + (s9).toNat * 1))), (12, (vB x19)), (13, (vI s9)), (14, (ptr b3 (0 + (s9).toNat * 1))), (15, (vB x22)), (16, (vT (x19 != x22))), (2, (ptr b1 0)), (3, (ptr b3 0)), (5, (vI s9)), (6, (vI s9)), (7, (vT (decide (s9 < 32))))]) ⟨lk rfl f0, lk rfl f1, lk rfl f2, lk rfl f3, lk rfl f4, lk rfl f5, lk rfl f6, rfl, rfl, rfl, rfl, rfl, trivial⟩
          refine c_fin0 ?_
          have ht24 := Option.some.inj hl15
          subst ht24
          refine c_mid ?_
          exact ⟨hE.sub ⟨rfl, rfl, rfl, rfl, trivial⟩, hM⟩
      · skip
        rintro a w ⟨hE, hM⟩
        refine c_cond hE rfl ?_ ?_
        · intro hb25
          have hF16 := ite_t hF16 hb25
          refine c_region ?_
          refine s_assign hE goes_none (by decide) rfl ?_; intro a hE
          refine c_fin ?_
          have ht26 := hx11 _ (Option.some.inj hF16).symm
          subst ht26
          have hr := Option.some.inj hF7
          subst hr
          have hM := M.fst (l := []) hM
          exact wp_ret (r_inb (r_then (r_then (r_inb (r_then (r_then (k_ret1 hE rfl (res_tmp hE rfl) ⟨_, rfl, rfl, hM.kept⟩)))))))
        · intro hb25
          have hF16 := ite_f hF16 hb25
          refine wp_skip ?_
          refine c_nb ?_
          refine c_nx ?_
          refine wp_region_lit ?_
          refine s_move hE goes_none (by decide) rfl ?_; intro a hE
          refine s_int hE goes_none (by decide) rfl rfl rfl ?_; intro a hE
          refine s_assign hE goes_none (by decide) rfl ?_; intro a hE
          refine c_fin0 ?_
          refine c_mid ?_
          exact ⟨_, (Option.some.inj hF16).symm, hE.sub ⟨rfl, rfl, rfl, trivial⟩, hM⟩
    · intro hb13
      have hs10 := ite_f hs10 hb13
      refine wp_exit (e_then (e_then (e_eq ?_)))
      have ht27 := hx11 _ (Option.some.inj hs10).symm
      subst ht27
      refine c_mid ?_
      have hM := M.fst (l := []) hM
      exact ⟨(), rfl, hE.sub trivial, hM⟩
  · skip
    rintro a w ⟨s8, ht, hE, hM⟩
    subst ht
    refine c_nx ?_
    refine c_region ?_
    refine s_assign hE goes_none (by decide) rfl ?_; intro a hE
    refine c_fin ?_
    have hr := Option.some.inj hF7
    subst hr
    exact wp_ret (k_ret1 hE rfl (res_tmp hE rfl) ⟨_, rfl, rfl, hM.kept⟩)
noncomputable def F_laws_eqRecord (p0 : GRecord) (p1 : GRecord) : Option (Bool) :=
  if (p0.Number != p1.Number) = true then (some false) else (if (p0.Version != p1.Version) = true then (some false) else ((F_laws_eqBlock p0.Nonce p1.Nonce).bind fun (r7 : Bool) => if (!r7) = true then (some false) else ((F_laws_eqByteS p0.Label p1.Label).bind fun (r10 : Bool) => if (!r10) = true then (some false) else ((F_laws_eqByteS p0.Body p1.Body).bind fun (r13 : Bool) => if (!r13) = true then (some false) else ((F_laws_eqDigest p0.Tag p1.Tag).bind fun (r16 : Bool) => if (!r16) = true then (some false) else (some true))))))
set_option maxRecDepth 20000 in
set_option maxHeartbeats 400000 in
theorem c_laws_eqRecord (w0 : World) (p0 : GRecord) (v0_1 : Value) (hv0_1 : Ro w0 p0.Label [v0_1]) (v0_2 : Value) (hv0_2 : Ro w0 p0.Body [v0_2]) (p1 : GRecord) (v1_1 : Value) (hv1_1 : Ro w0 p1.Label [v1_1]) (v1_2 : Value) (hv1_2 : Ro w0 p1.Body [v1_2]) (r : Bool) (hF : F_laws_eqRecord p0 p1 = some r) :
    Calls Try.prog 133 [(Value.agg (cat [[(vI p0.Number)], [(vI p0.Version)], Flat.enc p0.Nonce, [v0_1], [v0_2], Flat.enc p0.Tag]).toArray), (Value.agg (cat [[(vI p1.Number)], [(vI p1.Version)], Flat.enc p1.Nonce, [v1_1], [v1_2], Flat.enc p1.Tag]).toArray)].toArray w0 (fun en w' => ∃ v, en = .returned v ∧ (v = (vT r) ∧ Kept (Old w0) w0 w')) := by
  refine c_enter (n := 39) Try.func133 rfl rfl (Nat.le_of_ble_eq_true rfl) rfl ?_
  intro a hE
  have hM := M.start w0
  unfold F_laws_eqRecord at hF
  refine c_region ?_
  refine s_box (cs := cat [[(vI p0.Number)], [(vI p0.Version)], Flat.enc p0.Nonce, [v0_1], [v0_2], Flat.enc p0.Tag]) hE hM goes_none (by decide) rfl rfl ?_; intro b1 w a hM hE
  refine s_box (cs := cat [[(vI p1.Number)], [(vI p1.Version)], Flat.enc p1.Nonce, [v1_1], [v1_2], Flat.enc p1.Tag]) hE hM goes_none (by decide) rfl rfl ?_; intro b3 w a hM hE
  refine s_assign hE goes_none (by decide) rfl ?_; intro a hE
  refine c_fin ?_
  refine wp_seq ?_
  refine c_region ?_
  refine s_fieldAddr hE goes_none (by decide) rfl (fd106_0) ?_; intro a hE
  refine s_load (v := (vI p0.Number)) hE goes_none (by decide) rfl ty2 rfl (At.cat (pre := []) (seg := [(vI p0.Number)]) (post := [[(vI p0.Version)], Flat.enc p0.Nonce, [v0_1], [v0_2], Flat.enc p0.Tag]) (hM.rawAt (pre := [_])) cl0) ?_; intro a hE
  refine s_fieldAddr hE goes_none (by decide) rfl (fd106_0) ?_; intro a hE
  refine s_load (v := (vI p1.Number)) hE goes_none (by decide) rfl ty2 rfl (At.cat (pre := []) (seg := [(vI p1.Number)]) (post := [[(vI p1.Version)], Flat.enc p1.Nonce, [v1_1], [v1_2], Flat.enc p1.Tag]) (hM.rawAt (pre := [])) cl0) ?_; intro a hE
  refine s_int hE goes_none (by decide) rfl rfl rfl ?_; intro a hE
  refine c_fin ?_
  refine c_cond hE rfl ?_ ?_
  · intro hb5
    have hF := ite_t hF hb5
    refine c_region ?_
    refine s_assign hE goes_none (by decide) rfl ?_; intro a hE
    refine c_fin ?_
    have hr := Option.some.inj hF
    subst hr
    have hM := M.fst (l := []) hM
    exact wp_ret (r_then (k_ret1 hE rfl (res_tmp hE rfl) ⟨_, rfl, rfl, hM.kept⟩))
  · intro hb5
    have hF := ite_f hF hb5
    refine wp_skip ?_
    refine c_nx ?_
    refine wp_seq ?_
    refine c_region ?_
    refine s_fieldAddr hE goes_none (by decide) rfl (fd106_1) ?_; intro a hE
    refine s_load (v := (vI p0.Version)) hE goes_none (by decide) rfl ty2 rfl (At.cat (pre := [[(vI p0.Number)]]) (seg := [(vI p0.Version)]) (post := [Flat.enc p0.Nonce, [v0_1], [v0_2], Flat.enc p0.Tag]) (hM.rawAt (pre := [_])) (cl1 (n := 1) (m := 0) rfl cl0)) ?_; intro a hE
    refine s_fieldAddr hE goes_none (by decide) rfl (fd106_1) ?_; intro a hE
    refine s_load (v := (vI p1.Version)) hE goes_none (by decide) rfl ty2 rfl (At.cat (pre := [[(vI p1.Number)]]) (seg := [(vI p1.Version)]) (post := [Flat.enc p1.Nonce, [v1_1], [v1_2], Flat.enc p1.Tag]) (hM.rawAt (pre := [])) (cl1 (n := 1) (m := 0) rfl cl0)) ?_; intro a hE
    refine s_int hE goes_none (by decide) rfl rfl rfl ?_; intro a hE
    refine c_fin ?_
    refine c_cond hE rfl ?_ ?_
    · intro hb6
      have hF := ite_t hF hb6
      refine c_region ?_
      refine s_assign hE goes_none (by decide) rfl ?_; intro a hE
      refine c_fin ?_
      have hr := Option.some.inj hF
      subst hr
      have hM := M.fst (l := []) hM
      exact wp_ret (r_then (k_ret1 hE rfl (res_tmp hE rfl) ⟨_, rfl, rfl, hM.kept⟩))
    · intro hb6
      have hF := ite_f hF hb6
      refine wp_skip ?_
      refine c_nx ?_
      refine wp_seq ?_
      refine c_region ?_
      refine s_fieldAddr hE goes_none (by decide) rfl (fd106_2) ?_; intro a hE
      refine s_loadA (cs := Flat.enc p0.Nonce) hE goes_none (by decide) rfl ty104 rfl (At.cat (pre := [[(vI p0.Number)], [(vI p0.Version)]]) (seg := Flat.enc p0.Nonce) (post := [[v0_1], [v0_2], Flat.enc p0.Tag]) (hM.rawAt (pre := [_])) (cl1 (n := 1) (m := 1) rfl (cl1 (n := 1) (m := 0) rfl cl0))) (Flat.len _) ?_; intro a hE
      refine s_fieldAddr hE goes_none (by decide) rfl (fd106_2) ?_; intro a hE
      refine s_loadA (cs := Flat.enc p1.Nonce) hE goes_none (by decide) rfl ty104 rfl (At.cat (pre := [[(vI p1.Number)], [(vI p1.Version)]]) (seg := Flat.enc p1.Nonce) (post := [[v1_1], [v1_2], Flat.enc p1.Tag]) (hM.rawAt (pre := [])) (cl1 (n := 1) (m := 1) rfl (cl1 (n := 1) (m := 0) rfl cl0))) (Flat.len _) ?_; intro a hE
      obtain ⟨r7, e8, hF⟩ := bind_some hF
      refine s_call (vs := [(Value.agg (Flat.enc p0.Nonce).toArray), (Value.agg (Flat.enc p1.Nonce).toArray)]) hE goes_none (by decide) rfl cb132 (c_laws_eqBlock _ p0.Nonce p1.Nonce r7 e8) ?_
      rintro v w a ⟨rfl, hK⟩ hE
      have hM := hM.keep hK
      refine s_not hE goes_none (by decide) rfl ?_; intro a hE
      refine c_fin ?_
      refine c_cond hE rfl ?_ ?_
      · intro hb9
        have hF := ite_t hF hb9
        refine c_region ?_
        refine s_assign hE goes_none (by decide) rfl ?_; intro a hE
        refine c_fin ?_
        have hr := Option.some.inj hF
        subst hr
        have hM := M.fst (l := []) hM
        exact wp_ret (r_then (k_ret1 hE rfl (res_tmp hE rfl) ⟨_, rfl, rfl, hM.kept⟩))
      · intro hb9
        have hF := ite_f hF hb9
        refine wp_skip ?_
        refine c_nx ?_
        refine wp_seq ?_
        refine c_region ?_
        refine s_fieldAddr hE goes_none (by decide) rfl (fd106_3) ?_; intro a hE
        refine s_load (v := v0_1) hE goes_none (by decide) rfl ty29 rfl (At.cat (pre := [[(vI p0.Number)], [(vI p0.Version)], Flat.enc p0.Nonce]) (seg := [v0_1]) (post := [[v0_2], Flat.enc p0.Tag]) (hM.rawAt (pre := [_])) (cl1 (n := 1) (m := 17) rfl (cl1 (n := 1) (m := 16) rfl (cl1 (n := 16) (m := 0) (Flat.len _) cl0)))) ?_; intro a hE
        refine s_fieldAddr hE goes_none (by decide) rfl (fd106_3) ?_; intro a hE
        refine s_load (v := v1_1) hE goes_none (by decide) rfl ty29 rfl (At.cat (pre := [[(vI p1.Number)], [(vI p1.Version)], Flat.enc p1.Nonce]) (seg := [v1_1]) (post := [[v1_2], Flat.enc p1.Tag]) (hM.rawAt (pre := [])) (cl1 (n := 1) (m := 17) rfl (cl1 (n := 1) (m := 16) rfl (cl1 (n := 16) (m := 0) (Flat.len _) cl0)))) ?_; intro a hE
        obtain ⟨r10, e11, hF⟩ := bind_some hF
        refine s_call (vs := [v0_1, v1_1]) hE goes_none (by decide) rfl cb21 (c_laws_eqByteS _ p0.Label v0_1 (hM.rdo hv0_1) p1.Label v1_1 (hM.rdo hv1_1) r10 e11) ?_
        rintro v w a ⟨rfl, hK⟩ hE
        have hM := hM.keep hK
        refine s_not hE goes_none (by decide) rfl ?_; intro a hE
        refine c_fin ?_
        refine c_cond hE rfl ?_ ?_
        · intro hb12
          have hF := ite_t hF hb12
          refine c_region ?_
          refine s_assign hE goes_none (by decide) rfl ?_; intro a hE
          refine c_fin ?_
          have hr := Option.some.inj hF
          subst hr
          have hM := M.fst (l := []) hM
          exact wp_ret (r_then (k_ret1 hE rfl (res_tmp hE rfl) ⟨_, rfl, rfl, hM.kept⟩))
        · intro hb12
          have hF := ite_f hF hb12
          refine wp_skip ?_
          refine c_nx ?_
          refine wp_seq ?_
          refine c_region ?_
          refine s_fieldAddr hE goes_none (by decide) rfl (fd106_4) ?_; intro a hE
          refine s_load (v := v0_2) hE goes_none (by decide) rfl ty29 rfl (At.cat (pre := [[(vI p0.Number)], [(vI p0.Version)], Flat.enc p0.Nonce, [v0_1]]) (seg := [v0_2]) (post := [Flat.enc p0.Tag]) (hM.rawAt (pre := [_])) (cl1 (n := 1) (m := 18) rfl (cl1 (n := 1) (m := 17) rfl (cl1 (n := 16) (m := 1) (Flat.len _) (cl1 (n := 1) (m := 0) rfl cl0))))) ?_; intro a hE
          refine s_fieldAddr hE goes_none (by decide) rfl (fd106_4) ?_; intro a hE
          refine s_load (v := v1_2) hE goes_none (by decide) rfl ty29 rfl (At.cat (pre := [[(vI p1.Number)], [(vI p1.Version)], Flat.enc p1.Nonce, [v1_1]]) (seg := [v1_2]) (post := [Flat.enc p1.Tag]) (hM.rawAt (pre := [])) (cl1 (n := 1) (m := 18) rfl (cl1 (n := 1) (m := 17) rfl (cl1 (n := 16) (m := 1) (Flat.len _) (cl1 (n := 1) (m := 0) rfl cl0))))) ?_; intro a hE
          obtain ⟨r13, e14, hF⟩ := bind_some hF
          refine s_call (vs := [v0_2, v1_2]) hE goes_none (by decide) rfl cb21 (c_laws_eqByteS _ p0.Body v0_2 (hM.rdo hv0_2) p1.Body v1_2 (hM.rdo hv1_2) r13 e14) ?_
          rintro v w a ⟨rfl, hK⟩ hE
          have hM := hM.keep hK
          refine s_not hE goes_none (by decide) rfl ?_; intro a hE
          refine c_fin ?_
          refine c_cond hE rfl ?_ ?_
          · intro hb15
            have hF := ite_t hF hb15
            refine c_region ?_
            refine s_assign hE goes_none (by decide) rfl ?_; intro a hE
            refine c_fin ?_
            have hr := Option.some.inj hF
            subst hr
            have hM := M.fst (l := []) hM
            exact wp_ret (r_then (k_ret1 hE rfl (res_tmp hE rfl) ⟨_, rfl, rfl, hM.kept⟩))
          · intro hb15
            have hF := ite_f hF hb15
            refine wp_skip ?_
            refine c_nx ?_
            refine wp_seq ?_
            refine c_region ?_
            refine s_fieldAddr hE goes_none (by decide) rfl (fd106_5) ?_; intro a hE
            refine s_loadA (cs := Flat.enc p0.Tag) hE goes_none (by decide) rfl ty47 rfl (At.cat (pre := [[(vI p0.Number)], [(vI p0.Version)], Flat.enc p0.Nonce, [v0_1], [v0_2]]) (seg := Flat.enc p0.Tag) (post := []) (hM.rawAt (pre := [_])) (cl1 (n := 1) (m := 19) rfl (cl1 (n := 1) (m := 18) rfl (cl1 (n := 16) (m := 2) (Flat.len _) (cl1 (n := 1) (m := 1) rfl (cl1 (n := 1) (m := 0) rfl cl0)))))) (Flat.len _) ?_; intro a hE
            refine s_fieldAddr hE goes_none (by decide) rfl (fd106_5) ?_; intro a hE
            refine s_loadA (cs := Flat.enc p1.Tag) hE goes_none (by decide) rfl ty47 rfl (At.cat (pre := [[(vI p1.Number)], [(vI p1.Version)], Flat.enc p1.Nonce, [v1_1], [v1_2]]) (seg := Flat.enc p1.Tag) (post := []) (hM.rawAt (pre := [])) (cl1 (n := 1) (m := 19) rfl (cl1 (n := 1) (m := 18) rfl (cl1 (n := 16) (m := 2) (Flat.len _) (cl1 (n := 1) (m := 1) rfl (cl1 (n := 1) (m := 0) rfl cl0)))))) (Flat.len _) ?_; intro a hE
            obtain ⟨r16, e17, hF⟩ := bind_some hF
            refine s_call (vs := [(Value.agg (Flat.enc p0.Tag).toArray), (Value.agg (Flat.enc p1.Tag).toArray)]) hE goes_none (by decide) rfl cb88 (c_laws_eqDigest _ p0.Tag p1.Tag r16 e17) ?_
            rintro v w a ⟨rfl, hK⟩ hE
            have hM := hM.keep hK
            refine s_not hE goes_none (by decide) rfl ?_; intro a hE
            refine c_fin ?_
            refine c_cond hE rfl ?_ ?_
            · intro hb18
              have hF := ite_t hF hb18
              refine c_region ?_
              refine s_assign hE goes_none (by decide) rfl ?_; intro a hE
              refine c_fin ?_
              have hr := Option.some.inj hF
              subst hr
              have hM := M.fst (l := []) hM
              exact wp_ret (r_then (k_ret1 hE rfl (res_tmp hE rfl) ⟨_, rfl, rfl, hM.kept⟩))
            · intro hb18
              have hF := ite_f hF hb18
              refine wp_skip ?_
              refine c_nx ?_
              refine c_region ?_
              refine s_assign hE goes_none (by decide) rfl ?_; intro a hE
              refine c_fin ?_
              have hr := Option.some.inj hF
              subst hr
              have hM := M.fst (l := []) hM
              exact wp_ret (k_ret1 hE rfl (res_tmp hE rfl) ⟨_, rfl, rfl, hM.kept⟩)
noncomputable def L0_laws_eqRecordS (p0 : (List GRecord)) (p1 : (List GRecord)) (s6 : Int) : Option (Fl Int (Fl Unit Bool)) :=
  if (decide (s6 < (p0.length : Int))) = true then (((idx p0 s6).bind fun (x15 : GRecord) => (idx p1 s6).bind fun (x25 : GRecord) => (F_laws_eqRecord x15 x25).bind fun (r35 : Bool) => some (!r35) : Option (Bool)).bind fun (j11 : Bool) => if j11 = true then (some (Fl.ex (Fl.ex false))) else (some (Fl.nx (wr (s6 + 1))))) else (some (Fl.ex (Fl.nx ())))
noncomputable def F_laws_eqRecordS (p0 : (List GRecord)) (p1 : (List GRecord)) : Option (Bool) :=
  if ((p0.length : Int) != (p1.length : Int)) = true then (some false) else ((iter (L0_laws_eqRecordS p0 p1) 0 : Option (Fl Unit Bool)).bind fun (j2 : Fl Unit Bool) => j2.el (fun (s5 : Unit) => some true) (fun r => some r))
set_option maxRecDepth 20000 in
set_option maxHeartbeats 400000 in
theorem c_laws_eqRecordS (w0 : World) (p0 : (List GRecord)) (v0_1 : Value) (hv0_1 : Ro w0 p0 [v0_1]) (p1 : (List GRecord)) (v1_1 : Value) (hv1_1 : Ro w0 p1 [v1_1]) (r : Bool) (hF : F_laws_eqRecordS p0 p1 = some r) :
    Calls Try.prog 86 [v0_1, v1_1].toArray w0 (fun en w' => ∃ v, en = .returned v ∧ (v = (vT r) ∧ Kept (Old w0) w0 w')) := by
  refine c_enter (n := 27) Try.func86 rfl rfl (Nat.le_of_ble_eq_true rfl) rfl ?_
  intro a hE
  have hM := M.start w0
  unfold F_laws_eqRecordS at hF
  refine c_region ?_
  refine s_assign hE goes_none (by decide) rfl ?_; intro a hE
  refine c_fin ?_
  refine wp_seq ?_
  refine c_region ?_
  refine s_move hE goes_none (by decide) rfl ?_; intro a hE
  refine s_len hE goes_none (by decide) rfl Try.underlying45 (hM.rd hv0_1) ?_; intro a hE
  refine s_move hE goes_none (by decide) rfl ?_; intro a hE
  refine s_len hE goes_none (by decide) rfl Try.underlying45 (hM.rd hv1_1) ?_; intro a hE
  refine s_int hE goes_none (by decide) rfl rfl rfl ?_; intro a hE
  refine c_fin ?_
  refine c_cond hE rfl ?_ ?_
  · intro hb1
    have hF := ite_t hF hb1
    refine c_region ?_
    refine s_assign hE goes_none (by decide) rfl ?_; intro a hE
    refine c_fin ?_
    have hr := Option.some.inj hF
    subst hr
    exact wp_ret (r_then (k_ret1 hE rfl (res_tmp hE rfl) ⟨_, rfl, rfl, hM.kept⟩))
  · intro hb1
    have hF := ite_f hF hb1
    refine wp_skip ?_
    refine c_nx ?_
    refine wp_seq ?_
    refine c_region ?_
    refine s_assign hE goes_none (by decide) rfl ?_; intro a hE
    refine c_fin ?_
    obtain ⟨j2, hl3, hF4⟩ := bind_some hF
    refine c_cut (fun a w => ∃ s5 : Unit, j2 = Fl.nx s5 ∧ Env 27 a [] ∧ M (Old w0) w0 w []) ?_ ?_
    · skip
      refine wp_block ?_
      refine c_loop (fun (s6 : Int) a w => Env 27 a [(0, v0_1), (1, v1_1), (5, (vI s6))] ∧ M (Old w0) w0 w []) hl3 ⟨hE.sub ⟨rfl, rfl, rfl, trivial⟩, hM⟩ ?_
      rintro s6 a w ⟨hE, hM⟩ o9 hs7 hx8
      unfold L0_laws_eqRecordS at hs7
      refine wp_seq ?_
      refine c_region ?_
      refine s_move hE goes_none (by decide) rfl ?_; intro a hE
      refine s_move hE goes_none (by decide) rfl ?_; intro a hE
      refine s_len hE goes_none (by decide) rfl Try.underlying45 (hM.rd hv0_1) ?_; intro a hE
      refine s_int hE goes_none (by decide) rfl rfl rfl ?_; intro a hE
      refine c_fin ?_
      refine c_cond hE rfl ?_ ?_
      · intro hb10
        have hs7 := ite_t hs7 hb10
        refine wp_skip ?_
        refine c_nx ?_
        refine wp_seq ?_
        refine wp_block ?_
        obtain ⟨j11, hl12, hF13⟩ := bind_some hs7
        refine c_join (fun a w => Env 27 a [(0, v0_1), (1, v1_1), (5, (vI s6)), (26, (vT j11))] ∧ M (Old w0) w0 w []) ?_ ?_
        · skip
          obtain ⟨x15, e16, hl12⟩ := bind_some hl12
          have hi17 := idx_some e16
          obtain ⟨cs18, hs19, hA20⟩ := sl_atRo hv0_1 hi17.2 -- ^
          obtain ⟨u21, u23, rfl, h22, h24⟩ := un_GRecord hs19 -- ^
          obtain ⟨x25, e26, hl12⟩ := bind_some hl12
          have hi27 := idx_some e26
          obtain ⟨cs28, hs29, hA30⟩ := sl_atRo hv1_1 hi27.2 -- ^
          obtain ⟨u31, u33, rfl, h32, h34⟩ := un_GRecord hs29 -- ^
          obtain ⟨r35, e36, hl12⟩ := bind_some hl12
          refine c_draw (n := 27) (hd := [_, _, _, _, _, _, _, _, _, _]) (tl := []) hmix rfl rfl [17, 18, 19, 20, 21, 22, 23, 24, 25, 26] (by decide) (fun w => M (Old w0) w0 w []) (fun j => ([fun v _ => v = v0_1, fun v _ => v = (vI s6), fun v _ => v = (ptr (sb v0_1) (so v0_1 + (s6).toNat * 52)), fun v _ => v = (Value.agg (cat [[(vI x15.Number)], [(vI x15.Version)], Flat.enc x15.Nonce, [u21], [u23], Flat.enc x15.Tag]).toArray), fun v _ => v = v1_1, fun v _ => v = (vI s6), fun v _ => v = (ptr (sb v1_1) (so v1_1 + (s6).toNat * 52)), fun v _ => v = (Value.agg (cat [[(vI x25.Number)], [(vI x25.Version)], Flat.enc x25.Nonce, [u31], [u33], Flat.enc x25.Tag]).toArray), fun v _ => v = (vT r35), fun v _ => v = (vT (!r35))] : List (Value → World → Prop)).getD j (fun _ _ => True)) (fun _ _ h hk => h.keep hk) (gup (gupE (gupE (gupE (gupE (gupE (gupE (gupE (gupE (gupE (gupE gupN))))))))))) hE hM.drew (steps_of (steps_cons ?_ (steps_cons ?_ (steps_cons ?_ (steps_cons ?_ (steps_cons ?_ (steps_cons ?_ (steps_cons ?_ (steps_cons ?_ (steps_cons ?_ (steps_cons ?_ steps_nil))))))))))) ?_
          · intro a w ux14 hE hM hp
            refine s_move hE goes_none (by decide) rfl ?_; intro a hE
            exact ⟨Kept.refl _ _, _, _, rfl, hE, rfl⟩
          · intro a w ux14 hE hM hp
            refine s_move hE goes_none (by decide) rfl ?_; intro a hE
            exact ⟨Kept.refl _ _, _, _, rfl, hE, rfl⟩
          · intro a w ux14 hE hM hp
            have f0 : ux14 0 = v0_1 := hp 0 _ rfl rfl
            have f1 : ux14 1 = (vI s6) := hp 1 _ rfl rfl
            refine s_indexS hE goes_none (by decide) (lk rfl f0) (lk rfl f1) Try.underlying45 ty106 (hM.rd hv0_1) hi17.1 ?_; intro a hE
            exact ⟨Kept.refl _ _, _, _, rfl, hE, rfl⟩
          · intro a w ux14 hE hM hp
            have f2 : ux14 2 = (ptr (sb v0_1) (so v0_1 + (s6).toNat * 52)) := hp 0 _ rfl rfl
            refine s_loadA (cs := cat [[(vI x15.Number)], [(vI x15.Version)], Flat.enc x15.Nonce, [u21], [u23], Flat.enc x15.Tag]) hE goes_none (by decide) (lk rfl f2) ty106 rfl (hM.atk hA20 (sl_blk hv0_1 hi17.2)) (cat_len (cl1 (n := 1) (m := 51) rfl (cl1 (n := 1) (m := 50) rfl (cl1 (n := 16) (m := 34) (Flat.len _) (cl1 (n := 1) (m := 33) rfl (cl1 (n := 1) (m := 32) rfl (cl1 (n := 32) (m := 0) (Flat.len _) cl0))))))) ?_; intro a hE
            exact ⟨Kept.refl _ _, _, _, rfl, hE, rfl⟩
          · intro a w ux14 hE hM hp
            refine s_move hE goes_none (by decide) rfl ?_; intro a hE
            exact ⟨Kept.refl _ _, _, _, rfl, hE, rfl⟩
          · intro a w ux14 hE hM hp
            refine s_move hE goes_none (by decide) rfl ?_; intro a hE
            exact ⟨Kept.refl _ _, _, _, rfl, hE, rfl⟩
          · intro a w ux14 hE hM hp
            have f4 : ux14 4 = v1_1 := hp 0 _ rfl rfl
            have f5 : ux14 5 = (vI s6) := hp 1 _ rfl rfl
            refine s_indexS hE goes_none (by decide) (lk rfl f4) (lk rfl f5) Try.underlying45 ty106 (hM.rd hv1_1) hi27.1 ?_; intro a hE
            exact ⟨Kept.refl _ _, _, _, rfl, hE, rfl⟩
          · intro a w ux14 hE hM hp
            have f6 : ux14 6 = (ptr (sb v1_1) (so v1_1 + (s6).toNat * 52)) := hp 0 _ rfl rfl
            refine s_loadA (cs := cat [[(vI x25.Number)], [(vI x25.Version)], Flat.enc x25.Nonce, [u31], [u33], Flat.enc x25.Tag]) hE goes_none (by decide) (lk rfl f6) ty106 rfl (hM.atk hA30 (sl_blk hv1_1 hi27.2)) (cat_len (cl1 (n := 1) (m := 51) rfl (cl1 (n := 1) (m := 50) rfl (cl1 (n := 16) (m := 34) (Flat.len _) (cl1 (n := 1) (m := 33) rfl (cl1 (n := 1) (m := 32) rfl (cl1 (n := 32) (m := 0) (Flat.len _) cl0))))))) ?_; intro a hE
            exact ⟨Kept.refl _ _, _, _, rfl, hE, rfl⟩
          · intro a w ux14 hE hM hp
            have f3 : ux14 3 = (Value.agg (cat [[(vI x15.Number)], [(vI x15.Version)], Flat.enc x15.Nonce, [u21], [u23], Flat.enc x15.Tag]).toArray) := hp 0 _ rfl rfl
            have f7 : ux14 7 = (Value.agg (cat [[(vI x25.Number)], [(vI x25.Version)], Flat.enc x25.Nonce, [u31], [u33], Flat.enc x25.Tag]).toArray) := hp 1 _ rfl rfl
            refine s_call (vs := [(Value.agg (cat [[(vI x15.Number)], [(vI x15.Version)], Flat.enc x15.Nonce, [u21], [u23], Flat.enc x15.Tag]).toArray), (Value.agg (cat [[(vI x25.Number)], [(vI x25.Version)], Flat.enc x25.Nonce, [u31], [u33], Flat.enc x25.Tag]).toArray)]) hE goes_none (by decide) (evs_of (evsC (lk rfl f3) (evsC (lk rfl f7) evsN))) cb133 (c_laws_eqRecord _ x15 u21 (hM.rdo h22) u23 (hM.rdo h24) x25 u31 (hM.rdo h32) u33 (hM.rdo h34) r35 e36) ?_
            rintro v w a ⟨rfl, hK⟩ hE
            exact ⟨hK, _, _, rfl, hE, rfl⟩
          · intro a w ux14 hE hM hp
            have f8 : ux14 8 = (vT r35) := hp 0 _ rfl rfl
            refine s_not hE goes_none (by decide) (lk rfl f8) ?_; intro a hE
            exact ⟨Kept.refl _ _, _, _, rfl, hE, rfl⟩
          · intro a w ux14 hE hM hg
            have f0 : ux14 0 = v0_1 := hg 0 (by decide)
            have f1 : ux14 1 = (vI s6) := hg 1 (by decide)
            have f2 : ux14 2 = (ptr (sb v0_1) (so v0_1 + (s6).toNat * 52)) := hg 2 (by decide)
            have f3 : ux14 3 = (Value.agg (cat [[(vI x15.Number)], [(vI x15.Version)], Flat.enc x15.Nonce, [u21], [u23], Flat.enc x15.Tag]).toArray) := hg 3 (by decide)
            have f4 : ux14 4 = v1_1 := hg 4 (by decide)
            have f5 : ux14 5 = (vI s6) := hg 5 (by decide)
            have f6 : ux14 6 = (ptr (sb v1_1) (so v1_1 + (s6).toNat * 52)) := hg 6 (by decide)
            have f7 : ux14 7 = (Value.agg (cat [[(vI x25.Number)], [(vI x25.Version)], Flat.enc x25.Nonce, [u31], [u33], Flat.enc x25.Tag]).toArray) := hg 7 (by decide)
            have f8 : ux14 8 = (vT r35) := hg 8 (by decide)
            have f9 : ux14 9 = (vT (!r35)) := hg 9 (by decide)
            have hE := hE.sub (e' := [(17, v0_1), (18, (vI s6)), (19, (ptr (sb v0_1) (so v0_1 + (s6).toNat * 52))), (20, (Value.agg (cat [[(vI x15.Number)], [(vI x15.Version)], Flat.enc x15.Nonce, [u21], [u23], Flat.enc x15.Tag]).toArray)), (21, v1_1), (22, (vI s6)), (23, (ptr (sb v1_1) (so v1_1 + (s6).toNat * 52))), (24, (Value.agg (cat [[(vI x25.Number)], [(vI x25.Version)], Flat.enc x25.Nonce, [u31], [u33], Flat.enc x25.Tag]).toArray)), (25, (vT r35)), (26, (vT (!r35))), (0, v0_1), (1, v1_1), (5, (vI s6)), (11, (vI s6)), (12, v0_1), (13, (vI (p0.length : Int))), (14, (vT (decide (s6 < (p0.length : Int)))))]) ⟨lk rfl f0, lk rfl f1, lk rfl f2, lk rfl f3, lk rfl f4, lk rfl f5, lk rfl f6, lk rfl f7, lk rfl f8, lk rfl f9, rfl, rfl, rfl, rfl, rfl, rfl, rfl, trivial⟩
            refine c_fin0 ?_
            have ht37 := Option.some.inj hl12
            subst ht37
            refine c_mid ?_
            exact ⟨hE.sub ⟨rfl, rfl, rfl, rfl, trivial⟩, hM⟩
        · skip
          rintro a w ⟨hE, hM⟩
          refine c_cond hE rfl ?_ ?_
          · intro hb38
            have hF13 := ite_t hF13 hb38
            refine c_region ?_
            refine s_assign hE goes_none (by decide) rfl ?_; intro a hE
            refine c_fin ?_
            have ht39 := hx8 _ (Option.some.inj hF13).symm
            subst ht39
            have hr := Option.some.inj hF4
            subst hr
            exact wp_ret (r_inb (r_then (r_then (r_inb (r_then (r_then (k_ret1 hE rfl (res_tmp hE rfl) ⟨_, rfl, rfl, hM.kept⟩)))))))
          · intro hb38
            have hF13 := ite_f hF13 hb38
            refine wp_skip ?_
            refine c_nb ?_
            refine c_nx ?_
            refine wp_region_lit ?_
            refine s_move hE goes_none (by decide) rfl ?_; intro a hE
            refine s_int hE goes_none (by decide) rfl rfl rfl ?_; intro a hE
            refine s_assign hE goes_none (by decide) rfl ?_; intro a hE
            refine c_fin0 ?_
            refine c_mid ?_
            exact ⟨_, (Option.some.inj hF13).symm, hE.sub ⟨rfl, rfl, rfl, trivial⟩, hM⟩
      · intro hb10
        have hs7 := ite_f hs7 hb10
        refine wp_exit (e_then (e_then (e_eq ?_)))
        have ht40 := hx8 _ (Option.some.inj hs7).symm
        subst ht40
        refine c_mid ?_
        exact ⟨(), rfl, hE.sub trivial, hM⟩
    · skip
      rintro a w ⟨s5, ht, hE, hM⟩
      subst ht
      refine c_nx ?_
      refine c_region ?_
      refine s_assign hE goes_none (by decide) rfl ?_; intro a hE
      refine c_fin ?_
      have hr := Option.some.inj hF4
      subst hr
      exact wp_ret (k_ret1 hE rfl (res_tmp hE rfl) ⟨_, rfl, rfl, hM.kept⟩)
noncomputable def F_laws_eqEvent (p0 : GEvent) (p1 : GEvent) : Option (Bool) :=
  if (p0.Kind != p1.Kind) = true then (some false) else (if (p0.Number != p1.Number) = true then (some false) else ((F_laws_eqDigest p0.Tag p1.Tag).bind fun (r7 : Bool) => if (!r7) = true then (some false) else (some true)))
set_option maxRecDepth 20000 in
set_option maxHeartbeats 400000 in
theorem c_laws_eqEvent (w0 : World) (p0 : GEvent) (p1 : GEvent) (r : Bool) (hF : F_laws_eqEvent p0 p1 = some r) :
    Calls Try.prog 134 [(Value.agg (Flat.enc p0).toArray), (Value.agg (Flat.enc p1).toArray)].toArray w0 (fun en w' => ∃ v, en = .returned v ∧ (v = (vT r) ∧ Kept (Old w0) w0 w')) := by
  refine c_enter (n := 21) Try.func134 rfl rfl (Nat.le_of_ble_eq_true rfl) rfl ?_
  intro a hE
  have hM := M.start w0
  unfold F_laws_eqEvent at hF
  refine c_region ?_
  refine s_box (cs := cat [[(vI p0.Kind)], [(vI p0.Number)], Flat.enc p0.Tag]) hE hM goes_none (by decide) rfl rfl ?_; intro b1 w a hM hE
  refine s_box (cs := cat [[(vI p1.Kind)], [(vI p1.Number)], Flat.enc p1.Tag]) hE hM goes_none (by decide) rfl rfl ?_; intro b3 w a hM hE
  refine s_assign hE goes_none (by decide) rfl ?_; intro a hE
  refine c_fin ?_
  refine wp_seq ?_
  refine c_region ?_
  refine s_fieldAddr hE goes_none (by decide) rfl (fd109_0) ?_; intro a hE
  refine s_load (v := (vI p0.Kind)) hE goes_none (by decide) rfl ty2 rfl (At.cat (pre := []) (seg := [(vI p0.Kind)]) (post := [[(vI p0.Number)], Flat.enc p0.Tag]) (hM.rawAt (pre := [_])) cl0) ?_; intro a hE
  refine s_fieldAddr hE goes_none (by decide) rfl (fd109_0) ?_; intro a hE
  refine s_load (v := (vI p1.Kind)) hE goes_none (by decide) rfl ty2 rfl (At.cat (pre := []) (seg := [(vI p1.Kind)]) (post := [[(vI p1.Number)], Flat.enc p1.Tag]) (hM.rawAt (pre := [])) cl0) ?_; intro a hE
  refine s_int hE goes_none (by decide) rfl rfl rfl ?_; intro a hE
  refine c_fin ?_
  refine c_cond hE rfl ?_ ?_
  · intro hb5
    have hF := ite_t hF hb5
    refine c_region ?_
    refine s_assign hE goes_none (by decide) rfl ?_; intro a hE
    refine c_fin ?_
    have hr := Option.some.inj hF
    subst hr
    have hM := M.fst (l := []) hM
    exact wp_ret (r_then (k_ret1 hE rfl (res_tmp hE rfl) ⟨_, rfl, rfl, hM.kept⟩))
  · intro hb5
    have hF := ite_f hF hb5
    refine wp_skip ?_
    refine c_nx ?_
    refine wp_seq ?_
    refine c_region ?_
    refine s_fieldAddr hE goes_none (by decide) rfl (fd109_1) ?_; intro a hE
    refine s_load (v := (vI p0.Number)) hE goes_none (by decide) rfl ty2 rfl (At.cat (pre := [[(vI p0.Kind)]]) (seg := [(vI p0.Number)]) (post := [Flat.enc p0.Tag]) (hM.rawAt (pre := [_])) (cl1 (n := 1) (m := 0) rfl cl0)) ?_; intro a hE
    refine s_fieldAddr hE goes_none (by decide) rfl (fd109_1) ?_; intro a hE
    refine s_load (v := (vI p1.Number)) hE goes_none (by decide) rfl ty2 rfl (At.cat (pre := [[(vI p1.Kind)]]) (seg := [(vI p1.Number)]) (post := [Flat.enc p1.Tag]) (hM.rawAt (pre := [])) (cl1 (n := 1) (m := 0) rfl cl0)) ?_; intro a hE
    refine s_int hE goes_none (by decide) rfl rfl rfl ?_; intro a hE
    refine c_fin ?_
    refine c_cond hE rfl ?_ ?_
    · intro hb6
      have hF := ite_t hF hb6
      refine c_region ?_
      refine s_assign hE goes_none (by decide) rfl ?_; intro a hE
      refine c_fin ?_
      have hr := Option.some.inj hF
      subst hr
      have hM := M.fst (l := []) hM
      exact wp_ret (r_then (k_ret1 hE rfl (res_tmp hE rfl) ⟨_, rfl, rfl, hM.kept⟩))
    · intro hb6
      have hF := ite_f hF hb6
      refine wp_skip ?_
      refine c_nx ?_
      refine wp_seq ?_
      refine c_region ?_
      refine s_fieldAddr hE goes_none (by decide) rfl (fd109_2) ?_; intro a hE
      refine s_loadA (cs := Flat.enc p0.Tag) hE goes_none (by decide) rfl ty47 rfl (At.cat (pre := [[(vI p0.Kind)], [(vI p0.Number)]]) (seg := Flat.enc p0.Tag) (post := []) (hM.rawAt (pre := [_])) (cl1 (n := 1) (m := 1) rfl (cl1 (n := 1) (m := 0) rfl cl0))) (Flat.len _) ?_; intro a hE
      refine s_fieldAddr hE goes_none (by decide) rfl (fd109_2) ?_; intro a hE
      refine s_loadA (cs := Flat.enc p1.Tag) hE goes_none (by decide) rfl ty47 rfl (At.cat (pre := [[(vI p1.Kind)], [(vI p1.Number)]]) (seg := Flat.enc p1.Tag) (post := []) (hM.rawAt (pre := [])) (cl1 (n := 1) (m := 1) rfl (cl1 (n := 1) (m := 0) rfl cl0))) (Flat.len _) ?_; intro a hE
      obtain ⟨r7, e8, hF⟩ := bind_some hF
      refine s_call (vs := [(Value.agg (Flat.enc p0.Tag).toArray), (Value.agg (Flat.enc p1.Tag).toArray)]) hE goes_none (by decide) rfl cb88 (c_laws_eqDigest _ p0.Tag p1.Tag r7 e8) ?_
      rintro v w a ⟨rfl, hK⟩ hE
      have hM := hM.keep hK
      refine s_not hE goes_none (by decide) rfl ?_; intro a hE
      refine c_fin ?_
      refine c_cond hE rfl ?_ ?_
      · intro hb9
        have hF := ite_t hF hb9
        refine c_region ?_
        refine s_assign hE goes_none (by decide) rfl ?_; intro a hE
        refine c_fin ?_
        have hr := Option.some.inj hF
        subst hr
        have hM := M.fst (l := []) hM
        exact wp_ret (r_then (k_ret1 hE rfl (res_tmp hE rfl) ⟨_, rfl, rfl, hM.kept⟩))
      · intro hb9
        have hF := ite_f hF hb9
        refine wp_skip ?_
        refine c_nx ?_
        refine c_region ?_
        refine s_assign hE goes_none (by decide) rfl ?_; intro a hE
        refine c_fin ?_
        have hr := Option.some.inj hF
        subst hr
        have hM := M.fst (l := []) hM
        exact wp_ret (k_ret1 hE rfl (res_tmp hE rfl) ⟨_, rfl, rfl, hM.kept⟩)
noncomputable def L0_laws_eqEventS (p0 : (List GEvent)) (p1 : (List GEvent)) (s6 : Int) : Option (Fl Int (Fl Unit Bool)) :=
  if (decide (s6 < (p0.length : Int))) = true then (((idx p0 s6).bind fun (x15 : GEvent) => (idx p1 s6).bind fun (x18 : GEvent) => (F_laws_eqEvent x15 x18).bind fun (r21 : Bool) => some (!r21) : Option (Bool)).bind fun (j11 : Bool) => if j11 = true then (some (Fl.ex (Fl.ex false))) else (some (Fl.nx (wr (s6 + 1))))) else (some (Fl.ex (Fl.nx ())))
noncomputable def F_laws_eqEventS (p0 : (List GEvent)) (p1 : (List GEvent)) : Option (Bool) :=
  if ((p0.length : Int) != (p1.length : Int)) = true then (some false) else ((iter (L0_laws_eqEventS p0 p1) 0 : Option (Fl Unit Bool)).bind fun (j2 : Fl Unit Bool) => j2.el (fun (s5 : Unit) => some true) (fun r => some r))
set_option maxRecDepth 20000 in
set_option maxHeartbeats 400000 in
theorem c_laws_eqEventS (w0 : World) (p0 : (List GEvent)) (v0_1 : Value) (hv0_1 : Ro w0 p0 [v0_1]) (p1 : (List GEvent)) (v1_1 : Value) (hv1_1 : Ro w0 p1 [v1_1]) (r : Bool) (hF : F_laws_eqEventS p0 p1 = some r) :
    Calls Try.prog 87 [v0_1, v1_1].toArray w0 (fun en w' => ∃ v, en = .returned v ∧ (v = (vT r) ∧ Kept (Old w0) w0 w')) := by
  refine c_enter (n := 27) Try.func87 rfl rfl (Nat.le_of_ble_eq_true rfl) rfl ?_
  intro a hE
  have hM := M.start w0
  unfold F_laws_eqEventS at hF
  refine c_region ?_
  refine s_assign hE goes_none (by decide) rfl ?_; intro a hE
  refine c_fin ?_
  refine wp_seq ?_
  refine c_region ?_
  refine s_move hE goes_none (by decide) rfl ?_; intro a hE
  refine s_len hE goes_none (by decide) rfl Try.underlying46 (hM.rd hv0_1) ?_; intro a hE
  refine s_move hE goes_none (by decide) rfl ?_; intro a hE
  refine s_len hE goes_none (by decide) rfl Try.underlying46 (hM.rd hv1_1) ?_; intro a hE
  refine s_int hE goes_none (by decide) rfl rfl rfl ?_; intro a hE
  refine c_fin ?_
  refine c_cond hE rfl ?_ ?_
  · intro hb1
    have hF := ite_t hF hb1
    refine c_region ?_
    refine s_assign hE goes_none (by decide) rfl ?_; intro a hE
    refine c_fin ?_
    have hr := Option.some.inj hF
    subst hr
    exact wp_ret (r_then (k_ret1 hE rfl (res_tmp hE rfl) ⟨_, rfl, rfl, hM.kept⟩))
  · intro hb1
    have hF := ite_f hF hb1
    refine wp_skip ?_
    refine c_nx ?_
    refine wp_seq ?_
    refine c_region ?_
    refine s_assign hE goes_none (by decide) rfl ?_; intro a hE
    refine c_fin ?_
    obtain ⟨j2, hl3, hF4⟩ := bind_some hF
    refine c_cut (fun a w => ∃ s5 : Unit, j2 = Fl.nx s5 ∧ Env 27 a [] ∧ M (Old w0) w0 w []) ?_ ?_
    · skip
      refine wp_block ?_
      refine c_loop (fun (s6 : Int) a w => Env 27 a [(0, v0_1), (1, v1_1), (5, (vI s6))] ∧ M (Old w0) w0 w []) hl3 ⟨hE.sub ⟨rfl, rfl, rfl, trivial⟩, hM⟩ ?_
      rintro s6 a w ⟨hE, hM⟩ o9 hs7 hx8
      unfold L0_laws_eqEventS at hs7
      refine wp_seq ?_
      refine c_region ?_
      refine s_move hE goes_none (by decide) rfl ?_; intro a hE
      refine s_move hE goes_none (by decide) rfl ?_; intro a hE
      refine s_len hE goes_none (by decide) rfl Try.underlying46 (hM.rd hv0_1) ?_; intro a hE
      refine s_int hE goes_none (by decide) rfl rfl rfl ?_; intro a hE
      refine c_fin ?_
      refine c_cond hE rfl ?_ ?_
      · intro hb10
        have hs7 := ite_t hs7 hb10
        refine wp_skip ?_
        refine c_nx ?_
        refine wp_seq ?_
        refine wp_block ?_
        obtain ⟨j11, hl12, hF13⟩ := bind_some hs7
        refine c_join (fun a w => Env 27 a [(0, v0_1), (1, v1_1), (5, (vI s6)), (26, (vT j11))] ∧ M (Old w0) w0 w []) ?_ ?_
        · skip
          obtain ⟨x15, e16, hl12⟩ := bind_some hl12
          have hi17 := idx_some e16
          obtain ⟨x18, e19, hl12⟩ := bind_some hl12
          have hi20 := idx_some e19
          obtain ⟨r21, e22, hl12⟩ := bind_some hl12
          refine c_draw (n := 27) (hd := [_, _, _, _, _, _, _, _, _, _]) (tl := []) hmix rfl rfl [17, 18, 19, 20, 21, 22, 23, 24, 25, 26] (by decide) (fun w => M (Old w0) w0 w []) (fun j => ([fun v _ => v = v0_1, fun v _ => v = (vI s6), fun v _ => v = (ptr (sb v0_1) (so v0_1 + (s6).toNat * 34)), fun v _ => v = (Value.agg (Flat.enc x15).toArray), fun v _ => v = v1_1, fun v _ => v = (vI s6), fun v _ => v = (ptr (sb v1_1) (so v1_1 + (s6).toNat * 34)), fun v _ => v = (Value.agg (Flat.enc x18).toArray), fun v _ => v = (vT r21), fun v _ => v = (vT (!r21))] : List (Value → World → Prop)).getD j (fun _ _ => True)) (fun _ _ h hk => h.keep hk) (gup (gupE (gupE (gupE (gupE (gupE (gupE (gupE (gupE (gupE (gupE gupN))))))))))) hE hM.drew (steps_of (steps_cons ?_ (steps_cons ?_ (steps_cons ?_ (steps_cons ?_ (steps_cons ?_ (steps_cons ?_ (steps_cons ?_ (steps_cons ?_ (steps_cons ?_ (steps_cons ?_ steps_nil))))))))))) ?_
          · intro a w ux14 hE hM hp
            refine s_move hE goes_none (by decide) rfl ?_; intro a hE
            exact ⟨Kept.refl _ _, _, _, rfl, hE, rfl⟩
          · intro a w ux14 hE hM hp
            refine s_move hE goes_none (by decide) rfl ?_; intro a hE
            exact ⟨Kept.refl _ _, _, _, rfl, hE, rfl⟩
          · intro a w ux14 hE hM hp
            have f0 : ux14 0 = v0_1 := hp 0 _ rfl rfl
            have f1 : ux14 1 = (vI s6) := hp 1 _ rfl rfl
            refine s_indexS hE goes_none (by decide) (lk rfl f0) (lk rfl f1) Try.underlying46 ty109 (hM.rd hv0_1) hi17.1 ?_; intro a hE
            exact ⟨Kept.refl _ _, _, _, rfl, hE, rfl⟩
          · intro a w ux14 hE hM hp
            have f2 : ux14 2 = (ptr (sb v0_1) (so v0_1 + (s6).toNat * 34)) := hp 0 _ rfl rfl
            refine s_loadA (cs := Flat.enc x15) hE goes_none (by decide) (lk rfl f2) ty109 rfl (sl_atF (hM.rd hv0_1) hi17.2) (cat_len (cl1 (n := 1) (m := 33) rfl (cl1 (n := 1) (m := 32) rfl (cl1 (n := 32) (m := 0) (Flat.len _) cl0)))) ?_; intro a hE
            exact ⟨Kept.refl _ _, _, _, rfl, hE, rfl⟩
          · intro a w ux14 hE hM hp
            refine s_move hE goes_none (by decide) rfl ?_; intro a hE
            exact ⟨Kept.refl _ _, _, _, rfl, hE, rfl⟩
          · intro a w ux14 hE hM hp
            refine s_move hE goes_none (by decide) rfl ?_; intro a hE
            exact ⟨Kept.refl _ _, _, _, rfl, hE, rfl⟩
          · intro a w ux14 hE hM hp
            have f4 : ux14 4 = v1_1 := hp 0 _ rfl rfl
            have f5 : ux14 5 = (vI s6) := hp 1 _ rfl rfl
            refine s_indexS hE goes_none (by decide) (lk rfl f4) (lk rfl f5) Try.underlying46 ty109 (hM.rd hv1_1) hi20.1 ?_; intro a hE
            exact ⟨Kept.refl _ _, _, _, rfl, hE, rfl⟩
          · intro a w ux14 hE hM hp
            have f6 : ux14 6 = (ptr (sb v1_1) (so v1_1 + (s6).toNat * 34)) := hp 0 _ rfl rfl
            refine s_loadA (cs := Flat.enc x18) hE goes_none (by decide) (lk rfl f6) ty109 rfl (sl_atF (hM.rd hv1_1) hi20.2) (cat_len (cl1 (n := 1) (m := 33) rfl (cl1 (n := 1) (m := 32) rfl (cl1 (n := 32) (m := 0) (Flat.len _) cl0)))) ?_; intro a hE
            exact ⟨Kept.refl _ _, _, _, rfl, hE, rfl⟩
          · intro a w ux14 hE hM hp
            have f3 : ux14 3 = (Value.agg (Flat.enc x15).toArray) := hp 0 _ rfl rfl
            have f7 : ux14 7 = (Value.agg (Flat.enc x18).toArray) := hp 1 _ rfl rfl
            refine s_call (vs := [(Value.agg (Flat.enc x15).toArray), (Value.agg (Flat.enc x18).toArray)]) hE goes_none (by decide) (evs_of (evsC (lk rfl f3) (evsC (lk rfl f7) evsN))) cb134 (c_laws_eqEvent _ x15 x18 r21 e22) ?_
            rintro v w a ⟨rfl, hK⟩ hE
            exact ⟨hK, _, _, rfl, hE, rfl⟩
          · intro a w ux14 hE hM hp
            have f8 : ux14 8 = (vT r21) := hp 0 _ rfl rfl
            refine s_not hE goes_none (by decide) (lk rfl f8) ?_; intro a hE
            exact ⟨Kept.refl _ _, _, _, rfl, hE, rfl⟩
          · intro a w ux14 hE hM hg
            have f0 : ux14 0 = v0_1 := hg 0 (by decide)
            have f1 : ux14 1 = (vI s6) := hg 1 (by decide)
            have f2 : ux14 2 = (ptr (sb v0_1) (so v0_1 + (s6).toNat * 34)) := hg 2 (by decide)
            have f3 : ux14 3 = (Value.agg (Flat.enc x15).toArray) := hg 3 (by decide)
            have f4 : ux14 4 = v1_1 := hg 4 (by decide)
            have f5 : ux14 5 = (vI s6) := hg 5 (by decide)
            have f6 : ux14 6 = (ptr (sb v1_1) (so v1_1 + (s6).toNat * 34)) := hg 6 (by decide)
            have f7 : ux14 7 = (Value.agg (Flat.enc x18).toArray) := hg 7 (by decide)
            have f8 : ux14 8 = (vT r21) := hg 8 (by decide)
            have f9 : ux14 9 = (vT (!r21)) := hg 9 (by decide)
            have hE := hE.sub (e' := [(17, v0_1), (18, (vI s6)), (19, (ptr (sb v0_1) (so v0_1 + (s6).toNat * 34))), (20, (Value.agg (Flat.enc x15).toArray)), (21, v1_1), (22, (vI s6)), (23, (ptr (sb v1_1) (so v1_1 + (s6).toNat * 34))), (24, (Value.agg (Flat.enc x18).toArray)), (25, (vT r21)), (26, (vT (!r21))), (0, v0_1), (1, v1_1), (5, (vI s6)), (11, (vI s6)), (12, v0_1), (13, (vI (p0.length : Int))), (14, (vT (decide (s6 < (p0.length : Int)))))]) ⟨lk rfl f0, lk rfl f1, lk rfl f2, lk rfl f3, lk rfl f4, lk rfl f5, lk rfl f6, lk rfl f7, lk rfl f8, lk rfl f9, rfl, rfl, rfl, rfl, rfl, rfl, rfl, trivial⟩
            refine c_fin0 ?_
            have ht23 := Option.some.inj hl12
            subst ht23
            refine c_mid ?_
            exact ⟨hE.sub ⟨rfl, rfl, rfl, rfl, trivial⟩, hM⟩
        · skip
          rintro a w ⟨hE, hM⟩
          refine c_cond hE rfl ?_ ?_
          · intro hb24
            have hF13 := ite_t hF13 hb24
            refine c_region ?_
            refine s_assign hE goes_none (by decide) rfl ?_; intro a hE
            refine c_fin ?_
            have ht25 := hx8 _ (Option.some.inj hF13).symm
            subst ht25
            have hr := Option.some.inj hF4
            subst hr
            exact wp_ret (r_inb (r_then (r_then (r_inb (r_then (r_then (k_ret1 hE rfl (res_tmp hE rfl) ⟨_, rfl, rfl, hM.kept⟩)))))))
          · intro hb24
            have hF13 := ite_f hF13 hb24
            refine wp_skip ?_
            refine c_nb ?_
            refine c_nx ?_
            refine wp_region_lit ?_
            refine s_move hE goes_none (by decide) rfl ?_; intro a hE
            refine s_int hE goes_none (by decide) rfl rfl rfl ?_; intro a hE
            refine s_assign hE goes_none (by decide) rfl ?_; intro a hE
            refine c_fin0 ?_
            refine c_mid ?_
            exact ⟨_, (Option.some.inj hF13).symm, hE.sub ⟨rfl, rfl, rfl, trivial⟩, hM⟩
      · intro hb10
        have hs7 := ite_f hs7 hb10
        refine wp_exit (e_then (e_then (e_eq ?_)))
        have ht26 := hx8 _ (Option.some.inj hs7).symm
        subst ht26
        refine c_mid ?_
        exact ⟨(), rfl, hE.sub trivial, hM⟩
    · skip
      rintro a w ⟨s5, ht, hE, hM⟩
      subst ht
      refine c_nx ?_
      refine c_region ?_
      refine s_assign hE goes_none (by decide) rfl ?_; intro a hE
      refine c_fin ?_
      have hr := Option.some.inj hF4
      subst hr
      exact wp_ret (k_ret1 hE rfl (res_tmp hE rfl) ⟨_, rfl, rfl, hM.kept⟩)
noncomputable def F_laws_eqVault (p0 : GVault) (p1 : GVault) : Option (Bool) :=
  (F_laws_eqBlockS p0.Keys p1.Keys).bind fun (r5 : Bool) => if (!r5) = true then (some false) else (if (p0.Next != p1.Next) = true then (some false) else ((F_laws_eqRecordS p0.Records p1.Records).bind fun (r9 : Bool) => if (!r9) = true then (some false) else ((F_laws_eqEventS p0.Events p1.Events).bind fun (r12 : Bool) => if (!r12) = true then (some false) else ((F_laws_eqDigest p0.Head p1.Head).bind fun (r15 : Bool) => if (!r15) = true then (some false) else (some true)))))
set_option maxRecDepth 20000 in
set_option maxHeartbeats 400000 in
theorem c_laws_eqVault (w0 : World) (p0 : GVault) (v0_1 : Value) (hv0_1 : Ro w0 p0.Keys [v0_1]) (v0_2 : Value) (hv0_2 : Ro w0 p0.Records [v0_2]) (v0_3 : Value) (hv0_3 : Ro w0 p0.Events [v0_3]) (p1 : GVault) (v1_1 : Value) (hv1_1 : Ro w0 p1.Keys [v1_1]) (v1_2 : Value) (hv1_2 : Ro w0 p1.Records [v1_2]) (v1_3 : Value) (hv1_3 : Ro w0 p1.Events [v1_3]) (r : Bool) (hF : F_laws_eqVault p0 p1 = some r) :
    Calls Try.prog 28 [(Value.agg (cat [[v0_1], [(vI p0.Next)], [v0_2], [v0_3], Flat.enc p0.Head]).toArray), (Value.agg (cat [[v1_1], [(vI p1.Next)], [v1_2], [v1_3], Flat.enc p1.Head]).toArray)].toArray w0 (fun en w' => ∃ v, en = .returned v ∧ (v = (vT r) ∧ Kept (Old w0) w0 w')) := by
  refine c_enter (n := 34) Try.func28 rfl rfl (Nat.le_of_ble_eq_true rfl) rfl ?_
  intro a hE
  have hM := M.start w0
  unfold F_laws_eqVault at hF
  refine c_region ?_
  refine s_box (cs := cat [[v0_1], [(vI p0.Next)], [v0_2], [v0_3], Flat.enc p0.Head]) hE hM goes_none (by decide) rfl rfl ?_; intro b1 w a hM hE
  refine s_box (cs := cat [[v1_1], [(vI p1.Next)], [v1_2], [v1_3], Flat.enc p1.Head]) hE hM goes_none (by decide) rfl rfl ?_; intro b3 w a hM hE
  refine s_assign hE goes_none (by decide) rfl ?_; intro a hE
  refine c_fin ?_
  refine wp_seq ?_
  refine c_region ?_
  refine s_fieldAddr hE goes_none (by decide) rfl (fd49_0) ?_; intro a hE
  refine s_load (v := v0_1) hE goes_none (by decide) rfl ty44 rfl (At.cat (pre := []) (seg := [v0_1]) (post := [[(vI p0.Next)], [v0_2], [v0_3], Flat.enc p0.Head]) (hM.rawAt (pre := [_])) cl0) ?_; intro a hE
  refine s_fieldAddr hE goes_none (by decide) rfl (fd49_0) ?_; intro a hE
  refine s_load (v := v1_1) hE goes_none (by decide) rfl ty44 rfl (At.cat (pre := []) (seg := [v1_1]) (post := [[(vI p1.Next)], [v1_2], [v1_3], Flat.enc p1.Head]) (hM.rawAt (pre := [])) cl0) ?_; intro a hE
  obtain ⟨r5, e6, hF⟩ := bind_some hF
  refine s_call (vs := [v0_1, v1_1]) hE goes_none (by decide) rfl cb85 (c_laws_eqBlockS _ p0.Keys v0_1 (hM.rdo hv0_1) p1.Keys v1_1 (hM.rdo hv1_1) r5 e6) ?_
  rintro v w a ⟨rfl, hK⟩ hE
  have hM := hM.keep hK
  refine s_not hE goes_none (by decide) rfl ?_; intro a hE
  refine c_fin ?_
  refine c_cond hE rfl ?_ ?_
  · intro hb7
    have hF := ite_t hF hb7
    refine c_region ?_
    refine s_assign hE goes_none (by decide) rfl ?_; intro a hE
    refine c_fin ?_
    have hr := Option.some.inj hF
    subst hr
    have hM := M.fst (l := []) hM
    exact wp_ret (r_then (k_ret1 hE rfl (res_tmp hE rfl) ⟨_, rfl, rfl, hM.kept⟩))
  · intro hb7
    have hF := ite_f hF hb7
    refine wp_skip ?_
    refine c_nx ?_
    refine wp_seq ?_
    refine c_region ?_
    refine s_fieldAddr hE goes_none (by decide) rfl (fd49_1) ?_; intro a hE
    refine s_load (v := (vI p0.Next)) hE goes_none (by decide) rfl ty2 rfl (At.cat (pre := [[v0_1]]) (seg := [(vI p0.Next)]) (post := [[v0_2], [v0_3], Flat.enc p0.Head]) (hM.rawAt (pre := [_])) (cl1 (n := 1) (m := 0) rfl cl0)) ?_; intro a hE
    refine s_fieldAddr hE goes_none (by decide) rfl (fd49_1) ?_; intro a hE
    refine s_load (v := (vI p1.Next)) hE goes_none (by decide) rfl ty2 rfl (At.cat (pre := [[v1_1]]) (seg := [(vI p1.Next)]) (post := [[v1_2], [v1_3], Flat.enc p1.Head]) (hM.rawAt (pre := [])) (cl1 (n := 1) (m := 0) rfl cl0)) ?_; intro a hE
    refine s_int hE goes_none (by decide) rfl rfl rfl ?_; intro a hE
    refine c_fin ?_
    refine c_cond hE rfl ?_ ?_
    · intro hb8
      have hF := ite_t hF hb8
      refine c_region ?_
      refine s_assign hE goes_none (by decide) rfl ?_; intro a hE
      refine c_fin ?_
      have hr := Option.some.inj hF
      subst hr
      have hM := M.fst (l := []) hM
      exact wp_ret (r_then (k_ret1 hE rfl (res_tmp hE rfl) ⟨_, rfl, rfl, hM.kept⟩))
    · intro hb8
      have hF := ite_f hF hb8
      refine wp_skip ?_
      refine c_nx ?_
      refine wp_seq ?_
      refine c_region ?_
      refine s_fieldAddr hE goes_none (by decide) rfl (fd49_2) ?_; intro a hE
      refine s_load (v := v0_2) hE goes_none (by decide) rfl ty45 rfl (At.cat (pre := [[v0_1], [(vI p0.Next)]]) (seg := [v0_2]) (post := [[v0_3], Flat.enc p0.Head]) (hM.rawAt (pre := [_])) (cl1 (n := 1) (m := 1) rfl (cl1 (n := 1) (m := 0) rfl cl0))) ?_; intro a hE
      refine s_fieldAddr hE goes_none (by decide) rfl (fd49_2) ?_; intro a hE
      refine s_load (v := v1_2) hE goes_none (by decide) rfl ty45 rfl (At.cat (pre := [[v1_1], [(vI p1.Next)]]) (seg := [v1_2]) (post := [[v1_3], Flat.enc p1.Head]) (hM.rawAt (pre := [])) (cl1 (n := 1) (m := 1) rfl (cl1 (n := 1) (m := 0) rfl cl0))) ?_; intro a hE
      obtain ⟨r9, e10, hF⟩ := bind_some hF
      refine s_call (vs := [v0_2, v1_2]) hE goes_none (by decide) rfl cb86 (c_laws_eqRecordS _ p0.Records v0_2 (hM.rdo hv0_2) p1.Records v1_2 (hM.rdo hv1_2) r9 e10) ?_
      rintro v w a ⟨rfl, hK⟩ hE
      have hM := hM.keep hK
      refine s_not hE goes_none (by decide) rfl ?_; intro a hE
      refine c_fin ?_
      refine c_cond hE rfl ?_ ?_
      · intro hb11
        have hF := ite_t hF hb11
        refine c_region ?_
        refine s_assign hE goes_none (by decide) rfl ?_; intro a hE
        refine c_fin ?_
        have hr := Option.some.inj hF
        subst hr
        have hM := M.fst (l := []) hM
        exact wp_ret (r_then (k_ret1 hE rfl (res_tmp hE rfl) ⟨_, rfl, rfl, hM.kept⟩))
      · intro hb11
        have hF := ite_f hF hb11
        refine wp_skip ?_
        refine c_nx ?_
        refine wp_seq ?_
        refine c_region ?_
        refine s_fieldAddr hE goes_none (by decide) rfl (fd49_3) ?_; intro a hE
        refine s_load (v := v0_3) hE goes_none (by decide) rfl ty46 rfl (At.cat (pre := [[v0_1], [(vI p0.Next)], [v0_2]]) (seg := [v0_3]) (post := [Flat.enc p0.Head]) (hM.rawAt (pre := [_])) (cl1 (n := 1) (m := 2) rfl (cl1 (n := 1) (m := 1) rfl (cl1 (n := 1) (m := 0) rfl cl0)))) ?_; intro a hE
        refine s_fieldAddr hE goes_none (by decide) rfl (fd49_3) ?_; intro a hE
        refine s_load (v := v1_3) hE goes_none (by decide) rfl ty46 rfl (At.cat (pre := [[v1_1], [(vI p1.Next)], [v1_2]]) (seg := [v1_3]) (post := [Flat.enc p1.Head]) (hM.rawAt (pre := [])) (cl1 (n := 1) (m := 2) rfl (cl1 (n := 1) (m := 1) rfl (cl1 (n := 1) (m := 0) rfl cl0)))) ?_; intro a hE
        obtain ⟨r12, e13, hF⟩ := bind_some hF
        refine s_call (vs := [v0_3, v1_3]) hE goes_none (by decide) rfl cb87 (c_laws_eqEventS _ p0.Events v0_3 (hM.rdo hv0_3) p1.Events v1_3 (hM.rdo hv1_3) r12 e13) ?_
        rintro v w a ⟨rfl, hK⟩ hE
        have hM := hM.keep hK
        refine s_not hE goes_none (by decide) rfl ?_; intro a hE
        refine c_fin ?_
        refine c_cond hE rfl ?_ ?_
        · intro hb14
          have hF := ite_t hF hb14
          refine c_region ?_
          refine s_assign hE goes_none (by decide) rfl ?_; intro a hE
          refine c_fin ?_
          have hr := Option.some.inj hF
          subst hr
          have hM := M.fst (l := []) hM
          exact wp_ret (r_then (k_ret1 hE rfl (res_tmp hE rfl) ⟨_, rfl, rfl, hM.kept⟩))
        · intro hb14
          have hF := ite_f hF hb14
          refine wp_skip ?_
          refine c_nx ?_
          refine wp_seq ?_
          refine c_region ?_
          refine s_fieldAddr hE goes_none (by decide) rfl (fd49_4) ?_; intro a hE
          refine s_loadA (cs := Flat.enc p0.Head) hE goes_none (by decide) rfl ty47 rfl (At.cat (pre := [[v0_1], [(vI p0.Next)], [v0_2], [v0_3]]) (seg := Flat.enc p0.Head) (post := []) (hM.rawAt (pre := [_])) (cl1 (n := 1) (m := 3) rfl (cl1 (n := 1) (m := 2) rfl (cl1 (n := 1) (m := 1) rfl (cl1 (n := 1) (m := 0) rfl cl0))))) (Flat.len _) ?_; intro a hE
          refine s_fieldAddr hE goes_none (by decide) rfl (fd49_4) ?_; intro a hE
          refine s_loadA (cs := Flat.enc p1.Head) hE goes_none (by decide) rfl ty47 rfl (At.cat (pre := [[v1_1], [(vI p1.Next)], [v1_2], [v1_3]]) (seg := Flat.enc p1.Head) (post := []) (hM.rawAt (pre := [])) (cl1 (n := 1) (m := 3) rfl (cl1 (n := 1) (m := 2) rfl (cl1 (n := 1) (m := 1) rfl (cl1 (n := 1) (m := 0) rfl cl0))))) (Flat.len _) ?_; intro a hE
          obtain ⟨r15, e16, hF⟩ := bind_some hF
          refine s_call (vs := [(Value.agg (Flat.enc p0.Head).toArray), (Value.agg (Flat.enc p1.Head).toArray)]) hE goes_none (by decide) rfl cb88 (c_laws_eqDigest _ p0.Head p1.Head r15 e16) ?_
          rintro v w a ⟨rfl, hK⟩ hE
          have hM := hM.keep hK
          refine s_not hE goes_none (by decide) rfl ?_; intro a hE
          refine c_fin ?_
          refine c_cond hE rfl ?_ ?_
          · intro hb17
            have hF := ite_t hF hb17
            refine c_region ?_
            refine s_assign hE goes_none (by decide) rfl ?_; intro a hE
            refine c_fin ?_
            have hr := Option.some.inj hF
            subst hr
            have hM := M.fst (l := []) hM
            exact wp_ret (r_then (k_ret1 hE rfl (res_tmp hE rfl) ⟨_, rfl, rfl, hM.kept⟩))
          · intro hb17
            have hF := ite_f hF hb17
            refine wp_skip ?_
            refine c_nx ?_
            refine c_region ?_
            refine s_assign hE goes_none (by decide) rfl ?_; intro a hE
            refine c_fin ?_
            have hr := Option.some.inj hF
            subst hr
            have hM := M.fst (l := []) hM
            exact wp_ret (k_ret1 hE rfl (res_tmp hE rfl) ⟨_, rfl, rfl, hM.kept⟩)
noncomputable def L1_laws_markBlockS (s4 : (List (Vector UInt8 16)) × Int × Int) (s12 : (List (Vector UInt8 16)) × Int × Int) : Option (Fl ((List (Vector UInt8 16)) × Int × Int) ((List (Vector UInt8 16)) × Int)) :=
  if (decide (s12.2.2 < 16)) = true then ((idx s12.1 s4.2.2).bind fun (x17 : (Vector UInt8 16)) => (vidx x17 s12.2.2).bind fun (x21 : UInt8) => some (Fl.nx ((s12.1.set (s4.2.2).toNat (x17.setIfInBounds (s12.2.2).toNat (byteI s12.2.1))), wr (s12.2.1 + 1), wr (s12.2.2 + 1)))) else (some (Fl.ex (s12.1, s12.2.1)))
noncomputable def L0_laws_markBlockS (s4 : (List (Vector UInt8 16)) × Int × Int) : Option (Fl ((List (Vector UInt8 16)) × Int × Int) ((List (Vector UInt8 16)) × Int)) :=
  if (decide (s4.2.2 < (s4.1.length : Int))) = true then ((iter (L1_laws_markBlockS s4) (s4.1, s4.2.1, 0) : Option ((List (Vector UInt8 16)) × Int)).bind fun (j9 : (List (Vector UInt8 16)) × Int) => some (Fl.nx (j9.1, j9.2, wr (s4.2.2 + 1)))) else (some (Fl.ex (s4.1, s4.2.1)))
noncomputable def F_laws_markBlockS (p0 : (List (Vector UInt8 16))) (p1 : Int) : Option ((List (Vector UInt8 16)) × Int) :=
  (iter (L0_laws_markBlockS) (p0, p1, 0) : Option ((List (Vector UInt8 16)) × Int)).bind fun (j1 : (List (Vector UInt8 16)) × Int) => some (j1.1, j1.2)
set_option maxRecDepth 20000 in
set_option maxHeartbeats 400000 in
theorem c_laws_markBlockS (St : Nat → Prop) (W w0 : World) (its : List Item) (p0 : (List (Vector UInt8 16))) (v0_1 : Value) (p1 : Int) (hM : M St W w0 (own NoB (p0 : (List (Vector UInt8 16))) [v0_1] :: its)) (r : (List (Vector UInt8 16)) × Int) (hF : F_laws_markBlockS p0 p1 = some r) :
    Calls Try.prog 105 [v0_1, (vI p1)].toArray w0 (fun en w' => ∃ v, en = .returned v ∧ (v = (vI r.2) ∧ M St W w' (own NoB (r.1 : (List (Vector UInt8 16))) [v0_1] :: its))) := by
  refine c_enter (n := 27) Try.func105 rfl rfl (Nat.le_of_ble_eq_true rfl) rfl ?_
  intro a hE
  unfold F_laws_markBlockS at hF
  refine c_region ?_
  refine s_assign hE goes_none (by decide) rfl ?_; intro a hE
  refine c_fin ?_
  refine wp_seq ?_
  refine c_region ?_
  refine s_assign hE goes_none (by decide) rfl ?_; intro a hE
  refine c_fin ?_
  obtain ⟨j1, hl2, hF3⟩ := bind_some hF
  refine c_cut (fun a w => Env 27 a [(0, v0_1), (1, (vI j1.2))] ∧ M St W w (own NoB (j1.1 : (List (Vector UInt8 16))) [v0_1] :: its)) ?_ ?_
  · skip
    refine wp_block ?_
    refine c_loop (fun (s4 : (List (Vector UInt8 16)) × Int × Int) a w => Env 27 a [(0, v0_1), (1, (vI s4.2.1)), (5, (vI s4.2.2))] ∧ M St W w (own NoB (s4.1 : (List (Vector UInt8 16))) [v0_1] :: its)) hl2 ⟨hE.sub ⟨rfl, rfl, rfl, trivial⟩, hM⟩ ?_
    rintro s4 a w ⟨hE, hM⟩ o7 hs5 hx6
    unfold L0_laws_markBlockS at hs5
    refine wp_seq ?_
    refine c_region ?_
    refine s_move hE goes_none (by decide) rfl ?_; intro a hE
    refine s_move hE goes_none (by decide) rfl ?_; intro a hE
    refine s_len hE goes_none (by decide) rfl Try.underlying44 (hM.ro (pre := []) (fun b hb => hb.elim)) ?_; intro a hE
    refine s_int hE goes_none (by decide) rfl rfl rfl ?_; intro a hE
    refine c_fin ?_
    refine c_cond hE rfl ?_ ?_
    · intro hb8
      have hs5 := ite_t hs5 hb8
      refine wp_skip ?_
      refine c_nx ?_
      refine wp_seq ?_
      refine wp_block ?_
      refine c_region ?_
      refine s_assign hE goes_none (by decide) rfl ?_; intro a hE
      refine c_fin ?_
      obtain ⟨j9, hl10, hF11⟩ := bind_some hs5
      refine c_cut (fun a w => Env 27 a [(0, v0_1), (1, (vI j9.2)), (5, (vI s4.2.2))] ∧ M St W w (own NoB (j9.1 : (List (Vector UInt8 16))) [v0_1] :: its)) ?_ ?_
      · skip
        refine wp_block ?_
        refine c_loop (fun (s12 : (List (Vector UInt8 16)) × Int × Int) a w => Env 27 a [(0, v0_1), (1, (vI s12.2.1)), (5, (vI s4.2.2)), (6, (vI s12.2.2))] ∧ M St W w (own NoB (s12.1 : (List (Vector UInt8 16))) [v0_1] :: its)) hl10 ⟨hE.sub ⟨rfl, rfl, rfl, rfl, trivial⟩, hM⟩ ?_
        rintro s12 a w ⟨hE, hM⟩ o15 hs13 hx14
        unfold L1_laws_markBlockS at hs13
        refine wp_seq ?_
        refine c_region ?_
        refine s_move hE goes_none (by decide) rfl ?_; intro a hE
        refine s_int hE goes_none (by decide) rfl rfl rfl ?_; intro a hE
        refine c_fin ?_
        refine c_cond hE rfl ?_ ?_
        · intro hb16
          have hs13 := ite_t hs13 hb16
          refine wp_skip ?_
          refine c_nx ?_
          refine wp_seq ?_
          refine wp_block ?_
          refine c_region ?_
          refine s_move hE goes_none (by decide) rfl ?_; intro a hE
          refine s_move hE goes_none (by decide) rfl ?_; intro a hE
          refine s_move hE goes_none (by decide) rfl ?_; intro a hE
          refine s_move hE goes_none (by decide) rfl ?_; intro a hE
          refine s_conv hE goes_none (by decide) rfl Try.underlying3 Try.underlying5 ?_; intro a hE
          rw [byteI_val] at hE
          obtain ⟨x17, e18, hs13⟩ := bind_some hs13
          have hi19 := idx_some e18
          refine s_indexS hE goes_none (by decide) rfl rfl Try.underlying44 ty104 (hM.ro (pre := []) (fun b hb => hb.elim)) hi19.1 ?_; intro a hE
          obtain ⟨x21, e22, hs13⟩ := bind_some hs13
          have hi20 := vidx_some e22
          refine s_indexA hE goes_none (by decide) rfl rfl Try.underlying104 ty5 hi20.1 ?_; intro a hE
          have hM := hM.toOsl (List.getElem?_eq_some_iff.1 hi19.2).1
          refine s_storeS (i := (s4.2.2).toNat) (k0 := 0 + (s12.2.2).toNat * 1) (seg := [(vB (byteI s12.2.1))]) (xo := x17) (xn := (x17.setIfInBounds (s12.2.2).toNat (byteI s12.2.1))) hE hM goes_none (opv_off rfl (by show _ = _ + _ * 16 + _; omega)) rfl rfl ty5 rfl (Flat.cell (byteI s12.2.1)) hi19.2 (fit_vec1 (x := byteI s12.2.1) hi20.1) (splice_vec0 (v := x17) (x := byteI s12.2.1) hi20.1) ?_; intro w a hM hE
          have hM := hM.toOwn noB
          refine c_fin ?_
          refine wp_region_lit ?_
          refine s_move hE goes_none (by decide) rfl ?_; intro a hE
          refine s_int hE goes_none (by decide) rfl rfl rfl ?_; intro a hE
          refine s_assign hE goes_none (by decide) rfl ?_; intro a hE
          refine c_fin0 ?_
          refine c_nb ?_
          refine c_nx ?_
          refine wp_region_lit ?_
          refine s_move hE goes_none (by decide) rfl ?_; intro a hE
          refine s_int hE goes_none (by decide) rfl rfl rfl ?_; intro a hE
          refine s_assign hE goes_none (by decide) rfl ?_; intro a hE
          refine c_fin0 ?_
          refine c_mid ?_
          exact ⟨_, (Option.some.inj hs13).symm, hE.sub ⟨rfl, rfl, rfl, rfl, trivial⟩, hM⟩
        · intro hb16
          have hs13 := ite_f hs13 hb16
          refine wp_exit (e_then (e_then (e_eq ?_)))
          have ht23 := hx14 _ (Option.some.inj hs13).symm
          subst ht23
          refine c_mid ?_
          exact ⟨hE.sub ⟨rfl, rfl, rfl, trivial⟩, hM⟩
      · skip
        rintro a w ⟨hE, hM⟩
        refine c_nb ?_
        refine c_nx ?_
        refine wp_region_lit ?_
        refine s_move hE goes_none (by decide) rfl ?_; intro a hE
        refine s_int hE goes_none (by decide) rfl rfl rfl ?_; intro a hE
        refine s_assign hE goes_none (by decide) rfl ?_; intro a hE
        refine c_fin0 ?_
        refine c_mid ?_
        exact ⟨_, (Option.some.inj hF11).symm, hE.sub ⟨rfl, rfl, rfl, trivial⟩, hM⟩
    · intro hb8
      have hs5 := ite_f hs5 hb8
      refine wp_exit (e_then (e_then (e_eq ?_)))
      have ht24 := hx6 _ (Option.some.inj hs5).symm
      subst ht24
      refine c_mid ?_
      exact ⟨hE.sub ⟨rfl, rfl, trivial⟩, hM⟩
  · skip
    rintro a w ⟨hE, hM⟩
    refine c_nx ?_
    refine c_region ?_
    refine s_move hE goes_none (by decide) rfl ?_; intro a hE
    refine s_assign hE goes_none (by decide) rfl ?_; intro a hE
    refine c_fin ?_
    have hr := Option.some.inj hF3
    subst hr
    exact wp_ret (k_ret1 hE rfl (res_tmp hE rfl) ⟨_, rfl, rfl, hM⟩)
noncomputable def L0_laws_markByteS (s4 : (List UInt8) × Int × Int) : Option (Fl ((List UInt8) × Int × Int) ((List UInt8) × Int)) :=
  if (decide (s4.2.2 < (s4.1.length : Int))) = true then ((idx s4.1 s4.2.2).bind fun (x9 : UInt8) => some (Fl.nx ((s4.1.set (s4.2.2).toNat (byteI s4.2.1)), wr (s4.2.1 + 1), wr (s4.2.2 + 1)))) else (some (Fl.ex (s4.1, s4.2.1)))
noncomputable def F_laws_markByteS (p0 : (List UInt8)) (p1 : Int) : Option ((List UInt8) × Int) :=
  (iter (L0_laws_markByteS) (p0, p1, 0) : Option ((List UInt8) × Int)).bind fun (j1 : (List UInt8) × Int) => some (j1.1, j1.2)
set_option maxRecDepth 20000 in
set_option maxHeartbeats 400000 in
theorem c_laws_markByteS (St : Nat → Prop) (W w0 : World) (its : List Item) (p0 : (List UInt8)) (v0_1 : Value) (p1 : Int) (hM : M St W w0 (own NoB (p0 : (List UInt8)) [v0_1] :: its)) (r : (List UInt8) × Int) (hF : F_laws_markByteS p0 p1 = some r) :
    Calls Try.prog 22 [v0_1, (vI p1)].toArray w0 (fun en w' => ∃ v, en = .returned v ∧ (v = (vI r.2) ∧ M St W w' (own NoB (r.1 : (List UInt8)) [v0_1] :: its))) := by
  refine c_enter (n := 20) Try.func22 rfl rfl (Nat.le_of_ble_eq_true rfl) rfl ?_
  intro a hE
  unfold F_laws_markByteS at hF
  refine c_region ?_
  refine s_assign hE goes_none (by decide) rfl ?_; intro a hE
  refine c_fin ?_
  refine wp_seq ?_
  refine c_region ?_
  refine s_assign hE goes_none (by decide) rfl ?_; intro a hE
  refine c_fin ?_
  obtain ⟨j1, hl2, hF3⟩ := bind_some hF
  refine c_cut (fun a w => Env 20 a [(0, v0_1), (1, (vI j1.2))] ∧ M St W w (own NoB (j1.1 : (List UInt8)) [v0_1] :: its)) ?_ ?_
  · skip
    refine wp_block ?_
    refine c_loop (fun (s4 : (List UInt8) × Int × Int) a w => Env 20 a [(0, v0_1), (1, (vI s4.2.1)), (5, (vI s4.2.2))] ∧ M St W w (own NoB (s4.1 : (List UInt8)) [v0_1] :: its)) hl2 ⟨hE.sub ⟨rfl, rfl, rfl, trivial⟩, hM⟩ ?_
    rintro s4 a w ⟨hE, hM⟩ o7 hs5 hx6
    unfold L0_laws_markByteS at hs5
    refine wp_seq ?_
    refine c_region ?_
    refine s_move hE goes_none (by decide) rfl ?_; intro a hE
    refine s_move hE goes_none (by decide) rfl ?_; intro a hE
    refine s_len hE goes_none (by decide) rfl Try.underlying29 (hM.ro (pre := []) (fun b hb => hb.elim)) ?_; intro a hE
    refine s_int hE goes_none (by decide) rfl rfl rfl ?_; intro a hE
    refine c_fin ?_
    refine c_cond hE rfl ?_ ?_
    · intro hb8
      have hs5 := ite_t hs5 hb8
      refine wp_skip ?_
      refine c_nx ?_
      refine wp_seq ?_
      refine wp_block ?_
      refine c_region ?_
      refine s_move hE goes_none (by decide) rfl ?_; intro a hE
      refine s_move hE goes_none (by decide) rfl ?_; intro a hE
      refine s_move hE goes_none (by decide) rfl ?_; intro a hE
      refine s_conv hE goes_none (by decide) rfl Try.underlying3 Try.underlying5 ?_; intro a hE
      rw [byteI_val] at hE
      obtain ⟨x9, e10, hs5⟩ := bind_some hs5
      have hi11 := idx_some e10
      refine s_indexS hE goes_none (by decide) rfl rfl Try.underlying29 ty5 (hM.ro (pre := []) (fun b hb => hb.elim)) hi11.1 ?_; intro a hE
      have hM := hM.toOsl (List.getElem?_eq_some_iff.1 hi11.2).1
      refine s_storeS (i := (s4.2.2).toNat) (k0 := 0) (seg := [(vB (byteI s4.2.1))]) (xo := x9) (xn := byteI s4.2.1) hE hM goes_none rfl rfl rfl ty5 rfl (Flat.cell (byteI s4.2.1)) hi11.2 (fit_num (m := 1) rfl (by decide)) (splice_all (Eq.trans rfl (Eq.symm rfl))) ?_; intro w a hM hE
      have hM := hM.toOwn noB
      refine c_fin ?_
      refine wp_region_lit ?_
      refine s_move hE goes_none (by decide) rfl ?_; intro a hE
      refine s_int hE goes_none (by decide) rfl rfl rfl ?_; intro a hE
      refine s_assign hE goes_none (by decide) rfl ?_; intro a hE
      refine c_fin0 ?_
      refine c_nb ?_
      refine c_nx ?_
      refine wp_region_lit ?_
      refine s_move hE goes_none (by decide) rfl ?_; intro a hE
      refine s_int hE goes_none (by decide) rfl rfl rfl ?_; intro a hE
      refine s_assign hE goes_none (by decide) rfl ?_; intro a hE
      refine c_fin0 ?_
      refine c_mid ?_
      exact ⟨_, (Option.some.inj hs5).symm, hE.sub ⟨rfl, rfl, rfl, trivial⟩, hM⟩
    · intro hb8
      have hs5 := ite_f hs5 hb8
      refine wp_exit (e_then (e_then (e_eq ?_)))
      have ht12 := hx6 _ (Option.some.inj hs5).symm
      subst ht12
      refine c_mid ?_
      exact ⟨hE.sub ⟨rfl, rfl, trivial⟩, hM⟩
  · skip
    rintro a w ⟨hE, hM⟩
    refine c_nx ?_
    refine c_region ?_
    refine s_move hE goes_none (by decide) rfl ?_; intro a hE
    refine s_assign hE goes_none (by decide) rfl ?_; intro a hE
    refine c_fin ?_
    have hr := Option.some.inj hF3
    subst hr
    exact wp_ret (k_ret1 hE rfl (res_tmp hE rfl) ⟨_, rfl, rfl, hM⟩)
noncomputable def L1_laws_markRecordS (s4 : (List GRecord) × Int × Int) (s18 : (List GRecord) × Int × Int) : Option (Fl ((List GRecord) × Int × Int) ((List GRecord) × Int)) :=
  if (decide (s18.2.2 < 16)) = true then ((idx s18.1 s4.2.2).bind fun (x23 : GRecord) => (vidx x23.Nonce s18.2.2).bind fun (x27 : UInt8) => some (Fl.nx ((s18.1.set (s4.2.2).toNat (⟨x23.Number, x23.Version, (x23.Nonce.setIfInBounds (s18.2.2).toNat (byteI s18.2.1)), x23.Label, x23.Body, x23.Tag⟩ : GRecord)), wr (s18.2.1 + 1), wr (s18.2.2 + 1)))) else (some (Fl.ex (s18.1, s18.2.1)))
noncomputable def L2_laws_markRecordS (s4 : (List GRecord) × Int × Int) (s55 : (List GRecord) × Int × Int) : Option (Fl ((List GRecord) × Int × Int) ((List GRecord) × Int)) :=
  if (decide (s55.2.2 < 32)) = true then ((idx s55.1 s4.2.2).bind fun (x60 : GRecord) => (vidx x60.Tag s55.2.2).bind fun (x64 : UInt8) => some (Fl.nx ((s55.1.set (s4.2.2).toNat (⟨x60.Number, x60.Version, x60.Nonce, x60.Label, x60.Body, (x60.Tag.setIfInBounds (s55.2.2).toNat (byteI s55.2.1))⟩ : GRecord)), wr (s55.2.1 + 1), wr (s55.2.2 + 1)))) else (some (Fl.ex (s55.1, s55.2.1)))
noncomputable def L0_laws_markRecordS (s4 : (List GRecord) × Int × Int) : Option (Fl ((List GRecord) × Int × Int) ((List GRecord) × Int)) :=
  if (decide (s4.2.2 < (s4.1.length : Int))) = true then ((idx s4.1 s4.2.2).bind fun (x9 : GRecord) => (idx (s4.1.set (s4.2.2).toNat (⟨s4.2.1, x9.Version, x9.Nonce, x9.Label, x9.Body, x9.Tag⟩ : GRecord)) s4.2.2).bind fun (x12 : GRecord) => (iter (L1_laws_markRecordS s4) (((s4.1.set (s4.2.2).toNat (⟨s4.2.1, x9.Version, x9.Nonce, x9.Label, x9.Body, x9.Tag⟩ : GRecord)).set (s4.2.2).toNat (⟨x12.Number, wr (s4.2.1 + 1), x12.Nonce, x12.Label, x12.Body, x12.Tag⟩ : GRecord)), wr ((wr (s4.2.1 + 1)) + 1), 0) : Option ((List GRecord) × Int)).bind fun (j15 : (List GRecord) × Int) => (idx j15.1 s4.2.2).bind fun (x30 : GRecord) => (F_laws_markByteS x30.Label j15.2).bind fun (r39 : (List UInt8) × Int) => (idx (j15.1.set (s4.2.2).toNat (⟨x30.Number, x30.Version, x30.Nonce, r39.1, x30.Body, x30.Tag⟩ : GRecord)) s4.2.2).bind fun (x41 : GRecord) => (F_laws_markByteS x41.Body r39.2).bind fun (r50 : (List UInt8) × Int) => (iter (L2_laws_markRecordS s4) (((j15.1.set (s4.2.2).toNat (⟨x30.Number, x30.Version, x30.Nonce, r39.1, x30.Body, x30.Tag⟩ : GRecord)).set (s4.2.2).toNat (⟨x41.Number, x41.Version, x41.Nonce, x41.Label, r50.1, x41.Tag⟩ : GRecord)), r50.2, 0) : Option ((List GRecord) × Int)).bind fun (j52 : (List GRecord) × Int) => some (Fl.nx (j52.1, j52.2, wr (s4.2.2 + 1)))) else (some (Fl.ex (s4.1, s4.2.1)))
noncomputable def F_laws_markRecordS (p0 : (List GRecord)) (p1 : Int) : Option ((List GRecord) × Int) :=
  (iter (L0_laws_markRecordS) (p0, p1, 0) : Option ((List GRecord) × Int)).bind fun (j1 : (List GRecord) × Int) => some (j1.1, j1.2)
set_option maxRecDepth 20000 in
set_option maxHeartbeats 400000 in
theorem c_laws_markRecordS (St : Nat → Prop) (W w0 : World) (its : List Item) (p0 : (List GRecord)) (v0_1 : Value) (p1 : Int) (hM : M St W w0 (own NoB (p0 : (List GRecord)) [v0_1] :: its)) (r : (List GRecord) × Int) (hF : F_laws_markRecordS p0 p1 = some r) :
    Calls Try.prog 106 [v0_1, (vI p1)].toArray w0 (fun en w' => ∃ v, en = .returned v ∧ (v = (vI r.2) ∧ M St W w' (own NoB (r.1 : (List GRecord)) [v0_1] :: its))) := by
  refine c_enter (n := 71) Try.func106 rfl rfl (Nat.le_of_ble_eq_true rfl) rfl ?_
  intro a hE
  unfold F_laws_markRecordS at hF
  refine c_region ?_
  refine s_assign hE goes_none (by decide) rfl ?_; intro a hE
  refine c_fin ?_
  refine wp_seq ?_
  refine c_region ?_
  refine s_assign hE goes_none (by decide) rfl ?_; intro a hE
  refine c_fin ?_
  obtain ⟨j1, hl2, hF3⟩ := bind_some hF
  refine c_cut (fun a w => Env 71 a [(0, v0_1), (1, (vI j1.2))] ∧ M St W w (own NoB (j1.1 : (List GRecord)) [v0_1] :: its)) ?_ ?_
  · skip
    refine wp_block ?_
    refine c_loop (fun (s4 : (List GRecord) × Int × Int) a w => Env 71 a [(0, v0_1), (1, (vI s4.2.1)), (5, (vI s4.2.2))] ∧ M St W w (own NoB (s4.1 : (List GRecord)) [v0_1] :: its)) hl2 ⟨hE.sub ⟨rfl, rfl, rfl, trivial⟩, hM⟩ ?_
    rintro s4 a w ⟨hE, hM⟩ o7 hs5 hx6
    unfold L0_laws_markRecordS at hs5
    refine wp_seq ?_
    refine c_region ?_
    refine s_move hE goes_none (by decide) rfl ?_; intro a hE
    refine s_move hE goes_none (by decide) rfl ?_; intro a hE
    refine s_len hE goes_none (by decide) rfl Try.underlying45 (hM.ro (pre := []) (fun b hb => hb.elim)) ?_; intro a hE
    refine s_int hE goes_none (by decide) rfl rfl rfl ?_; intro a hE
    refine c_fin ?_
    refine c_cond hE rfl ?_ ?_
    · intro hb8
      have hs5 := ite_t hs5 hb8
      refine wp_skip ?_
      refine c_nx ?_
      refine wp_seq ?_
      refine wp_block ?_
      refine c_region ?_
      refine s_move hE goes_none (by decide) rfl ?_; intro a hE
      refine s_move hE goes_none (by decide) rfl ?_; intro a hE
      refine s_move hE goes_none (by decide) rfl ?_; intro a hE
      obtain ⟨x9, e10, hs5⟩ := bind_some hs5
      have hi11 := idx_some e10
      refine s_indexS hE goes_none (by decide) rfl rfl Try.underlying45 ty106 (hM.ro (pre := []) (fun b hb => hb.elim)) hi11.1 ?_; intro a hE
      refine s_fieldAddr hE goes_none (by decide) rfl (fd106_0) ?_; intro a hE
      have hM := hM.toOsl (List.getElem?_eq_some_iff.1 hi11.2).1
      refine s_storeRF (i := (s4.2.2).toNat) (k0 := 0 + 0) (seg := [(vI s4.2.1)]) (xo := x9) (xn := (⟨s4.2.1, x9.Version, x9.Nonce, x9.Label, x9.Body, x9.Tag⟩ : GRecord)) hE hM noB goes_none rfl rfl rfl ty2 rfl (Flat.cell s4.2.1) hi11.2 (fit_num (m := 1) rfl (by decide)) (fun S w cs f h => by obtain ⟨y1, y2, _, _, rfl, rfl, s1, s2⟩ := unf_GRecord h; exact sat_cast (splice_cat (pre := []) (seg := [(vI x9.Number)]) (post := [[(vI x9.Version)], Flat.enc x9.Nonce, [y1], [y2], Flat.enc x9.Tag]) cl0 (Eq.trans rfl (Eq.symm rfl))) (pk_GRecord s1 s2 (by simp))) ?_; intro w a hM hE
      have hM := hM.toOwn noB
      refine c_fin ?_
      refine c_region ?_
      refine s_move hE goes_none (by decide) rfl ?_; intro a hE
      refine s_int hE goes_none (by decide) rfl rfl rfl ?_; intro a hE
      refine s_assign hE goes_none (by decide) rfl ?_; intro a hE
      refine c_fin ?_
      refine c_region ?_
      refine s_move hE goes_none (by decide) rfl ?_; intro a hE
      refine s_move hE goes_none (by decide) rfl ?_; intro a hE
      refine s_move hE goes_none (by decide) rfl ?_; intro a hE
      obtain ⟨x12, e13, hs5⟩ := bind_some hs5
      have hi14 := idx_some e13
      refine s_indexS hE goes_none (by decide) rfl rfl Try.underlying45 ty106 (hM.ro (pre := []) (fun b hb => hb.elim)) hi14.1 ?_; intro a hE
      refine s_fieldAddr hE goes_none (by decide) rfl (fd106_1) ?_; intro a hE
      have hM := hM.toOsl (List.getElem?_eq_some_iff.1 hi14.2).1
      refine s_storeRF (i := (s4.2.2).toNat) (k0 := 0 + 1) (seg := [(vI (wr (s4.2.1 + 1)))]) (xo := x12) (xn := (⟨x12.Number, wr (s4.2.1 + 1), x12.Nonce, x12.Label, x12.Body, x12.Tag⟩ : GRecord)) hE hM noB goes_none rfl rfl rfl ty2 rfl (Flat.cell (wr (s4.2.1 + 1))) hi14.2 (fit_num (m := 1) rfl (by decide)) (fun S w cs f h => by obtain ⟨y1, y2, _, _, rfl, rfl, s1, s2⟩ := unf_GRecord h; exact sat_cast (splice_cat (pre := [[(vI x12.Number)]]) (seg := [(vI x12.Version)]) (post := [Flat.enc x12.Nonce, [y1], [y2], Flat.enc x12.Tag]) (cl1 (n := 1) (m := 0) rfl cl0) (Eq.trans rfl (Eq.symm rfl))) (pk_GRecord s1 s2 (by simp))) ?_; intro w a hM hE
      have hM := hM.toOwn noB
      refine c_fin ?_
      refine c_region ?_
      refine s_move hE goes_none (by decide) rfl ?_; intro a hE
      refine s_int hE goes_none (by decide) rfl rfl rfl ?_; intro a hE
      refine s_assign hE goes_none (by decide) rfl ?_; intro a hE
      refine c_fin ?_
      refine wp_seq ?_
      refine c_region ?_
      refine s_assign hE goes_none (by decide) rfl ?_; intro a hE
      refine c_fin ?_
      obtain ⟨j15, hl16, hF17⟩ := bind_some hs5
      refine c_cut (fun a w => Env 71 a [(0, v0_1), (1, (vI j15.2)), (5, (vI s4.2.2))] ∧ M St W w (own NoB (j15.1 : (List GRecord)) [v0_1] :: its)) ?_ ?_
      · skip
        refine wp_block ?_
        refine c_loop (fun (s18 : (List GRecord) × Int × Int) a w => Env 71 a [(0, v0_1), (1, (vI s18.2.1)), (5, (vI s4.2.2)), (6, (vI s18.2.2))] ∧ M St W w (own NoB (s18.1 : (List GRecord)) [v0_1] :: its)) hl16 ⟨hE.sub ⟨rfl, rfl, rfl, rfl, trivial⟩, hM⟩ ?_
        rintro s18 a w ⟨hE, hM⟩ o21 hs19 hx20
        unfold L1_laws_markRecordS at hs19
        refine wp_seq ?_
        refine c_region ?_
        refine s_move hE goes_none (by decide) rfl ?_; intro a hE
        refine s_int hE goes_none (by decide) rfl rfl rfl ?_; intro a hE
        refine c_fin ?_
        refine c_cond hE rfl ?_ ?_
        · intro hb22
          have hs19 := ite_t hs19 hb22
          refine wp_skip ?_
          refine c_nx ?_
          refine wp_seq ?_
          refine wp_block ?_
          refine c_region ?_
          refine s_move hE goes_none (by decide) rfl ?_; intro a hE
          refine s_move hE goes_none (by decide) rfl ?_; intro a hE
          refine s_move hE goes_none (by decide) rfl ?_; intro a hE
          refine s_move hE goes_none (by decide) rfl ?_; intro a hE
          refine s_conv hE goes_none (by decide) rfl Try.underlying3 Try.underlying5 ?_; intro a hE
          rw [byteI_val] at hE
          obtain ⟨x23, e24, hs19⟩ := bind_some hs19
          have hi25 := idx_some e24
          refine s_indexS hE goes_none (by decide) rfl rfl Try.underlying45 ty106 (hM.ro (pre := []) (fun b hb => hb.elim)) hi25.1 ?_; intro a hE
          refine s_fieldAddr hE goes_none (by decide) rfl (fd106_2) ?_; intro a hE
          obtain ⟨x27, e28, hs19⟩ := bind_some hs19
          have hi26 := vidx_some e28
          refine s_indexA hE goes_none (by decide) rfl rfl Try.underlying104 ty5 hi26.1 ?_; intro a hE
          have hM := hM.toOsl (List.getElem?_eq_some_iff.1 hi25.2).1
          refine s_storeRF (i := (s4.2.2).toNat) (k0 := 0 + 2 + (s18.2.2).toNat * 1) (seg := [(vB (byteI s18.2.1))]) (xo := x23) (xn := (⟨x23.Number, x23.Version, (x23.Nonce.setIfInBounds (s18.2.2).toNat (byteI s18.2.1)), x23.Label, x23.Body, x23.Tag⟩ : GRecord)) hE hM noB goes_none (opv_off rfl (by show _ = _ + _ * 52 + _; omega)) rfl rfl ty5 rfl (Flat.cell (byteI s18.2.1)) hi25.2 (fit_part (m := 1) hi26.1 rfl (by decide)) (fun S w cs f h => by obtain ⟨y1, y2, _, _, rfl, rfl, s1, s2⟩ := unf_GRecord h; exact sat_cast (splice_catI (pre := [[(vI x23.Number)], [(vI x23.Version)]]) (seg := Flat.enc x23.Nonce) (post := [[y1], [y2], Flat.enc x23.Tag]) (cl1 (n := 1) (m := 1) rfl (cl1 (n := 1) (m := 0) rfl cl0)) (fit_vec (v := x23.Nonce) (x := byteI s18.2.1) hi26.1) (splice_vec0 (v := x23.Nonce) (x := byteI s18.2.1) hi26.1) (by first | omega | (simp only [Flat.n]; omega))) (pk_GRecord s1 s2 (by simp))) ?_; intro w a hM hE
          have hM := hM.toOwn noB
          refine c_fin ?_
          refine wp_region_lit ?_
          refine s_move hE goes_none (by decide) rfl ?_; intro a hE
          refine s_int hE goes_none (by decide) rfl rfl rfl ?_; intro a hE
          refine s_assign hE goes_none (by decide) rfl ?_; intro a hE
          refine c_fin0 ?_
          refine c_nb ?_
          refine c_nx ?_
          refine wp_region_lit ?_
          refine s_move hE goes_none (by decide) rfl ?_; intro a hE
          refine s_int hE goes_none (by decide) rfl rfl rfl ?_; intro a hE
          refine s_assign hE goes_none (by decide) rfl ?_; intro a hE
          refine c_fin0 ?_
          refine c_mid ?_
          exact ⟨_, (Option.some.inj hs19).symm, hE.sub ⟨rfl, rfl, rfl, rfl, trivial⟩, hM⟩
        · intro hb22
          have hs19 := ite_f hs19 hb22
          refine wp_exit (e_then (e_then (e_eq ?_)))
          have ht29 := hx20 _ (Option.some.inj hs19).symm
          subst ht29
          refine c_mid ?_
          exact ⟨hE.sub ⟨rfl, rfl, rfl, trivial⟩, hM⟩
      · skip
        rintro a w ⟨hE, hM⟩
        refine c_nx ?_
        refine c_region ?_
        refine s_move hE goes_none (by decide) rfl ?_; intro a hE
        refine s_move hE goes_none (by decide) rfl ?_; intro a hE
        obtain ⟨x30, e31, hF17⟩ := bind_some hF17
        have hi32 := idx_some e31
        refine s_indexS hE goes_none (by decide) rfl rfl Try.underlying45 ty106 (hM.ro (pre := []) (fun b hb => hb.elim)) hi32.1 ?_; intro a hE
        refine s_fieldAddr hE goes_none (by decide) rfl (fd106_3) ?_; intro a hE
        have hM := (hM.toOsl (List.getElem?_eq_some_iff.1 hi32.2).1).open1 noB hi32.2
        obtain ⟨cs33, hM, hA34⟩ := hM
        obtain ⟨_, hx, _⟩ := hM.head
        obtain ⟨u35, u36, _, _, rfl, _, _, _⟩ := unf_GRecord hx
        have hM := hM.unpackL (m := [own NoB (x30.Label : (List UInt8)) [u35], own NoB (x30.Body : (List UInt8)) [u36]]) (fun fp h => by obtain ⟨_, _, rfl, s1, s2⟩ := unc_GRecord h; exact (SepR.cons (own_loc noB) s1 (SepR.one (own_loc noB) s2)))
        simp only [List.cons_append, List.nil_append] at hM
        refine s_load (v := u35) hE goes_none (by decide) rfl ty29 rfl (At.cat (pre := [[(vI x30.Number)], [(vI x30.Version)], Flat.enc x30.Nonce]) (seg := [u35]) (post := [[u36], Flat.enc x30.Tag]) hA34 (cl1 (n := 1) (m := 17) rfl (cl1 (n := 1) (m := 16) rfl (cl1 (n := 16) (m := 0) (Flat.len _) cl0)))) ?_; intro a hE
        refine s_move hE goes_none (by decide) rfl ?_; intro a hE
        obtain ⟨r39, e40, hF17⟩ := bind_some hF17
        refine s_call (vs := [u35, (vI j15.2)]) hE goes_none (by decide) rfl cb22 (c_laws_markByteS _ _ _ _ x30.Label u35 j15.2 hM r39 e40) ?_
        rintro v w a ⟨rfl, hM⟩ hE
        have hM := hM.pull (pre := [_, _])
        have hM := hM.pull (pre := [_, _])
        have hM := hM.pull (pre := [_, _])
        have hM := hM.packL (m := [own NoB (r39.1 : (List UInt8)) [u35], own NoB (x30.Body : (List UInt8)) [u36]]) (it := own NoB (⟨x30.Number, x30.Version, x30.Nonce, r39.1, x30.Body, x30.Tag⟩ : GRecord) (cat [[(vI x30.Number)], [(vI x30.Version)], Flat.enc x30.Nonce, [u35], [u36], Flat.enc x30.Tag])) (own_loc noB) (fun fp h => by obtain ⟨_, _, rfl, _, s1, _, _, rfl, _, s2, rfl⟩ := h; exact pk_GRecord s1 s2 (by simp))
        have hM := (hM.close1 noB).toOwn noB
        refine s_assign hE goes_none (by decide) rfl ?_; intro a hE
        refine c_fin ?_
        refine c_region ?_
        refine s_move hE goes_none (by decide) rfl ?_; intro a hE
        refine s_move hE goes_none (by decide) rfl ?_; intro a hE
        obtain ⟨x41, e42, hF17⟩ := bind_some hF17
        have hi43 := idx_some e42
        refine s_indexS hE goes_none (by decide) rfl rfl Try.underlying45 ty106 (hM.ro (pre := []) (fun b hb => hb.elim)) hi43.1 ?_; intro a hE
        refine s_fieldAddr hE goes_none (by decide) rfl (fd106_4) ?_; intro a hE
        have hM := (hM.toOsl (List.getElem?_eq_some_iff.1 hi43.2).1).open1 noB hi43.2
        obtain ⟨cs44, hM, hA45⟩ := hM
        obtain ⟨_, hx, _⟩ := hM.head
        obtain ⟨u46, u47, _, _, rfl, _, _, _⟩ := unf_GRecord hx
        have hM := hM.unpackL (m := [own NoB (x41.Label : (List UInt8)) [u46], own NoB (x41.Body : (List UInt8)) [u47]]) (fun fp h => by obtain ⟨_, _, rfl, s1, s2⟩ := unc_GRecord h; exact (SepR.cons (own_loc noB) s1 (SepR.one (own_loc noB) s2)))
        simp only [List.cons_append, List.nil_append] at hM
        refine s_load (v := u47) hE goes_none (by decide) rfl ty29 rfl (At.cat (pre := [[(vI x41.Number)], [(vI x41.Version)], Flat.enc x41.Nonce, [u46]]) (seg := [u47]) (post := [Flat.enc x41.Tag]) hA45 (cl1 (n := 1) (m := 18) rfl (cl1 (n := 1) (m := 17) rfl (cl1 (n := 16) (m := 1) (Flat.len _) (cl1 (n := 1) (m := 0) rfl cl0))))) ?_; intro a hE
        refine s_move hE goes_none (by decide) rfl ?_; intro a hE
        have hM := hM.pull (pre := [_])
        obtain ⟨r50, e51, hF17⟩ := bind_some hF17
        refine s_call (vs := [u47, (vI r39.2)]) hE goes_none (by decide) rfl cb22 (c_laws_markByteS _ _ _ _ x41.Body u47 r39.2 hM r50 e51) ?_
        rintro v w a ⟨rfl, hM⟩ hE
        have hM := hM.pull (pre := [_, _])
        have hM := hM.pull (pre := [_])
        have hM := hM.pull (pre := [_, _])
        have hM := hM.packL (m := [own NoB (x41.Label : (List UInt8)) [u46], own NoB (r50.1 : (List UInt8)) [u47]]) (it := own NoB (⟨x41.Number, x41.Version, x41.Nonce, x41.Label, r50.1, x41.Tag⟩ : GRecord) (cat [[(vI x41.Number)], [(vI x41.Version)], Flat.enc x41.Nonce, [u46], [u47], Flat.enc x41.Tag])) (own_loc noB) (fun fp h => by obtain ⟨_, _, rfl, _, s1, _, _, rfl, _, s2, rfl⟩ := h; exact pk_GRecord s1 s2 (by simp))
        have hM := (hM.close1 noB).toOwn noB
        refine s_assign hE goes_none (by decide) rfl ?_; intro a hE
        refine c_fin ?_
        refine c_region ?_
        refine s_assign hE goes_none (by decide) rfl ?_; intro a hE
        refine c_fin ?_
        obtain ⟨j52, hl53, hF54⟩ := bind_some hF17
        refine c_cut (fun a w => Env 71 a [(0, v0_1), (1, (vI j52.2)), (5, (vI s4.2.2))] ∧ M St W w (own NoB (j52.1 : (List GRecord)) [v0_1] :: its)) ?_ ?_
        · skip
          refine wp_block ?_
          refine c_loop (fun (s55 : (List GRecord) × Int × Int) a w => Env 71 a [(0, v0_1), (1, (vI s55.2.1)), (5, (vI s4.2.2)), (7, (vI s55.2.2))] ∧ M St W w (own NoB (s55.1 : (List GRecord)) [v0_1] :: its)) hl53 ⟨hE.sub ⟨rfl, rfl, rfl, rfl, trivial⟩, hM⟩ ?_
          rintro s55 a w ⟨hE, hM⟩ o58 hs56 hx57
          unfold L2_laws_markRecordS at hs56
          refine wp_seq ?_
          refine c_region ?_
          refine s_move hE goes_none (by decide) rfl ?_; intro a hE
          refine s_int hE goes_none (by decide) rfl rfl rfl ?_; intro a hE
          refine c_fin ?_
          refine c_cond hE rfl ?_ ?_
          · intro hb59
            have hs56 := ite_t hs56 hb59
            refine wp_skip ?_
            refine c_nx ?_
            refine wp_seq ?_
            refine wp_block ?_
            refine c_region ?_
            refine s_move hE goes_none (by decide) rfl ?_; intro a hE
            refine s_move hE goes_none (by decide) rfl ?_; intro a hE
            refine s_move hE goes_none (by decide) rfl ?_; intro a hE
            refine s_move hE goes_none (by decide) rfl ?_; intro a hE
            refine s_conv hE goes_none (by decide) rfl Try.underlying3 Try.underlying5 ?_; intro a hE
            rw [byteI_val] at hE
            obtain ⟨x60, e61, hs56⟩ := bind_some hs56
            have hi62 := idx_some e61
            refine s_indexS hE goes_none (by decide) rfl rfl Try.underlying45 ty106 (hM.ro (pre := []) (fun b hb => hb.elim)) hi62.1 ?_; intro a hE
            refine s_fieldAddr hE goes_none (by decide) rfl (fd106_5) ?_; intro a hE
            obtain ⟨x64, e65, hs56⟩ := bind_some hs56
            have hi63 := vidx_some e65
            refine s_indexA hE goes_none (by decide) rfl rfl Try.underlying47 ty5 hi63.1 ?_; intro a hE
            have hM := hM.toOsl (List.getElem?_eq_some_iff.1 hi62.2).1
            refine s_storeRF (i := (s4.2.2).toNat) (k0 := 0 + 20 + (s55.2.2).toNat * 1) (seg := [(vB (byteI s55.2.1))]) (xo := x60) (xn := (⟨x60.Number, x60.Version, x60.Nonce, x60.Label, x60.Body, (x60.Tag.setIfInBounds (s55.2.2).toNat (byteI s55.2.1))⟩ : GRecord)) hE hM noB goes_none (opv_off rfl (by show _ = _ + _ * 52 + _; omega)) rfl rfl ty5 rfl (Flat.cell (byteI s55.2.1)) hi62.2 (fit_part (m := 1) hi63.1 rfl (by decide)) (fun S w cs f h => by obtain ⟨y1, y2, _, _, rfl, rfl, s1, s2⟩ := unf_GRecord h; exact sat_cast (splice_catI (pre := [[(vI x60.Number)], [(vI x60.Version)], Flat.enc x60.Nonce, [y1], [y2]]) (seg := Flat.enc x60.Tag) (post := []) (cl1 (n := 1) (m := 19) rfl (cl1 (n := 1) (m := 18) rfl (cl1 (n := 16) (m := 2) (Flat.len _) (cl1 (n := 1) (m := 1) rfl (cl1 (n := 1) (m := 0) rfl cl0))))) (fit_vec (v := x60.Tag) (x := byteI s55.2.1) hi63.1) (splice_vec0 (v := x60.Tag) (x := byteI s55.2.1) hi63.1) (by first | omega | (simp only [Flat.n]; omega))) (pk_GRecord s1 s2 (by simp))) ?_; intro w a hM hE
            have hM := hM.toOwn noB
            refine c_fin ?_
            refine wp_region_lit ?_
            refine s_move hE goes_none (by decide) rfl ?_; intro a hE
            refine s_int hE goes_none (by decide) rfl rfl rfl ?_; intro a hE
            refine s_assign hE goes_none (by decide) rfl ?_; intro a hE
            refine c_fin0 ?_
            refine c_nb ?_
            refine c_nx ?_
            refine wp_region_lit ?_
            refine s_move hE goes_none (by decide) rfl ?_; intro a hE
            refine s_int hE goes_none (by decide) rfl rfl rfl ?_; intro a hE
            refine s_assign hE goes_none (by decide) rfl ?_; intro a hE
            refine c_fin0 ?_
            refine c_mid ?_
            exact ⟨_, (Option.some.inj hs56).symm, hE.sub ⟨rfl, rfl, rfl, rfl, trivial⟩, hM⟩
          · intro hb59
            have hs56 := ite_f hs56 hb59
            refine wp_exit (e_then (e_then (e_eq ?_)))
            have ht66 := hx57 _ (Option.some.inj hs56).symm
            subst ht66
            refine c_mid ?_
            exact ⟨hE.sub ⟨rfl, rfl, rfl, trivial⟩, hM⟩
        · skip
          rintro a w ⟨hE, hM⟩
          refine c_nb ?_
          refine c_nx ?_
          refine wp_region_lit ?_
          refine s_move hE goes_none (by decide) rfl ?_; intro a hE
          refine s_int hE goes_none (by decide) rfl rfl rfl ?_; intro a hE
          refine s_assign hE goes_none (by decide) rfl ?_; intro a hE
          refine c_fin0 ?_
          refine c_mid ?_
          exact ⟨_, (Option.some.inj hF54).symm, hE.sub ⟨rfl, rfl, rfl, trivial⟩, hM⟩
    · intro hb8
      have hs5 := ite_f hs5 hb8
      refine wp_exit (e_then (e_then (e_eq ?_)))
      have ht67 := hx6 _ (Option.some.inj hs5).symm
      subst ht67
      refine c_mid ?_
      exact ⟨hE.sub ⟨rfl, rfl, trivial⟩, hM⟩
  · skip
    rintro a w ⟨hE, hM⟩
    refine c_nx ?_
    refine c_region ?_
    refine s_move hE goes_none (by decide) rfl ?_; intro a hE
    refine s_assign hE goes_none (by decide) rfl ?_; intro a hE
    refine c_fin ?_
    have hr := Option.some.inj hF3
    subst hr
    exact wp_ret (k_ret1 hE rfl (res_tmp hE rfl) ⟨_, rfl, rfl, hM⟩)
noncomputable def L1_laws_markEventS (s4 : (List GEvent) × Int × Int) (s18 : (List GEvent) × Int × Int) : Option (Fl ((List GEvent) × Int × Int) ((List GEvent) × Int)) :=
  if (decide (s18.2.2 < 32)) = true then ((idx s18.1 s4.2.2).bind fun (x23 : GEvent) => (vidx x23.Tag s18.2.2).bind fun (x27 : UInt8) => some (Fl.nx ((s18.1.set (s4.2.2).toNat (⟨x23.Kind, x23.Number, (x23.Tag.setIfInBounds (s18.2.2).toNat (byteI s18.2.1))⟩ : GEvent)), wr (s18.2.1 + 1), wr (s18.2.2 + 1)))) else (some (Fl.ex (s18.1, s18.2.1)))
noncomputable def L0_laws_markEventS (s4 : (List GEvent) × Int × Int) : Option (Fl ((List GEvent) × Int × Int) ((List GEvent) × Int)) :=
  if (decide (s4.2.2 < (s4.1.length : Int))) = true then ((idx s4.1 s4.2.2).bind fun (x9 : GEvent) => (idx (s4.1.set (s4.2.2).toNat (⟨s4.2.1, x9.Number, x9.Tag⟩ : GEvent)) s4.2.2).bind fun (x12 : GEvent) => (iter (L1_laws_markEventS s4) (((s4.1.set (s4.2.2).toNat (⟨s4.2.1, x9.Number, x9.Tag⟩ : GEvent)).set (s4.2.2).toNat (⟨x12.Kind, wr (s4.2.1 + 1), x12.Tag⟩ : GEvent)), wr ((wr (s4.2.1 + 1)) + 1), 0) : Option ((List GEvent) × Int)).bind fun (j15 : (List GEvent) × Int) => some (Fl.nx (j15.1, j15.2, wr (s4.2.2 + 1)))) else (some (Fl.ex (s4.1, s4.2.1)))
noncomputable def F_laws_markEventS (p0 : (List GEvent)) (p1 : Int) : Option ((List GEvent) × Int) :=
  (iter (L0_laws_markEventS) (p0, p1, 0) : Option ((List GEvent) × Int)).bind fun (j1 : (List GEvent) × Int) => some (j1.1, j1.2)
set_option maxRecDepth 20000 in
set_option maxHeartbeats 400000 in
theorem c_laws_markEventS (St : Nat → Prop) (W w0 : World) (its : List Item) (p0 : (List GEvent)) (v0_1 : Value) (p1 : Int) (hM : M St W w0 (own NoB (p0 : (List GEvent)) [v0_1] :: its)) (r : (List GEvent) × Int) (hF : F_laws_markEventS p0 p1 = some r) :
    Calls Try.prog 107 [v0_1, (vI p1)].toArray w0 (fun en w' => ∃ v, en = .returned v ∧ (v = (vI r.2) ∧ M St W w' (own NoB (r.1 : (List GEvent)) [v0_1] :: its))) := by
  refine c_enter (n := 42) Try.func107 rfl rfl (Nat.le_of_ble_eq_true rfl) rfl ?_
  intro a hE
  unfold F_laws_markEventS at hF
  refine c_region ?_
  refine s_assign hE goes_none (by decide) rfl ?_; intro a hE
  refine c_fin ?_
  refine wp_seq ?_
  refine c_region ?_
  refine s_assign hE goes_none (by decide) rfl ?_; intro a hE
  refine c_fin ?_
  obtain ⟨j1, hl2, hF3⟩ := bind_some hF
  refine c_cut (fun a w => Env 42 a [(0, v0_1), (1, (vI j1.2))] ∧ M St W w (own NoB (j1.1 : (List GEvent)) [v0_1] :: its)) ?_ ?_
  · skip
    refine wp_block ?_
    refine c_loop (fun (s4 : (List GEvent) × Int × Int) a w => Env 42 a [(0, v0_1), (1, (vI s4.2.1)), (5, (vI s4.2.2))] ∧ M St W w (own NoB (s4.1 : (List GEvent)) [v0_1] :: its)) hl2 ⟨hE.sub ⟨rfl, rfl, rfl, trivial⟩, hM⟩ ?_
    rintro s4 a w ⟨hE, hM⟩ o7 hs5 hx6
    unfold L0_laws_markEventS at hs5
    refine wp_seq ?_
    refine c_region ?_
    refine s_move hE goes_none (by decide) rfl ?_; intro a hE
    refine s_move hE goes_none (by decide) rfl ?_; intro a hE
    refine s_len hE goes_none (by decide) rfl Try.underlying46 (hM.ro (pre := []) (fun b hb => hb.elim)) ?_; intro a hE
    refine s_int hE goes_none (by decide) rfl rfl rfl ?_; intro a hE
    refine c_fin ?_
    refine c_cond hE rfl ?_ ?_
    · intro hb8
      have hs5 := ite_t hs5 hb8
      refine wp_skip ?_
      refine c_nx ?_
      refine wp_seq ?_
      refine wp_block ?_
      refine c_region ?_
      refine s_move hE goes_none (by decide) rfl ?_; intro a hE
      refine s_move hE goes_none (by decide) rfl ?_; intro a hE
      refine s_move hE goes_none (by decide) rfl ?_; intro a hE
      obtain ⟨x9, e10, hs5⟩ := bind_some hs5
      have hi11 := idx_some e10
      refine s_indexS hE goes_none (by decide) rfl rfl Try.underlying46 ty109 (hM.ro (pre := []) (fun b hb => hb.elim)) hi11.1 ?_; intro a hE
      refine s_fieldAddr hE goes_none (by decide) rfl (fd109_0) ?_; intro a hE
      have hM := hM.toOsl (List.getElem?_eq_some_iff.1 hi11.2).1
      refine s_storeS (i := (s4.2.2).toNat) (k0 := 0 + 0) (seg := [(vI s4.2.1)]) (xo := x9) (xn := (⟨s4.2.1, x9.Number, x9.Tag⟩ : GEvent)) hE hM goes_none rfl rfl rfl ty2 rfl (Flat.cell s4.2.1) hi11.2 (fit_num (m := 1) rfl (by decide)) (splice_cat (pre := []) (seg := [(vI x9.Kind)]) (post := [[(vI x9.Number)], Flat.enc x9.Tag]) cl0 (Eq.trans rfl (Eq.symm rfl))) ?_; intro w a hM hE
      have hM := hM.toOwn noB
      refine c_fin ?_
      refine c_region ?_
      refine s_move hE goes_none (by decide) rfl ?_; intro a hE
      refine s_int hE goes_none (by decide) rfl rfl rfl ?_; intro a hE
      refine s_assign hE goes_none (by decide) rfl ?_; intro a hE
      refine c_fin ?_
      refine c_region ?_
      refine s_move hE goes_none (by decide) rfl ?_; intro a hE
      refine s_move hE goes_none (by decide) rfl ?_; intro a hE
      refine s_move hE goes_none (by decide) rfl ?_; intro a hE
      obtain ⟨x12, e13, hs5⟩ := bind_some hs5
      have hi14 := idx_some e13
      refine s_indexS hE goes_none (by decide) rfl rfl Try.underlying46 ty109 (hM.ro (pre := []) (fun b hb => hb.elim)) hi14.1 ?_; intro a hE
      refine s_fieldAddr hE goes_none (by decide) rfl (fd109_1) ?_; intro a hE
      have hM := hM.toOsl (List.getElem?_eq_some_iff.1 hi14.2).1
      refine s_storeS (i := (s4.2.2).toNat) (k0 := 0 + 1) (seg := [(vI (wr (s4.2.1 + 1)))]) (xo := x12) (xn := (⟨x12.Kind, wr (s4.2.1 + 1), x12.Tag⟩ : GEvent)) hE hM goes_none rfl rfl rfl ty2 rfl (Flat.cell (wr (s4.2.1 + 1))) hi14.2 (fit_num (m := 1) rfl (by decide)) (splice_cat (pre := [[(vI x12.Kind)]]) (seg := [(vI x12.Number)]) (post := [Flat.enc x12.Tag]) (cl1 (n := 1) (m := 0) rfl cl0) (Eq.trans rfl (Eq.symm rfl))) ?_; intro w a hM hE
      have hM := hM.toOwn noB
      refine c_fin ?_
      refine c_region ?_
      refine s_move hE goes_none (by decide) rfl ?_; intro a hE
      refine s_int hE goes_none (by decide) rfl rfl rfl ?_; intro a hE
      refine s_assign hE goes_none (by decide) rfl ?_; intro a hE
      refine c_fin ?_
      refine c_region ?_
      refine s_assign hE goes_none (by decide) rfl ?_; intro a hE
      refine c_fin ?_
      obtain ⟨j15, hl16, hF17⟩ := bind_some hs5
      refine c_cut (fun a w => Env 42 a [(0, v0_1), (1, (vI j15.2)), (5, (vI s4.2.2))] ∧ M St W w (own NoB (j15.1 : (List GEvent)) [v0_1] :: its)) ?_ ?_
      · skip
        refine wp_block ?_
        refine c_loop (fun (s18 : (List GEvent) × Int × Int) a w => Env 42 a [(0, v0_1), (1, (vI s18.2.1)), (5, (vI s4.2.2)), (6, (vI s18.2.2))] ∧ M St W w (own NoB (s18.1 : (List GEvent)) [v0_1] :: its)) hl16 ⟨hE.sub ⟨rfl, rfl, rfl, rfl, trivial⟩, hM⟩ ?_
        rintro s18 a w ⟨hE, hM⟩ o21 hs19 hx20
        unfold L1_laws_markEventS at hs19
        refine wp_seq ?_
        refine c_region ?_
        refine s_move hE goes_none (by decide) rfl ?_; intro a hE
        refine s_int hE goes_none (by decide) rfl rfl rfl ?_; intro a hE
        refine c_fin ?_
        refine c_cond hE rfl ?_ ?_
        · intro hb22
          have hs19 := ite_t hs19 hb22
          refine wp_skip ?_
          refine c_nx ?_
          refine wp_seq ?_
          refine wp_block ?_
          refine c_region ?_
          refine s_move hE goes_none (by decide) rfl ?_; intro a hE
          refine s_move hE goes_none (by decide) rfl ?_; intro a hE
          refine s_move hE goes_none (by decide) rfl ?_; intro a hE
          refine s_move hE goes_none (by decide) rfl ?_; intro a hE
          refine s_conv hE goes_none (by decide) rfl Try.underlying3 Try.underlying5 ?_; intro a hE
          rw [byteI_val] at hE
          obtain ⟨x23, e24, hs19⟩ := bind_some hs19
          have hi25 := idx_some e24
          refine s_indexS hE goes_none (by decide) rfl rfl Try.underlying46 ty109 (hM.ro (pre := []) (fun b hb => hb.elim)) hi25.1 ?_; intro a hE
          refine s_fieldAddr hE goes_none (by decide) rfl (fd109_2) ?_; intro a hE
          obtain ⟨x27, e28, hs19⟩ := bind_some hs19
          have hi26 := vidx_some e28
          refine s_indexA hE goes_none (by decide) rfl rfl Try.underlying47 ty5 hi26.1 ?_; intro a hE
          have hM := hM.toOsl (List.getElem?_eq_some_iff.1 hi25.2).1
          refine s_storeS (i := (s4.2.2).toNat) (k0 := 0 + 2 + (s18.2.2).toNat * 1) (seg := [(vB (byteI s18.2.1))]) (xo := x23) (xn := (⟨x23.Kind, x23.Number, (x23.Tag.setIfInBounds (s18.2.2).toNat (byteI s18.2.1))⟩ : GEvent)) hE hM goes_none (opv_off rfl (by show _ = _ + _ * 34 + _; omega)) rfl rfl ty5 rfl (Flat.cell (byteI s18.2.1)) hi25.2 (fit_part (m := 1) hi26.1 rfl (by decide)) (splice_catI (pre := [[(vI x23.Kind)], [(vI x23.Number)]]) (seg := Flat.enc x23.Tag) (post := []) (cl1 (n := 1) (m := 1) rfl (cl1 (n := 1) (m := 0) rfl cl0)) (fit_vec (v := x23.Tag) (x := byteI s18.2.1) hi26.1) (splice_vec0 (v := x23.Tag) (x := byteI s18.2.1) hi26.1) (by first | omega | (simp only [Flat.n]; omega))) ?_; intro w a hM hE
          have hM := hM.toOwn noB
          refine c_fin ?_
          refine wp_region_lit ?_
          refine s_move hE goes_none (by decide) rfl ?_; intro a hE
          refine s_int hE goes_none (by decide) rfl rfl rfl ?_; intro a hE
          refine s_assign hE goes_none (by decide) rfl ?_; intro a hE
          refine c_fin0 ?_
          refine c_nb ?_
          refine c_nx ?_
          refine wp_region_lit ?_
          refine s_move hE goes_none (by decide) rfl ?_; intro a hE
          refine s_int hE goes_none (by decide) rfl rfl rfl ?_; intro a hE
          refine s_assign hE goes_none (by decide) rfl ?_; intro a hE
          refine c_fin0 ?_
          refine c_mid ?_
          exact ⟨_, (Option.some.inj hs19).symm, hE.sub ⟨rfl, rfl, rfl, rfl, trivial⟩, hM⟩
        · intro hb22
          have hs19 := ite_f hs19 hb22
          refine wp_exit (e_then (e_then (e_eq ?_)))
          have ht29 := hx20 _ (Option.some.inj hs19).symm
          subst ht29
          refine c_mid ?_
          exact ⟨hE.sub ⟨rfl, rfl, rfl, trivial⟩, hM⟩
      · skip
        rintro a w ⟨hE, hM⟩
        refine c_nb ?_
        refine c_nx ?_
        refine wp_region_lit ?_
        refine s_move hE goes_none (by decide) rfl ?_; intro a hE
        refine s_int hE goes_none (by decide) rfl rfl rfl ?_; intro a hE
        refine s_assign hE goes_none (by decide) rfl ?_; intro a hE
        refine c_fin0 ?_
        refine c_mid ?_
        exact ⟨_, (Option.some.inj hF17).symm, hE.sub ⟨rfl, rfl, rfl, trivial⟩, hM⟩
    · intro hb8
      have hs5 := ite_f hs5 hb8
      refine wp_exit (e_then (e_then (e_eq ?_)))
      have ht30 := hx6 _ (Option.some.inj hs5).symm
      subst ht30
      refine c_mid ?_
      exact ⟨hE.sub ⟨rfl, rfl, trivial⟩, hM⟩
  · skip
    rintro a w ⟨hE, hM⟩
    refine c_nx ?_
    refine c_region ?_
    refine s_move hE goes_none (by decide) rfl ?_; intro a hE
    refine s_assign hE goes_none (by decide) rfl ?_; intro a hE
    refine c_fin ?_
    have hr := Option.some.inj hF3
    subst hr
    exact wp_ret (k_ret1 hE rfl (res_tmp hE rfl) ⟨_, rfl, rfl, hM⟩)
noncomputable def F_laws_markVault (p0 : GVault) (p1 : Int) : Option (GVault × Int) :=
  (F_laws_markBlockS p0.Keys p1).bind fun (r3 : (List (Vector UInt8 16)) × Int) => (F_laws_markRecordS p0.Records r3.2).bind fun (r5 : (List GRecord) × Int) => (F_laws_markEventS p0.Events r5.2).bind fun (r7 : (List GEvent) × Int) => some ((⟨r3.1, p0.Next, r5.1, r7.1, p0.Head⟩ : GVault), r7.2)
set_option maxRecDepth 20000 in
set_option maxHeartbeats 400000 in
theorem c_laws_markVault (St : Nat → Prop) (W w0 : World) (its : List Item) (p0 : GVault) (v0_1 : Value) (v0_2 : Value) (v0_3 : Value) (p1 : Int) (hM : M St W w0 (own NoB (p0.Keys : (List (Vector UInt8 16))) [v0_1] :: own NoB (p0.Records : (List GRecord)) [v0_2] :: own NoB (p0.Events : (List GEvent)) [v0_3] :: its)) (r : GVault × Int) (hF : F_laws_markVault p0 p1 = some r) :
    Calls Try.prog 44 [(Value.agg (cat [[v0_1], [(vI p0.Next)], [v0_2], [v0_3], Flat.enc p0.Head]).toArray), (vI p1)].toArray w0 (fun en w' => ∃ v, en = .returned v ∧ (v = (vI r.2) ∧ M St W w' (own NoB (r.1.Keys : (List (Vector UInt8 16))) [v0_1] :: own NoB (r.1.Records : (List GRecord)) [v0_2] :: own NoB (r.1.Events : (List GEvent)) [v0_3] :: its))) := by
  refine c_enter (n := 18) Try.func44 rfl rfl (Nat.le_of_ble_eq_true rfl) rfl ?_
  intro a hE
  unfold F_laws_markVault at hF
  refine c_region ?_
  refine s_box (cs := cat [[v0_1], [(vI p0.Next)], [v0_2], [v0_3], Flat.enc p0.Head]) hE hM goes_none (by decide) rfl rfl ?_; intro b1 w a hM hE
  refine s_assign hE goes_none (by decide) rfl ?_; intro a hE
  refine c_fin ?_
  refine c_region ?_
  refine s_fieldAddr hE goes_none (by decide) rfl (fd49_0) ?_; intro a hE
  refine s_load (v := v0_1) hE goes_none (by decide) rfl ty44 rfl (At.cat (pre := []) (seg := [v0_1]) (post := [[(vI p0.Next)], [v0_2], [v0_3], Flat.enc p0.Head]) (hM.rawAt (pre := [])) cl0) ?_; intro a hE
  refine s_move hE goes_none (by decide) rfl ?_; intro a hE
  have hM := hM.pull (pre := [_])
  obtain ⟨r3, e4, hF⟩ := bind_some hF
  refine s_call (vs := [v0_1, (vI p1)]) hE goes_none (by decide) rfl cb105 (c_laws_markBlockS _ _ _ _ p0.Keys v0_1 p1 hM r3 e4) ?_
  rintro v w a ⟨rfl, hM⟩ hE
  refine s_assign hE goes_none (by decide) rfl ?_; intro a hE
  refine c_fin ?_
  refine c_region ?_
  refine s_fieldAddr hE goes_none (by decide) rfl (fd49_2) ?_; intro a hE
  refine s_load (v := v0_2) hE goes_none (by decide) rfl ty45 rfl (At.cat (pre := [[v0_1], [(vI p0.Next)]]) (seg := [v0_2]) (post := [[v0_3], Flat.enc p0.Head]) (hM.rawAt (pre := [_])) (cl1 (n := 1) (m := 1) rfl (cl1 (n := 1) (m := 0) rfl cl0))) ?_; intro a hE
  refine s_move hE goes_none (by decide) rfl ?_; intro a hE
  have hM := hM.pull (pre := [_, _])
  obtain ⟨r5, e6, hF⟩ := bind_some hF
  refine s_call (vs := [v0_2, (vI r3.2)]) hE goes_none (by decide) rfl cb106 (c_laws_markRecordS _ _ _ _ p0.Records v0_2 r3.2 hM r5 e6) ?_
  rintro v w a ⟨rfl, hM⟩ hE
  refine s_assign hE goes_none (by decide) rfl ?_; intro a hE
  refine c_fin ?_
  refine c_region ?_
  refine s_fieldAddr hE goes_none (by decide) rfl (fd49_3) ?_; intro a hE
  refine s_load (v := v0_3) hE goes_none (by decide) rfl ty46 rfl (At.cat (pre := [[v0_1], [(vI p0.Next)], [v0_2]]) (seg := [v0_3]) (post := [Flat.enc p0.Head]) (hM.rawAt (pre := [_, _])) (cl1 (n := 1) (m := 2) rfl (cl1 (n := 1) (m := 1) rfl (cl1 (n := 1) (m := 0) rfl cl0)))) ?_; intro a hE
  refine s_move hE goes_none (by decide) rfl ?_; intro a hE
  have hM := hM.pull (pre := [_, _, _])
  obtain ⟨r7, e8, hF⟩ := bind_some hF
  refine s_call (vs := [v0_3, (vI r5.2)]) hE goes_none (by decide) rfl cb107 (c_laws_markEventS _ _ _ _ p0.Events v0_3 r5.2 hM r7 e8) ?_
  rintro v w a ⟨rfl, hM⟩ hE
  refine s_assign hE goes_none (by decide) rfl ?_; intro a hE
  refine c_fin ?_
  refine c_region ?_
  refine s_move hE goes_none (by decide) rfl ?_; intro a hE
  refine s_assign hE goes_none (by decide) rfl ?_; intro a hE
  refine c_fin ?_
  have hr := Option.some.inj hF
  subst hr
  have hM := hM.pull (pre := [_])
  have hM := hM.pull (pre := [_, _])
  have hM := (hM.pull (pre := [_, _, _])).drop
  exact wp_ret (k_ret1 hE rfl (res_tmp hE rfl) ⟨_, rfl, rfl, hM⟩)
noncomputable def L0_laws_markInt64S (s4 : (List Int) × Int × Int) : Option (Fl ((List Int) × Int × Int) ((List Int) × Int)) :=
  if (decide (s4.2.2 < (s4.1.length : Int))) = true then ((idx s4.1 s4.2.2).bind fun (x9 : Int) => some (Fl.nx ((s4.1.set (s4.2.2).toNat s4.2.1), wr (s4.2.1 + 1), wr (s4.2.2 + 1)))) else (some (Fl.ex (s4.1, s4.2.1)))
noncomputable def F_laws_markInt64S (p0 : (List Int)) (p1 : Int) : Option ((List Int) × Int) :=
  (iter (L0_laws_markInt64S) (p0, p1, 0) : Option ((List Int) × Int)).bind fun (j1 : (List Int) × Int) => some (j1.1, j1.2)
set_option maxRecDepth 20000 in
set_option maxHeartbeats 400000 in
theorem c_laws_markInt64S (St : Nat → Prop) (W w0 : World) (its : List Item) (p0 : (List Int)) (v0_1 : Value) (p1 : Int) (hM : M St W w0 (own NoB (p0 : (List Int)) [v0_1] :: its)) (r : (List Int) × Int) (hF : F_laws_markInt64S p0 p1 = some r) :
    Calls Try.prog 45 [v0_1, (vI p1)].toArray w0 (fun en w' => ∃ v, en = .returned v ∧ (v = (vI r.2) ∧ M St W w' (own NoB (r.1 : (List Int)) [v0_1] :: its))) := by
  refine c_enter (n := 19) Try.func45 rfl rfl (Nat.le_of_ble_eq_true rfl) rfl ?_
  intro a hE
  unfold F_laws_markInt64S at hF
  refine c_region ?_
  refine s_assign hE goes_none (by decide) rfl ?_; intro a hE
  refine c_fin ?_
  refine wp_seq ?_
  refine c_region ?_
  refine s_assign hE goes_none (by decide) rfl ?_; intro a hE
  refine c_fin ?_
  obtain ⟨j1, hl2, hF3⟩ := bind_some hF
  refine c_cut (fun a w => Env 19 a [(0, v0_1), (1, (vI j1.2))] ∧ M St W w (own NoB (j1.1 : (List Int)) [v0_1] :: its)) ?_ ?_
  · skip
    refine wp_block ?_
    refine c_loop (fun (s4 : (List Int) × Int × Int) a w => Env 19 a [(0, v0_1), (1, (vI s4.2.1)), (5, (vI s4.2.2))] ∧ M St W w (own NoB (s4.1 : (List Int)) [v0_1] :: its)) hl2 ⟨hE.sub ⟨rfl, rfl, rfl, trivial⟩, hM⟩ ?_
    rintro s4 a w ⟨hE, hM⟩ o7 hs5 hx6
    unfold L0_laws_markInt64S at hs5
    refine wp_seq ?_
    refine c_region ?_
    refine s_move hE goes_none (by decide) rfl ?_; intro a hE
    refine s_move hE goes_none (by decide) rfl ?_; intro a hE
    refine s_len hE goes_none (by decide) rfl Try.underlying66 (hM.ro (pre := []) (fun b hb => hb.elim)) ?_; intro a hE
    refine s_int hE goes_none (by decide) rfl rfl rfl ?_; intro a hE
    refine c_fin ?_
    refine c_cond hE rfl ?_ ?_
    · intro hb8
      have hs5 := ite_t hs5 hb8
      refine wp_skip ?_
      refine c_nx ?_
      refine wp_seq ?_
      refine wp_block ?_
      refine c_region ?_
      refine s_move hE goes_none (by decide) rfl ?_; intro a hE
      refine s_move hE goes_none (by decide) rfl ?_; intro a hE
      refine s_move hE goes_none (by decide) rfl ?_; intro a hE
      obtain ⟨x9, e10, hs5⟩ := bind_some hs5
      have hi11 := idx_some e10
      refine s_indexS hE goes_none (by decide) rfl rfl Try.underlying66 ty2 (hM.ro (pre := []) (fun b hb => hb.elim)) hi11.1 ?_; intro a hE
      have hM := hM.toOsl (List.getElem?_eq_some_iff.1 hi11.2).1
      refine s_storeS (i := (s4.2.2).toNat) (k0 := 0) (seg := [(vI s4.2.1)]) (xo := x9) (xn := s4.2.1) hE hM goes_none rfl rfl rfl ty2 rfl (Flat.cell s4.2.1) hi11.2 (fit_num (m := 1) rfl (by decide)) (splice_all (Eq.trans rfl (Eq.symm rfl))) ?_; intro w a hM hE
      have hM := hM.toOwn noB
      refine c_fin ?_
      refine wp_region_lit ?_
      refine s_move hE goes_none (by decide) rfl ?_; intro a hE
      refine s_int hE goes_none (by decide) rfl rfl rfl ?_; intro a hE
      refine s_assign hE goes_none (by decide) rfl ?_; intro a hE
      refine c_fin0 ?_
      refine c_nb ?_
      refine c_nx ?_
      refine wp_region_lit ?_
      refine s_move hE goes_none (by decide) rfl ?_; intro a hE
      refine s_int hE goes_none (by decide) rfl rfl rfl ?_; intro a hE
      refine s_assign hE goes_none (by decide) rfl ?_; intro a hE
      refine c_fin0 ?_
      refine c_mid ?_
      exact ⟨_, (Option.some.inj hs5).symm, hE.sub ⟨rfl, rfl, rfl, trivial⟩, hM⟩
    · intro hb8
      have hs5 := ite_f hs5 hb8
      refine wp_exit (e_then (e_then (e_eq ?_)))
      have ht12 := hx6 _ (Option.some.inj hs5).symm
      subst ht12
      refine c_mid ?_
      exact ⟨hE.sub ⟨rfl, rfl, trivial⟩, hM⟩
  · skip
    rintro a w ⟨hE, hM⟩
    refine c_nx ?_
    refine c_region ?_
    refine s_move hE goes_none (by decide) rfl ?_; intro a hE
    refine s_assign hE goes_none (by decide) rfl ?_; intro a hE
    refine c_fin ?_
    have hr := Option.some.inj hF3
    subst hr
    exact wp_ret (k_ret1 hE rfl (res_tmp hE rfl) ⟨_, rfl, rfl, hM⟩)
noncomputable def L0_laws_heldInt64S (p0 : (List Int)) (s5 : Int × Int) : Option (Fl (Int × Int) (Fl Int Int)) :=
  if (decide (s5.2 < (p0.length : Int))) = true then ((idx p0 s5.2).bind fun (x10 : Int) => if (x10 != s5.1) = true then (some (Fl.ex (Fl.ex (-1)))) else (some (Fl.nx (wr (s5.1 + 1), wr (s5.2 + 1))))) else (some (Fl.ex (Fl.nx s5.1)))
noncomputable def F_laws_heldInt64S (p0 : (List Int)) (p1 : Int) : Option (Int) :=
  (iter (L0_laws_heldInt64S p0) (p1, 0) : Option (Fl Int Int)).bind fun (j1 : Fl Int Int) => j1.el (fun (s4 : Int) => some s4) (fun r => some r)
end Go.Proofs.Ytbonmndobipbnaa
