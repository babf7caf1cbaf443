/- The walk of what the law reaches: contracts of functions. -/
import Derived.Test.YtbonmndobipbnaaC1
set_option linter.unusedVariables false
set_option linter.unusedSimpArgs false
namespace Go.Proofs.Ytbonmndobipbnaa
open Go
set_option maxRecDepth 20000 in
set_option maxHeartbeats 400000 in
theorem c_laws_eqBlock (w0 : World) (p0 : (Vector UInt8 16)) (p1 : (Vector UInt8 16)) (r : Bool) (hF : F_laws_eqBlock p0 p1 = some r) :
    Calls Try.prog 132 [(Value.agg (Flat.enc p0).toArray), (Value.agg (Flat.enc p1).toArray)].toArray w0 (fun en w' => ∃ v, en = .returned v ∧ (v = (vT r) ∧ Kept (Old w0) w0 w')) := by
  refine c_enter (n := 17) Try.func132 rfl rfl (Nat.le_of_ble_eq_true rfl) rfl ?_
  intro a hE
  have hM := M.start w0
  unfold F_laws_eqBlock at hF
  refine c_region ?_
  refine s_box (cs := Flat.enc p0) hE hM goes_none (by decide) rfl rfl ?_; intro b1 w a hM hE
  refine s_box (cs := Flat.enc p1) hE hM goes_none (by decide) rfl rfl ?_; intro b3 w a hM hE
  refine s_assign hE goes_none (by decide) rfl ?_; intro a hE
  refine c_fin ?_
  refine wp_seq ?_
  refine c_region ?_
  refine s_assign hE goes_none (by decide) rfl ?_; intro a hE
  refine c_fin ?_
  obtain ⟨j5, hl6, hF7⟩ := bind_some hF
  refine c_cut (fun a w => ∃ s8 : Unit, j5 = Fl.nx s8 ∧ Env 17 a [] ∧ M (Old w0) w0 w []) ?_ ?_
  · skip
    refine wp_block ?_
    refine c_loop (fun (s9 : Int) a w => Env 17 a [(2, (ptr b1 0)), (3, (ptr b3 0)), (5, (vI s9))] ∧ M (Old w0) w0 w [raw b3 (Flat.enc p1), raw b1 (Flat.enc p0)]) hl6 ⟨hE.sub ⟨rfl, rfl, rfl, trivial⟩, hM⟩ ?_
    rintro s9 a w ⟨hE, hM⟩ o12 hs10 hx11
    unfold L0_laws_eqBlock at hs10
    refine wp_seq ?_
    refine c_region ?_
    refine s_move hE goes_none (by decide) rfl ?_; intro a hE
    refine s_int hE goes_none (by decide) rfl rfl rfl ?_; intro a hE
    refine c_fin ?_
    refine c_cond hE rfl ?_ ?_
    · intro hb13
      have hs10 := ite_t hs10 hb13
      refine wp_skip ?_
      refine c_nx ?_
      refine wp_seq ?_
      refine wp_block ?_
      obtain ⟨j14, hl15, hF16⟩ := bind_some hs10
      refine c_join (fun a w => Env 17 a [(2, (ptr b1 0)), (3, (ptr b3 0)), (5, (vI s9)), (16, (vT j14))] ∧ M (Old w0) w0 w [raw b3 (Flat.enc p1), raw b1 (Flat.enc p0)]) ?_ ?_
      · skip
        obtain ⟨x19, e20, hl15⟩ := bind_some hl15
        have hi18 := vidx_some e20
        obtain ⟨x22, e23, hl15⟩ := bind_some hl15
        have hi21 := vidx_some e23
        refine c_draw (n := 17) (hd := [_, _, _, _, _, _, _]) (tl := []) hmix rfl rfl [10, 11, 12, 13, 14, 15, 16] (by decide) (fun w => M (Old w0) w0 w [raw b3 (Flat.enc p1), raw b1 (Flat.enc p0)]) (fun j => ([fun v _ => v = (vI s9), fun v _ => v = (ptr b1 (0 + (s9).toNat * 1)), fun v _ => v = (vB x19), fun v _ => v = (vI s9), fun v _ => v = (ptr b3 (0 + (s9).toNat * 1)), fun v _ => v = (vB x22), fun v _ => v = (vT (x19 != x22))] : List (Value → World → Prop)).getD j (fun _ _ => True)) (fun _ _ h hk => h.keep hk) (gup (gupE (gupE (gupE (gupE (gupE (gupE (gupE gupN)))))))) hE hM.drew (steps_of (steps_cons ?_ (steps_cons ?_ (steps_cons ?_ (steps_cons ?_ (steps_cons ?_ (steps_cons ?_ (steps_cons ?_ steps_nil)))))))) ?_
        · intro a w ux17 hE hM hp
          refine s_move hE goes_none (by decide) rfl ?_; intro a hE
          exact ⟨Kept.refl _ _, _, _, rfl, hE, rfl⟩
        · intro a w ux17 hE hM hp
          have f0 : ux17 0 = (vI s9) := hp 0 _ rfl rfl
          refine s_indexA hE goes_none (by decide) rfl (lk rfl f0) Try.underlying104 ty5 hi18.1 ?_; intro a hE
          exact ⟨Kept.refl _ _, _, _, rfl, hE, rfl⟩
        · intro a w ux17 hE hM hp
          have f1 : ux17 1 = (ptr b1 (0 + (s9).toNat * 1)) := hp 0 _ rfl rfl
          refine s_load (v := (vB x19)) hE goes_none (by decide) (lk rfl f1) ty5 rfl (At.vec (hM.rawAt (pre := [_])) hi18.2) ?_; intro a hE
          exact ⟨Kept.refl _ _, _, _, rfl, hE, rfl⟩
        · intro a w ux17 hE hM hp
          refine s_move hE goes_none (by decide) rfl ?_; intro a hE
          exact ⟨Kept.refl _ _, _, _, rfl, hE, rfl⟩
        · intro a w ux17 hE hM hp
          have f3 : ux17 3 = (vI s9) := hp 0 _ rfl rfl
          refine s_indexA hE goes_none (by decide) rfl (lk rfl f3) Try.underlying104 ty5 hi21.1 ?_; intro a hE
          exact ⟨Kept.refl _ _, _, _, rfl, hE, rfl⟩
        · intro a w ux17 hE hM hp
          have f4 : ux17 4 = (ptr b3 (0 + (s9).toNat * 1)) := hp 0 _ rfl rfl
          refine s_load (v := (vB x22)) hE goes_none (by decide) (lk rfl f4) ty5 rfl (At.vec (hM.rawAt (pre := [])) hi21.2) ?_; intro a hE
          exact ⟨Kept.refl _ _, _, _, rfl, hE, rfl⟩
        · intro a w ux17 hE hM hp
          have f2 : ux17 2 = (vB x19) := hp 0 _ rfl rfl
          have f5 : ux17 5 = (vB x22) := hp 1 _ rfl rfl
          refine s_int hE goes_none (by decide) (lk rfl f2) (lk rfl f5) (bB_neq x19 x22) ?_; intro a hE
          exact ⟨Kept.refl _ _, _, _, rfl, hE, rfl⟩
        · intro a w ux17 hE hM hg
          have f0 : ux17 0 = (vI s9) := hg 0 (by decide)
          have f1 : ux17 1 = (ptr b1 (0 + (s9).toNat * 1)) := hg 1 (by decide)
          have f2 : ux17 2 = (vB x19) := hg 2 (by decide)
          have f3 : ux17 3 = (vI s9) := hg 3 (by decide)
          have f4 : ux17 4 = (ptr b3 (0 + (s9).toNat * 1)) := hg 4 (by decide)
          have f5 : ux17 5 = (vB x22) := hg 5 (by decide)
          have f6 : ux17 6 = (vT (x19 != x22)) := hg 6 (by decide)
          have hE := hE.sub (e' := [(10, (vI s9)), (11, (ptr b1 (0 + (s9).toNat * 1))), (12, (vB x19)), (13, (vI s9)), (14, (ptr b3 (0 + (s9).toNat * 1))), (15, (vB x22)), (16, (vT (x19 != x22))), (2, (ptr b1 0)), (3, (ptr b3 0)), (5, (vI s9)), (6, (vI s9)), (7, (vT (decide (s9 < 16))))]) ⟨lk rfl f0, lk rfl f1, lk rfl f2, lk rfl f3, lk rfl f4, lk rfl f5, lk rfl f6, rfl, rfl, rfl, rfl, rfl, trivial⟩
          refine c_fin0 ?_
          have ht24 := Option.some.inj hl15
          subst ht24
          refine c_mid ?_
          exact ⟨hE.sub ⟨rfl, rfl, rfl, rfl, trivial⟩, hM⟩
      · skip
        rintro a w ⟨hE, hM⟩
        refine c_cond hE rfl ?_ ?_
        · intro hb25
          have hF16 := ite_t hF16 hb25
          refine c_region ?_
          refine s_assign hE goes_none (by decide) rfl ?_; intro a hE
          refine c_fin ?_
          have ht26 := hx11 _ (Option.some.inj hF16).symm
          subst ht26
          have hr := Option.some.inj hF7
          subst hr
          have hM := M.fst (l := []) hM
          exact wp_ret (r_inb (r_then (r_then (r_inb (r_then (r_then (k_ret1 hE rfl (res_tmp hE rfl) ⟨_, rfl, rfl, hM.kept⟩)))))))
        · intro hb25
          have hF16 := ite_f hF16 hb25
          refine wp_skip ?_
          refine c_nb ?_
          refine c_nx ?_
          refine wp_region_lit ?_
          refine s_move hE goes_none (by decide) rfl ?_; intro a hE
          refine s_int hE goes_none (by decide) rfl rfl rfl ?_; intro a hE
          refine s_assign hE goes_none (by decide) rfl ?_; intro a hE
          refine c_fin0 ?_
          refine c_mid ?_
          exact ⟨_, (Option.some.inj hF16).symm, hE.sub ⟨rfl, rfl, rfl, trivial⟩, hM⟩
    · intro hb13
      have hs10 := ite_f hs10 hb13
      refine wp_exit (e_then (e_then (e_eq ?_)))
      have ht27 := hx11 _ (Option.some.inj hs10).symm
      subst ht27
      refine c_mid ?_
      have hM := M.fst (l := []) hM
      exact ⟨(), rfl, hE.sub trivial, hM⟩
  · skip
    rintro a w ⟨s8, ht, hE, hM⟩
    subst ht
    refine c_nx ?_
    refine c_region ?_
    refine s_assign hE goes_none (by decide) rfl ?_; intro a hE
    refine c_fin ?_
    have hr := Option.some.inj hF7
    subst hr
    exact wp_ret (k_ret1 hE rfl (res_tmp hE rfl) ⟨_, rfl, rfl, hM.kept⟩)
noncomputable def L0_laws_eqBlockS (p0 : (List (Vector UInt8 16))) (p1 : (List (Vector UInt8 16))) (s6 : Int) : Option (Fl Int (Fl Unit Bool)) :=
  if (decide (s6 < (p0.length : Int))) = true then (((idx p0 s6).bind fun (x15 : (Vector UInt8 16)) => (idx p1 s6).bind fun (x18 : (Vector UInt8 16)) => (F_laws_eqBlock x15 x18).bind fun (r21 : Bool) => some (!r21) : Option (Bool)).bind fun (j11 : Bool) => if j11 = true then (some (Fl.ex (Fl.ex false))) else (some (Fl.nx (wr (s6 + 1))))) else (some (Fl.ex (Fl.nx ())))
noncomputable def F_laws_eqBlockS (p0 : (List (Vector UInt8 16))) (p1 : (List (Vector UInt8 16))) : Option (Bool) :=
  if ((p0.length : Int) != (p1.length : Int)) = true then (some false) else ((iter (L0_laws_eqBlockS p0 p1) 0 : Option (Fl Unit Bool)).bind fun (j2 : Fl Unit Bool) => j2.el (fun (s5 : Unit) => some true) (fun r => some r))
set_option maxRecDepth 20000 in
set_option maxHeartbeats 400000 in
theorem c_laws_eqBlockS (w0 : World) (p0 : (List (Vector UInt8 16))) (v0_1 : Value) (hv0_1 : Ro w0 p0 [v0_1]) (p1 : (List (Vector UInt8 16))) (v1_1 : Value) (hv1_1 : Ro w0 p1 [v1_1]) (r : Bool) (hF : F_laws_eqBlockS p0 p1 = some r) :
    Calls Try.prog 85 [v0_1, v1_1].toArray w0 (fun en w' => ∃ v, en = .returned v ∧ (v = (vT r) ∧ Kept (Old w0) w0 w')) := by
  refine c_enter (n := 27) Try.func85 rfl rfl (Nat.le_of_ble_eq_true rfl) rfl ?_
  intro a hE
  have hM := M.start w0
  unfold F_laws_eqBlockS at hF
  refine c_region ?_
  refine s_assign hE goes_none (by decide) rfl ?_; intro a hE
  refine c_fin ?_
  refine wp_seq ?_
  refine c_region ?_
  refine s_move hE goes_none (by decide) rfl ?_; intro a hE
  refine s_len hE goes_none (by decide) rfl Try.underlying44 (hM.rd hv0_1) ?_; intro a hE
  refine s_move hE goes_none (by decide) rfl ?_; intro a hE
  refine s_len hE goes_none (by decide) rfl Try.underlying44 (hM.rd hv1_1) ?_; intro a hE
  refine s_int hE goes_none (by decide) rfl rfl rfl ?_; intro a hE
  refine c_fin ?_
  refine c_cond hE rfl ?_ ?_
  · intro hb1
    have hF := ite_t hF hb1
    refine c_region ?_
    refine s_assign hE goes_none (by decide) rfl ?_; intro a hE
    refine c_fin ?_
    have hr := Option.some.inj hF
    subst hr
    exact wp_ret (r_then (k_ret1 hE rfl (res_tmp hE rfl) ⟨_, rfl, rfl, hM.kept⟩))
  · intro hb1
    have hF := ite_f hF hb1
    refine wp_skip ?_
    refine c_nx ?_
    refine wp_seq ?_
    refine c_region ?_
    refine s_assign hE goes_none (by decide) rfl ?_; intro a hE
    refine c_fin ?_
    obtain ⟨j2, hl3, hF4⟩ := bind_some hF
    refine c_cut (fun a w => ∃ s5 : Unit, j2 = Fl.nx s5 ∧ Env 27 a [] ∧ M (Old w0) w0 w []) ?_ ?_
    · skip
      refine wp_block ?_
      refine c_loop (fun (s6 : Int) a w => Env 27 a [(0, v0_1), (1, v1_1), (5, (vI s6))] ∧ M (Old w0) w0 w []) hl3 ⟨hE.sub ⟨rfl, rfl, rfl, trivial⟩, hM⟩ ?_
      rintro s6 a w ⟨hE, hM⟩ o9 hs7 hx8
      unfold L0_laws_eqBlockS at hs7
      refine wp_seq ?_
      refine c_region ?_
      refine s_move hE goes_none (by decide) rfl ?_; intro a hE
      refine s_move hE goes_none (by decide) rfl ?_; intro a hE
      refine s_len hE goes_none (by decide) rfl Try.underlying44 (hM.rd hv0_1) ?_; intro a hE
      refine s_int hE goes_none (by decide) rfl rfl rfl ?_; intro a hE
      refine c_fin ?_
      refine c_cond hE rfl ?_ ?_
      · intro hb10
        have hs7 := ite_t hs7 hb10
        refine wp_skip ?_
        refine c_nx ?_
        refine wp_seq ?_
        refine wp_block ?_
        obtain ⟨j11, hl12, hF13⟩ := bind_some hs7
        refine c_join (fun a w => Env 27 a [(0, v0_1), (1, v1_1), (5, (vI s6)), (26, (vT j11))] ∧ M (Old w0) w0 w []) ?_ ?_
        · skip
          obtain ⟨x15, e16, hl12⟩ := bind_some hl12
          have hi17 := idx_some e16
          obtain ⟨x18, e19, hl12⟩ := bind_some hl12
          have hi20 := idx_some e19
          obtain ⟨r21, e22, hl12⟩ := bind_some hl12
          refine c_draw (n := 27) (hd := [_, _, _, _, _, _, _, _, _, _]) (tl := []) hmix rfl rfl [17, 18, 19, 20, 21, 22, 23, 24, 25, 26] (by decide) (fun w => M (Old w0) w0 w []) (fun j => ([fun v _ => v = v0_1, fun v _ => v = (vI s6), fun v _ => v = (ptr (sb v0_1) (so v0_1 + (s6).toNat * 16)), fun v _ => v = (Value.agg (Flat.enc x15).toArray), fun v _ => v = v1_1, fun v _ => v = (vI s6), fun v _ => v = (ptr (sb v1_1) (so v1_1 + (s6).toNat * 16)), fun v _ => v = (Value.agg (Flat.enc x18).toArray), fun v _ => v = (vT r21), fun v _ => v = (vT (!r21))] : List (Value → World → Prop)).getD j (fun _ _ => True)) (fun _ _ h hk => h.keep hk) (gup (gupE (gupE (gupE (gupE (gupE (gupE (gupE (gupE (gupE (gupE gupN))))))))))) hE hM.drew (steps_of (steps_cons ?_ (steps_cons ?_ (steps_cons ?_ (steps_cons ?_ (steps_cons ?_ (steps_cons ?_ (steps_cons ?_ (steps_cons ?_ (steps_cons ?_ (steps_cons ?_ steps_nil))))))))))) ?_
          · intro a w ux14 hE hM hp
            refine s_move hE goes_none (by decide) rfl ?_; intro a hE
            exact ⟨Kept.refl _ _, _, _, rfl, hE, rfl⟩
          · intro a w ux14 hE hM hp
            refine s_move hE goes_none (by decide) rfl ?_; intro a hE
            exact ⟨Kept.refl _ _, _, _, rfl, hE, rfl⟩
          · intro a w ux14 hE hM hp
            have f0 : ux14 0 = v0_1 := hp 0 _ rfl rfl
            have f1 : ux14 1 = (vI s6) := hp 1 _ rfl rfl
            refine s_indexS hE goes_none (by decide) (lk rfl f0) (lk rfl f1) Try.underlying44 ty104 (hM.rd hv0_1) hi17.1 ?_; intro a hE
            exact ⟨Kept.refl _ _, _, _, rfl, hE, rfl⟩
          · intro a w ux14 hE hM hp
            have f2 : ux14 2 = (ptr (sb v0_1) (so v0_1 + (s6).toNat * 16)) := hp 0 _ rfl rfl
            refine s_loadA (cs := Flat.enc x15) hE goes_none (by decide) (lk rfl f2) ty104 rfl (sl_atF (hM.rd hv0_1) hi17.2) (Flat.len _) ?_; intro a hE
            exact ⟨Kept.refl _ _, _, _, rfl, hE, rfl⟩
          · intro a w ux14 hE hM hp
            refine s_move hE goes_none (by decide) rfl ?_; intro a hE
            exact ⟨Kept.refl _ _, _, _, rfl, hE, rfl⟩
          · intro a w ux14 hE hM hp
            refine s_move hE goes_none (by decide) rfl ?_; intro a hE
            exact ⟨Kept.refl _ _, _, _, rfl, hE, rfl⟩
          · intro a w ux14 hE hM hp
            have f4 : ux14 4 = v1_1 := hp 0 _ rfl rfl
            have f5 : ux14 5 = (vI s6) := hp 1 _ rfl rfl
            refine s_indexS hE goes_none (by decide) (lk rfl f4) (lk rfl f5) Try.underlying44 ty104 (hM.rd hv1_1) hi20.1 ?_; intro a hE
            exact ⟨Kept.refl _ _, _, _, rfl, hE, rfl⟩
          · intro a w ux14 hE hM hp
            have f6 : ux14 6 = (ptr (sb v1_1) (so v1_1 + (s6).toNat * 16)) := hp 0 _ rfl rfl
            refine s_loadA (cs := Flat.enc x18) hE goes_none (by decide) (lk rfl f6) ty104 rfl (sl_atF (hM.rd hv1_1) hi20.2) (Flat.len _) ?_; intro a hE
            exact ⟨Kept.refl _ _, _, _, rfl, hE, rfl⟩
          · intro a w ux14 hE hM hp
            have f3 : ux14 3 = (Value.agg (Flat.enc x15).toArray) := hp 0 _ rfl rfl
            have f7 : ux14 7 = (Value.agg (Flat.enc x18).toArray) := hp 1 _ rfl rfl
            refine s_call (vs := [(Value.agg (Flat.enc x15).toArray), (Value.agg (Flat.enc x18).toArray)]) hE goes_none (by decide) (evs_of (evsC (lk rfl f3) (evsC (lk rfl f7) evsN))) cb132 (c_laws_eqBlock _ x15 x18 r21 e22) ?_
            rintro v w a ⟨rfl, hK⟩ hE
            exact ⟨hK, _, _, rfl, hE, rfl⟩
          · intro a w ux14 hE hM hp
            have f8 : ux14 8 = (vT r21) := hp 0 _ rfl rfl
            refine s_not hE goes_none (by decide) (lk rfl f8) ?_; intro a hE
            exact ⟨Kept.refl _ _, _, _, rfl, hE, rfl⟩
          · intro a w ux14 hE hM hg
            have f0 : ux14 0 = v0_1 := hg 0 (by decide)
            have f1 : ux14 1 = (vI s6) := hg 1 (by decide)
            have f2 : ux14 2 = (ptr (sb v0_1) (so v0_1 + (s6).toNat * 16)) := hg 2 (by decide)
            have f3 : ux14 3 = (Value.agg (Flat.enc x15).toArray) := hg 3 (by decide)
            have f4 : ux14 4 = v1_1 := hg 4 (by decide)
            have f5 : ux14 5 = (vI s6) := hg 5 (by decide)
            have f6 : ux14 6 = (ptr (sb v1_1) (so v1_1 + (s6).toNat * 16)) := hg 6 (by decide)
            have f7 : ux14 7 = (Value.agg (Flat.enc x18).toArray) := hg 7 (by decide)
            have f8 : ux14 8 = (vT r21) := hg 8 (by decide)
            have f9 : ux14 9 = (vT (!r21)) := hg 9 (by decide)
            have hE := hE.sub (e' := [(17, v0_1), (18, (vI s6)), (19, (ptr (sb v0_1) (so v0_1 + (s6).toNat * 16))), (20, (Value.agg (Flat.enc x15).toArray)), (21, v1_1), (22, (vI s6)), (23, (ptr (sb v1_1) (so v1_1 + (s6).toNat * 16))), (24, (Value.agg (Flat.enc x18).toArray)), (25, (vT r21)), (26, (vT (!r21))), (0, v0_1), (1, v1_1), (5, (vI s6)), (11, (vI s6)), (12, v0_1), (13, (vI (p0.length : Int))), (14, (vT (decide (s6 < (p0.length : Int)))))]) ⟨lk rfl f0, lk rfl f1, lk rfl f2, lk rfl f3, lk rfl f4, lk rfl f5, lk rfl f6, lk rfl f7, lk rfl f8, lk rfl f9, rfl, rfl, rfl, rfl, rfl, rfl, rfl, trivial⟩
            refine c_fin0 ?_
            have ht23 := Option.some.inj hl12
            subst ht23
            refine c_mid ?_
            exact ⟨hE.sub ⟨rfl, rfl, rfl, rfl, trivial⟩, hM⟩
        · skip
          rintro a w ⟨hE, hM⟩
          refine c_cond hE rfl ?_ ?_
          · intro hb24
            have hF13 := ite_t hF13 hb24
            refine c_region ?_
            refine s_assign hE goes_none (by decide) rfl ?_; intro a hE
            refine c_fin ?_
            have ht25 := hx8 _ (Option.some.inj hF13).symm
            subst ht25
            have hr := Option.some.inj hF4
            subst hr
            exact wp_ret (r_inb (r_then (r_then (r_inb (r_then (r_then (k_ret1 hE rfl (res_tmp hE rfl) ⟨_, rfl, rfl, hM.kept⟩)))))))
          · intro hb24
            have hF13 := ite_f hF13 hb24
            refine wp_skip ?_
            refine c_nb ?_
            refine c_nx ?_
            refine wp_region_lit ?_
            refine s_move hE goes_none (by decide) rfl ?_; intro a hE
            refine s_int hE goes_none (by decide) rfl rfl rfl ?_; intro a hE
            refine s_assign hE goes_none (by decide) rfl ?_; intro a hE
            refine c_fin0 ?_
            refine c_mid ?_
            exact ⟨_, (Option.some.inj hF13).symm, hE.sub ⟨rfl, rfl, rfl, trivial⟩, hM⟩
      · intro hb10
        have hs7 := ite_f hs7 hb10
        refine wp_exit (e_then (e_then (e_eq ?_)))
        have ht26 := hx8 _ (Option.some.inj hs7).symm
        subst ht26
        refine c_mid ?_
        exact ⟨(), rfl, hE.sub trivial, hM⟩
    · skip
      rintro a w ⟨s5, ht, hE, hM⟩
      subst ht
      refine c_nx ?_
      refine c_region ?_
      refine s_assign hE goes_none (by decide) rfl ?_; intro a hE
      refine c_fin ?_
      have hr := Option.some.inj hF4
      subst hr
      exact wp_ret (k_ret1 hE rfl (res_tmp hE rfl) ⟨_, rfl, rfl, hM.kept⟩)
noncomputable def L0_laws_eqByteS (p0 : (List UInt8)) (p1 : (List UInt8)) (s6 : Int) : Option (Fl Int (Fl Unit Bool)) :=
  if (decide (s6 < (p0.length : Int))) = true then (((idx p0 s6).bind fun (x15 : UInt8) => (idx p1 s6).bind fun (x18 : UInt8) => some (x15 != x18) : Option (Bool)).bind fun (j11 : Bool) => if j11 = true then (some (Fl.ex (Fl.ex false))) else (some (Fl.nx (wr (s6 + 1))))) else (some (Fl.ex (Fl.nx ())))
noncomputable def F_laws_eqByteS (p0 : (List UInt8)) (p1 : (List UInt8)) : Option (Bool) :=
  if ((p0.length : Int) != (p1.length : Int)) = true then (some false) else ((iter (L0_laws_eqByteS p0 p1) 0 : Option (Fl Unit Bool)).bind fun (j2 : Fl Unit Bool) => j2.el (fun (s5 : Unit) => some true) (fun r => some r))
set_option maxRecDepth 20000 in
set_option maxHeartbeats 400000 in
theorem c_laws_eqByteS (w0 : World) (p0 : (List UInt8)) (v0_1 : Value) (hv0_1 : Ro w0 p0 [v0_1]) (p1 : (List UInt8)) (v1_1 : Value) (hv1_1 : Ro w0 p1 [v1_1]) (r : Bool) (hF : F_laws_eqByteS p0 p1 = some r) :
    Calls Try.prog 21 [v0_1, v1_1].toArray w0 (fun en w' => ∃ v, en = .returned v ∧ (v = (vT r) ∧ Kept (Old w0) w0 w')) := by
  refine c_enter (n := 26) Try.func21 rfl rfl (Nat.le_of_ble_eq_true rfl) rfl ?_
  intro a hE
  have hM := M.start w0
  unfold F_laws_eqByteS at hF
  refine c_region ?_
  refine s_assign hE goes_none (by decide) rfl ?_; intro a hE
  refine c_fin ?_
  refine wp_seq ?_
  refine c_region ?_
  refine s_move hE goes_none (by decide) rfl ?_; intro a hE
  refine s_len hE goes_none (by decide) rfl Try.underlying29 (hM.rd hv0_1) ?_; intro a hE
  refine s_move hE goes_none (by decide) rfl ?_; intro a hE
  refine s_len hE goes_none (by decide) rfl Try.underlying29 (hM.rd hv1_1) ?_; intro a hE
  refine s_int hE goes_none (by decide) rfl rfl rfl ?_; intro a hE
  refine c_fin ?_
  refine c_cond hE rfl ?_ ?_
  · intro hb1
    have hF := ite_t hF hb1
    refine c_region ?_
    refine s_assign hE goes_none (by decide) rfl ?_; intro a hE
    refine c_fin ?_
    have hr := Option.some.inj hF
    subst hr
    exact wp_ret (r_then (k_ret1 hE rfl (res_tmp hE rfl) ⟨_, rfl, rfl, hM.kept⟩))
  · intro hb1
    have hF := ite_f hF hb1
    refine wp_skip ?_
    refine c_nx ?_
    refine wp_seq ?_
    refine c_region ?_
    refine s_assign hE goes_none (by decide) rfl ?_; intro a hE
    refine c_fin ?_
    obtain ⟨j2, hl3, hF4⟩ := bind_some hF
    refine c_cut (fun a w => ∃ s5 : Unit, j2 = Fl.nx s5 ∧ Env 26 a [] ∧ M (Old w0) w0 w []) ?_ ?_
    · skip
      refine wp_block ?_
      refine c_loop (fun (s6 : Int) a w => Env 26 a [(0, v0_1), (1, v1_1), (5, (vI s6))] ∧ M (Old w0) w0 w []) hl3 ⟨hE.sub ⟨rfl, rfl, rfl, trivial⟩, hM⟩ ?_
      rintro s6 a w ⟨hE, hM⟩ o9 hs7 hx8
      unfold L0_laws_eqByteS at hs7
      refine wp_seq ?_
      refine c_region ?_
      refine s_move hE goes_none (by decide) rfl ?_; intro a hE
      refine s_move hE goes_none (by decide) rfl ?_; intro a hE
      refine s_len hE goes_none (by decide) rfl Try.underlying29 (hM.rd hv0_1) ?_; intro a hE
      refine s_int hE goes_none (by decide) rfl rfl rfl ?_; intro a hE
      refine c_fin ?_
      refine c_cond hE rfl ?_ ?_
      · intro hb10
        have hs7 := ite_t hs7 hb10
        refine wp_skip ?_
        refine c_nx ?_
        refine wp_seq ?_
        refine wp_block ?_
        obtain ⟨j11, hl12, hF13⟩ := bind_some hs7
        refine c_join (fun a w => Env 26 a [(0, v0_1), (1, v1_1), (5, (vI s6)), (25, (vT j11))] ∧ M (Old w0) w0 w []) ?_ ?_
        · skip
          obtain ⟨x15, e16, hl12⟩ := bind_some hl12
          have hi17 := idx_some e16
          obtain ⟨x18, e19, hl12⟩ := bind_some hl12
          have hi20 := idx_some e19
          refine c_draw (n := 26) (hd := [_, _, _, _, _, _, _, _, _]) (tl := []) hmix rfl rfl [17, 18, 19, 20, 21, 22, 23, 24, 25] (by decide) (fun w => M (Old w0) w0 w []) (fun j => ([fun v _ => v = v0_1, fun v _ => v = (vI s6), fun v _ => v = (ptr (sb v0_1) (so v0_1 + (s6).toNat * 1)), fun v _ => v = (vB x15), fun v _ => v = v1_1, fun v _ => v = (vI s6), fun v _ => v = (ptr (sb v1_1) (so v1_1 + (s6).toNat * 1)), fun v _ => v = (vB x18), fun v _ => v = (vT (x15 != x18))] : List (Value → World → Prop)).getD j (fun _ _ => True)) (fun _ _ h hk => h.keep hk) (gup (gupE (gupE (gupE (gupE (gupE (gupE (gupE (gupE (gupE gupN)))))))))) hE hM.drew (steps_of (steps_cons ?_ (steps_cons ?_ (steps_cons ?_ (steps_cons ?_ (steps_cons ?_ (steps_cons ?_ (steps_cons ?_ (steps_cons ?_ (steps_cons ?_ steps_nil)))))))))) ?_
          · intro a w ux14 hE hM hp
            refine s_move hE goes_none (by decide) rfl ?_; intro a hE
            exact ⟨Kept.refl _ _, _, _, rfl, hE, rfl⟩
          · intro a w ux14 hE hM hp
            refine s_move hE goes_none (by decide) rfl ?_; intro a hE
            exact ⟨Kept.refl _ _, _, _, rfl, hE, rfl⟩
          · intro a w ux14 hE hM hp
            have f0 : ux14 0 = v0_1 := hp 0 _ rfl rfl
            have f1 : ux14 1 = (vI s6) := hp 1 _ rfl rfl
            refine s_indexS hE goes_none (by decide) (lk rfl f0) (lk rfl f1) Try.underlying29 ty5 (hM.rd hv0_1) hi17.1 ?_; intro a hE
            exact ⟨Kept.refl _ _, _, _, rfl, hE, rfl⟩
          · intro a w ux14 hE hM hp
            have f2 : ux14 2 = (ptr (sb v0_1) (so v0_1 + (s6).toNat * 1)) := hp 0 _ rfl rfl
            refine s_load (v := (vB x15)) hE goes_none (by decide) (lk rfl f2) ty5 rfl (sl_atF (hM.rd hv0_1) hi17.2) ?_; intro a hE
            exact ⟨Kept.refl _ _, _, _, rfl, hE, rfl⟩
          · intro a w ux14 hE hM hp
            refine s_move hE goes_none (by decide) rfl ?_; intro a hE
            exact ⟨Kept.refl _ _, _, _, rfl, hE, rfl⟩
          · intro a w ux14 hE hM hp
            refine s_move hE goes_none (by decide) rfl ?_; intro a hE
            exact ⟨Kept.refl _ _, _, _, rfl, hE, rfl⟩
          · intro a w ux14 hE hM hp
            have f4 : ux14 4 = v1_1 := hp 0 _ rfl rfl
            have f5 : ux14 5 = (vI s6) := hp 1 _ rfl rfl
            refine s_indexS hE goes_none (by decide) (lk rfl f4) (lk rfl f5) Try.underlying29 ty5 (hM.rd hv1_1) hi20.1 ?_; intro a hE
            exact ⟨Kept.refl _ _, _, _, rfl, hE, rfl⟩
          · intro a w ux14 hE hM hp
            have f6 : ux14 6 = (ptr (sb v1_1) (so v1_1 + (s6).toNat * 1)) := hp 0 _ rfl rfl
            refine s_load (v := (vB x18)) hE goes_none (by decide) (lk rfl f6) ty5 rfl (sl_atF (hM.rd hv1_1) hi20.2) ?_; intro a hE
            exact ⟨Kept.refl _ _, _, _, rfl, hE, rfl⟩
          · intro a w ux14 hE hM hp
            have f3 : ux14 3 = (vB x15) := hp 0 _ rfl rfl
            have f7 : ux14 7 = (vB x18) := hp 1 _ rfl rfl
            refine s_int hE goes_none (by decide) (lk rfl f3) (lk rfl f7) (bB_neq x15 x18) ?_; intro a hE
            exact ⟨Kept.refl _ _, _, _, rfl, hE, rfl⟩
          · intro a w ux14 hE hM hg
            have f0 : ux14 0 = v0_1 := hg 0 (by decide)
            have f1 : ux14 1 = (vI s6) := hg 1 (by decide)
            have f2 : ux14 2 = (ptr (sb v0_1) (so v0_1 + (s6).toNat * 1)) := hg 2 (by decide)
            have f3 : ux14 3 = (vB x15) := hg 3 (by decide)
            have f4 : ux14 4 = v1_1 := hg 4 (by decide)
            have f5 : ux14 5 = (vI s6) := hg 5 (by decide)
            have f6 : ux14 6 = (ptr (sb v1_1) (so v1_1 + (s6).toNat * 1)) := hg 6 (by decide)
            have f7 : ux14 7 = (vB x18) := hg 7 (by decide)
            have f8 : ux14 8 = (vT (x15 != x18)) := hg 8 (by decide)
            have hE := hE.sub (e' := [(17, v0_1), (18, (vI s6)), (19, (ptr (sb v0_1) (so v0_1 + (s6).toNat * 1))), (20, (vB x15)), (21, v1_1), (22, (vI s6)), (23, (ptr (sb v1_1) (so v1_1 + (s6).toNat * 1))), (24, (vB x18)), (25, (vT (x15 != x18))), (0, v0_1), (1, v1_1), (5, (vI s6)), (11, (vI s6)), (12, v0_1), (13, (vI (p0.length : Int))), (14, (vT (decide (s6 < (p0.length : Int)))))]) ⟨lk rfl f0, lk rfl f1, lk rfl f2, lk rfl f3, lk rfl f4, lk rfl f5, lk rfl f6, lk rfl f7, lk rfl f8, rfl, rfl, rfl, rfl, rfl, rfl, rfl, trivial⟩
            refine c_fin0 ?_
            have ht21 := Option.some.inj hl12
            subst ht21
            refine c_mid ?_
            exact ⟨hE.sub ⟨rfl, rfl, rfl, rfl, trivial⟩, hM⟩
        · skip
          rintro a w ⟨hE, hM⟩
          refine c_cond hE rfl ?_ ?_
          · intro hb22
            have hF13 := ite_t hF13 hb22
            refine c_region ?_
            refine s_assign hE goes_none (by decide) rfl ?_; intro a hE
            refine c_fin ?_
            have ht23 := hx8 _ (Option.some.inj hF13).symm
            subst ht23
            have hr := Option.some.inj hF4
            subst hr
            exact wp_ret (r_inb (r_then (r_then (r_inb (r_then (r_then (k_ret1 hE rfl (res_tmp hE rfl) ⟨_, rfl, rfl, hM.kept⟩)))))))
          · intro hb22
            have hF13 := ite_f hF13 hb22
            refine wp_skip ?_
            refine c_nb ?_
            refine c_nx ?_
            refine wp_region_lit ?_
            refine s_move hE goes_none (by decide) rfl ?_; intro a hE
            refine s_int hE goes_none (by decide) rfl rfl rfl ?_; intro a hE
            refine s_assign hE goes_none (by decide) rfl ?_; intro a hE
            refine c_fin0 ?_
            refine c_mid ?_
            exact ⟨_, (Option.some.inj hF13).symm, hE.sub ⟨rfl, rfl, rfl, trivial⟩, hM⟩
      · intro hb10
        have hs7 := ite_f hs7 hb10
        refine wp_exit (e_then (e_then (e_eq ?_)))
        have ht24 := hx8 _ (Option.some.inj hs7).symm
        subst ht24
        refine c_mid ?_
        exact ⟨(), rfl, hE.sub trivial, hM⟩
    · skip
      rintro a w ⟨s5, ht, hE, hM⟩
      subst ht
      refine c_nx ?_
      refine c_region ?_
      refine s_assign hE goes_none (by decide) rfl ?_; intro a hE
      refine c_fin ?_
      have hr := Option.some.inj hF4
      subst hr
      exact wp_ret (k_ret1 hE rfl (res_tmp hE rfl) ⟨_, rfl, rfl, hM.kept⟩)
noncomputable def L0_laws_eqDigest (p0 : (Vector UInt8 32)) (p1 : (Vector UInt8 32)) (s9 : Int) : Option (Fl Int (Fl Unit Bool)) :=
  if (decide (s9 < 32)) = true then (((vidx p0 s9).bind fun (x19 : UInt8) => (vidx p1 s9).bind fun (x22 : UInt8) => some (x19 != x22) : Option (Bool)).bind fun (j14 : Bool) => if j14 = true then (some (Fl.ex (Fl.ex false))) else (some (Fl.nx (wr (s9 + 1))))) else (some (Fl.ex (Fl.nx ())))
noncomputable def F_laws_eqDigest (p0 : (Vector UInt8 32)) (p1 : (Vector UInt8 32)) : Option (Bool) :=
  (iter (L0_laws_eqDigest p0 p1) 0 : Option (Fl Unit Bool)).bind fun (j5 : Fl Unit Bool) => j5.el (fun (s8 : Unit) => some true) (fun r => some r)
set_option maxRecDepth 20000 in
set_option maxHeartbeats 400000 in
theorem c_laws_eqDigest (w0 : World) (p0 : (Vector UInt8 32)) (p1 : (Vector UInt8 32)) (r : Bool) (hF : F_laws_eqDigest p0 p1 = some r) :
    Calls Try.prog 88 [(Value.agg (Flat.enc p0).toArray), (Value.agg (Flat.enc p1).toArray)].toArray w0 (fun en w' => ∃ v, en = .returned v ∧ (v = (vT r) ∧ Kept (Old w0) w0 w')) := by
  refine c_enter (n := 17) Try.func88 rfl rfl (Nat.le_of_ble_eq_true rfl) rfl ?_
  intro a hE
  have hM := M.start w0
  unfold F_laws_eqDigest at hF
  refine c_region ?_
  refine s_box (cs := Flat.enc p0) hE hM goes_none (by decide) rfl rfl ?_; intro b1 w a hM hE
  refine s_box (cs := Flat.enc p1) hE hM goes_none (by decide) rfl rfl ?_; intro b3 w a hM hE
  refine s_assign hE goes_none (by decide) rfl ?_; intro a hE
  refine c_fin ?_
  refine wp_seq ?_
  refine c_region ?_
  refine s_assign hE goes_none (by decide) rfl ?_; intro a hE
  refine c_fin ?_
  obtain ⟨j5, hl6, hF7⟩ := bind_some hF
  refine c_cut (fun a w => ∃ s8 : Unit, j5 = Fl.nx s8 ∧ Env 17 a [] ∧ M (Old w0) w0 w []) ?_ ?_
  · skip
    refine wp_block ?_
    refine c_loop (fun (s9 : Int) a w => Env 17 a [(2, (ptr b1 0)), (3, (ptr b3 0)), (5, (vI s9))] ∧ M (Old w0) w0 w [raw b3 (Flat.enc p1), raw b1 (Flat.enc p0)]) hl6 ⟨hE.sub ⟨rfl, rfl, rfl, trivial⟩, hM⟩ ?_
    rintro s9 a w ⟨hE, hM⟩ o12 hs10 hx11
    unfold L0_laws_eqDigest at hs10
    refine wp_seq ?_
    refine c_region ?_
    refine s_move hE goes_none (by decide) rfl ?_; intro a hE
    refine s_int hE goes_none (by decide) rfl rfl rfl ?_; intro a hE
    refine c_fin ?_
    refine c_cond hE rfl ?_ ?_
    · intro hb13
      have hs10 := ite_t hs10 hb13
      refine wp_skip ?_
      refine c_nx ?_
      refine wp_seq ?_
      refine wp_block ?_
      obtain ⟨j14, hl15, hF16⟩ := bind_some hs10
      refine c_join (fun a w => Env 17 a [(2, (ptr b1 0)), (3, (ptr b3 0)), (5, (vI s9)), (16, (vT j14))] ∧ M (Old w0) w0 w [raw b3 (Flat.enc p1), raw b1 (Flat.enc p0)]) ?_ ?_
      · skip
        obtain ⟨x19, e20, hl15⟩ := bind_some hl15
        have hi18 := vidx_some e20
        obtain ⟨x22, e23, hl15⟩ := bind_some hl15
        have hi21 := vidx_some e23
        refine c_draw (n := 17) (hd := [_, _, _, _, _, _, _]) (tl := []) hmix rfl rfl [10, 11, 12, 13, 14, 15, 16] (by decide) (fun w => M (Old w0) w0 w [raw b3 (Flat.enc p1), raw b1 (Flat.enc p0)]) (fun j => ([fun v _ => v = (vI s9), fun v _ => v = (ptr b1 (0 + (s9).toNat * 1)), fun v _ => v = (vB x19), fun v _ => v = (vI s9), fun v _ => v = (ptr b3 (0 + (s9).toNat * 1)), fun v _ => v = (vB x22), fun v _ => v = (vT (x19 != x22))] : List (Value → World → Prop)).getD j (fun _ _ => True)) (fun _ _ h hk => h.keep hk) (gup (gupE (gupE (gupE (gupE (gupE (gupE (gupE gupN)))))))) hE hM.drew (steps_of (steps_cons ?_ (steps_cons ?_ (steps_cons ?_ (steps_cons ?_ (steps_cons ?_ (steps_cons ?_ (steps_cons ?_ steps_nil)))))))) ?_
        · intro a w ux17 hE hM hp
          refine s_move hE goes_none (by decide) rfl ?_; intro a hE
          exact ⟨Kept.refl _ _, _, _, rfl, hE, rfl⟩
        · intro a w ux17 hE hM hp
          have f0 : ux17 0 = (vI s9) := hp 0 _ rfl rfl
          refine s_indexA hE goes_none (by decide) rfl (lk rfl f0) Try.underlying47 ty5 hi18.1 ?_; intro a hE
          exact ⟨Kept.refl _ _, _, _, rfl, hE, rfl⟩
        · intro a w ux17 hE hM hp
          have f1 : ux17 1 = (ptr b1 (0 + (s9).toNat * 1)) := hp 0 _ rfl rfl
          refine s_load (v := (vB x19)) hE goes_none (by decide) (lk rfl f1) ty5 rfl (At.vec (hM.rawAt (pre := [_])) hi18.2) ?_; intro a hE
          exact ⟨Kept.refl _ _, _, _, rfl, hE, rfl⟩
        · intro a w ux17 hE hM hp
          refine s_move hE goes_none (by decide) rfl ?_; intro a hE
          exact ⟨Kept.refl _ _, _, _, rfl, hE, rfl⟩
        · intro a w ux17 hE hM hp
          have f3 : ux17 3 = (vI s9) := hp 0 _ rfl rfl
          refine s_indexA hE goes_none (by decide) rfl (lk rfl f3) Try.underlying47 ty5 hi21.1 ?_; intro a hE
          exact ⟨Kept.refl _ _, _, _, rfl, hE, rfl⟩
        · intro a w ux17 hE hM hp
          have f4 : ux17 4 = (ptr b3 (0 + (s9).toNat * 1)) := hp 0 _ rfl rfl
          refine s_load (v := (vB x22)) hE goes_none (by decide) (lk rfl f4) ty5 rfl (At.vec (hM.rawAt (pre := [])) hi21.2) ?_; intro a hE
          exact ⟨Kept.refl _ _, _, _, rfl, hE, rfl⟩
        · intro a w ux17 hE hM hp
          have f2 : ux17 2 = (vB x19) := hp 0 _ rfl rfl
          have f5 : ux17 5 = (vB x22) := hp 1 _ rfl rfl
          refine s_int hE goes_none (by decide) (lk rfl f2) (lk rfl f5) (bB_neq x19 x22) ?_; intro a hE
          exact ⟨Kept.refl _ _, _, _, rfl, hE, rfl⟩
        · intro a w ux17 hE hM hg
          have f0 : ux17 0 = (vI s9) := hg 0 (by decide)
          have f1 : ux17 1 = (ptr b1 (0 + (s9).toNat * 1)) := hg 1 (by decide)
          have f2 : ux17 2 = (vB x19) := hg 2 (by decide)
          have f3 : ux17 3 = (vI s9) := hg 3 (by decide)
          have f4 : ux17 4 = (ptr b3 (0 + (s9).toNat * 1)) := hg 4 (by decide)
          have f5 : ux17 5 = (vB x22) := hg 5 (by decide)
          have f6 : ux17 6 = (vT (x19 != x22)) := hg 6 (by decide)
          have hE := hE.sub (e' := [(10, (vI s9)), (11, (ptr b1 (0 + (s9).toNat * 1))), (12, (vB x19)), (13, (vI s9)), (14, (ptr b3 (0 + (s9).toNat * 1))), (15, (vB x22)), (16, (vT (x19 != x22))), (2, (ptr b1 0)), (3, (ptr b3 0)), (5, (vI s9)), (6, (vI s9)), (7, (vT (decide (s9 < 32))))]) ⟨lk rfl f0, lk rfl f1, lk rfl f2, lk rfl f3, lk rfl f4, lk rfl f5, lk rfl f6, rfl, rfl, rfl, rfl, rfl, trivial⟩
          refine c_fin0 ?_
          have ht24 := Option.some.inj hl15
          subst ht24
          refine c_mid ?_
          exact ⟨hE.sub ⟨rfl, rfl, rfl, rfl, trivial⟩, hM⟩
      · skip
        rintro a w ⟨hE, hM⟩
        refine c_cond hE rfl ?_ ?_
        · intro hb25
          have hF16 := ite_t hF16 hb25
          refine c_region ?_
          refine s_assign hE goes_none (by decide) rfl ?_; intro a hE
          refine c_fin ?_
          have ht26 := hx11 _ (Option.some.inj hF16).symm
          subst ht26
          have hr := Option.some.inj hF7
          subst hr
          have hM := M.fst (l := []) hM
          exact wp_ret (r_inb (r_then (r_then (r_inb (r_then (r_then (k_ret1 hE rfl (res_tmp hE rfl) ⟨_, rfl, rfl, hM.kept⟩)))))))
        · intro hb25
          have hF16 := ite_f hF16 hb25
          refine wp_skip ?_
          refine c_nb ?_
          refine c_nx ?_
          refine wp_region_lit ?_
          refine s_move hE goes_none (by decide) rfl ?_; intro a hE
          refine s_int hE goes_none (by decide) rfl rfl rfl ?_; intro a hE
          refine s_assign hE goes_none (by decide) rfl ?_; intro a hE
          refine c_fin0 ?_
          refine c_mid ?_
          exact ⟨_, (Option.some.inj hF16).symm, hE.sub ⟨rfl, rfl, rfl, trivial⟩, hM⟩
    · intro hb13
      have hs10 := ite_f hs10 hb13
      refine wp_exit (e_then (e_then (e_eq ?_)))
      have ht27 := hx11 _ (Option.some.inj hs10).symm
      subst ht27
      refine c_mid ?_
      have hM := M.fst (l := []) hM
      exact ⟨(), rfl, hE.sub trivial, hM⟩
  · skip
    rintro a w ⟨s8, ht, hE, hM⟩
    subst ht
    refine c_nx ?_
    refine c_region ?_
    refine s_assign hE goes_none (by decide) rfl ?_; intro a hE
    refine c_fin ?_
    have hr := Option.some.inj hF7
    subst hr
    exact wp_ret (k_ret1 hE rfl (res_tmp hE rfl) ⟨_, rfl, rfl, hM.kept⟩)
noncomputable def F_laws_eqRecord (p0 : GRecord) (p1 : GRecord) : Option (Bool) :=
  if (p0.Number != p1.Number) = true then (some false) else (if (p0.Version != p1.Version) = true then (some false) else ((F_laws_eqBlock p0.Nonce p1.Nonce).bind fun (r7 : Bool) => if (!r7) = true then (some false) else ((F_laws_eqByteS p0.Label p1.Label).bind fun (r10 : Bool) => if (!r10) = true then (some false) else ((F_laws_eqByteS p0.Body p1.Body).bind fun (r13 : Bool) => if (!r13) = true then (some false) else ((F_laws_eqDigest p0.Tag p1.Tag).bind fun (r16 : Bool) => if (!r16) = true then (some false) else (some true))))))
set_option maxRecDepth 20000 in
set_option maxHeartbeats 400000 in
theorem c_laws_eqRecord (w0 : World) (p0 : GRecord) (v0_1 : Value) (hv0_1 : Ro w0 p0.Label [v0_1]) (v0_2 : Value) (hv0_2 : Ro w0 p0.Body [v0_2]) (p1 : GRecord) (v1_1 : Value) (hv1_1 : Ro w0 p1.Label [v1_1]) (v1_2 : Value) (hv1_2 : Ro w0 p1.Body [v1_2]) (r : Bool) (hF : F_laws_eqRecord p0 p1 = some r) :
    Calls Try.prog 133 [(Value.agg (cat [[(vI p0.Number)], [(vI p0.Version)], Flat.enc p0.Nonce, [v0_1], [v0_2], Flat.enc p0.Tag]).toArray), (Value.agg (cat [[(vI p1.Number)], [(vI p1.Version)], Flat.enc p1.Nonce, [v1_1], [v1_2], Flat.enc p1.Tag]).toArray)].toArray w0 (fun en w' => ∃ v, en = .returned v ∧ (v = (vT r) ∧ Kept (Old w0) w0 w')) := by
  refine c_enter (n := 39) Try.func133 rfl rfl (Nat.le_of_ble_eq_true rfl) rfl ?_
  intro a hE
  have hM := M.start w0
  unfold F_laws_eqRecord at hF
  refine c_region ?_
  refine s_box (cs := cat [[(vI p0.Number)], [(vI p0.Version)], Flat.enc p0.Nonce, [v0_1], [v0_2], Flat.enc p0.Tag]) hE hM goes_none (by decide) rfl rfl ?_; intro b1 w a hM hE
  refine s_box (cs := cat [[(vI p1.Number)], [(vI p1.Version)], Flat.enc p1.Nonce, [v1_1], [v1_2], Flat.enc p1.Tag]) hE hM goes_none (by decide) rfl rfl ?_; intro b3 w a hM hE
  refine s_assign hE goes_none (by decide) rfl ?_; intro a hE
  refine c_fin ?_
  refine wp_seq ?_
  refine c_region ?_
  refine s_fieldAddr hE goes_none (by decide) rfl (fd106_0) ?_; intro a hE
  refine s_load (v := (vI p0.Number)) hE goes_none (by decide) rfl ty2 rfl (At.cat (pre := []) (seg := [(vI p0.Number)]) (post := [[(vI p0.Version)], Flat.enc p0.Nonce, [v0_1], [v0_2], Flat.enc p0.Tag]) (hM.rawAt (pre := [_])) cl0) ?_; intro a hE
  refine s_fieldAddr hE goes_none (by decide) rfl (fd106_0) ?_; intro a hE
  refine s_load (v := (vI p1.Number)) hE goes_none (by decide) rfl ty2 rfl (At.cat (pre := []) (seg := [(vI p1.Number)]) (post := [[(vI p1.Version)], Flat.enc p1.Nonce, [v1_1], [v1_2], Flat.enc p1.Tag]) (hM.rawAt (pre := [])) cl0) ?_; intro a hE
  refine s_int hE goes_none (by decide) rfl rfl rfl ?_; intro a hE
  refine c_fin ?_
  refine c_cond hE rfl ?_ ?_
  · intro hb5
    have hF := ite_t hF hb5
    refine c_region ?_
    refine s_assign hE goes_none (by decide) rfl ?_; intro a hE
    refine c_fin ?_
    have hr := Option.some.inj hF
    subst hr
    have hM := M.fst (l := []) hM
    exact wp_ret (r_then (k_ret1 hE rfl (res_tmp hE rfl) ⟨_, rfl, rfl, hM.kept⟩))
  · intro hb5
    have hF := ite_f hF hb5
    refine wp_skip ?_
    refine c_nx ?_
    refine wp_seq ?_
    refine c_region ?_
    refine s_fieldAddr hE goes_none (by decide) rfl (fd106_1) ?_; intro a hE
    refine s_load (v := (vI p0.Version)) hE goes_none (by decide) rfl ty2 rfl (At.cat (pre := [[(vI p0.Number)]]) (seg := [(vI p0.Version)]) (post := [Flat.enc p0.Nonce, [v0_1], [v0_2], Flat.enc p0.Tag]) (hM.rawAt (pre := [_])) (cl1 (n := 1) (m := 0) rfl cl0)) ?_; intro a hE
    refine s_fieldAddr hE goes_none (by decide) rfl (fd106_1) ?_; intro a hE
    refine s_load (v := (vI p1.Version)) hE goes_none (by decide) rfl ty2 rfl (At.cat (pre := [[(vI p1.Number)]]) (seg := [(vI p1.Version)]) (post := [Flat.enc p1.Nonce, [v1_1], [v1_2], Flat.enc p1.Tag]) (hM.rawAt (pre := [])) (cl1 (n := 1) (m := 0) rfl cl0)) ?_; intro a hE
    refine s_int hE goes_none (by decide) rfl rfl rfl ?_; intro a hE
    refine c_fin ?_
    refine c_cond hE rfl ?_ ?_
    · intro hb6
      have hF := ite_t hF hb6
      refine c_region ?_
      refine s_assign hE goes_none (by decide) rfl ?_; intro a hE
      refine c_fin ?_
      have hr := Option.some.inj hF
      subst hr
      have hM := M.fst (l := []) hM
      exact wp_ret (r_then (k_ret1 hE rfl (res_tmp hE rfl) ⟨_, rfl, rfl, hM.kept⟩))
    · intro hb6
      have hF := ite_f hF hb6
      refine wp_skip ?_
      refine c_nx ?_
      refine wp_seq ?_
      refine c_region ?_
      refine s_fieldAddr hE goes_none (by decide) rfl (fd106_2) ?_; intro a hE
      refine s_loadA (cs := Flat.enc p0.Nonce) hE goes_none (by decide) rfl ty104 rfl (At.cat (pre := [[(vI p0.Number)], [(vI p0.Version)]]) (seg := Flat.enc p0.Nonce) (post := [[v0_1], [v0_2], Flat.enc p0.Tag]) (hM.rawAt (pre := [_])) (cl1 (n := 1) (m := 1) rfl (cl1 (n := 1) (m := 0) rfl cl0))) (Flat.len _) ?_; intro a hE
      refine s_fieldAddr hE goes_none (by decide) rfl (fd106_2) ?_; intro a hE
      refine s_loadA (cs := Flat.enc p1.Nonce) hE goes_none (by decide) rfl ty104 rfl (At.cat (pre := [[(vI p1.Number)], [(vI p1.Version)]]) (seg := Flat.enc p1.Nonce) (post := [[v1_1], [v1_2], Flat.enc p1.Tag]) (hM.rawAt (pre := [])) (cl1 (n := 1) (m := 1) rfl (cl1 (n := 1) (m := 0) rfl cl0))) (Flat.len _) ?_; intro a hE
      obtain ⟨r7, e8, hF⟩ := bind_some hF
      refine s_call (vs := [(Value.agg (Flat.enc p0.Nonce).toArray), (Value.agg (Flat.enc p1.Nonce).toArray)]) hE goes_none (by decide) rfl cb132 (c_laws_eqBlock _ p0.Nonce p1.Nonce r7 e8) ?_
      rintro v w a ⟨rfl, hK⟩ hE
      have hM := hM.keep hK
      refine s_not hE goes_none (by decide) rfl ?_; intro a hE
      refine c_fin ?_
      refine c_cond hE rfl ?_ ?_
      · intro hb9
        have hF := ite_t hF hb9
        refine c_region ?_
        refine s_assign hE goes_none (by decide) rfl ?_; intro a hE
        refine c_fin ?_
        have hr := Option.some.inj hF
        subst hr
        have hM := M.fst (l := []) hM
        exact wp_ret (r_then (k_ret1 hE rfl (res_tmp hE rfl) ⟨_, rfl, rfl, hM.kept⟩))
      · intro hb9
        have hF := ite_f hF hb9
        refine wp_skip ?_
        refine c_nx ?_
        refine wp_seq ?_
        refine c_region ?_
        refine s_fieldAddr hE goes_none (by decide) rfl (fd106_3) ?_; intro a hE
        refine s_load (v := v0_1) hE goes_none (by decide) rfl ty29 rfl (At.cat (pre := [[(vI p0.Number)], [(vI p0.Version)], Flat.enc p0.Nonce]) (seg := [v0_1]) (post := [[v0_2], Flat.enc p0.Tag]) (hM.rawAt (pre := [_])) (cl1 (n := 1) (m := 17) rfl (cl1 (n := 1) (m := 16) rfl (cl1 (n := 16) (m := 0) (Flat.len _) cl0)))) ?_; intro a hE
        refine s_fieldAddr hE goes_none (by decide) rfl (fd106_3) ?_; intro a hE
        refine s_load (v := v1_1) hE goes_none (by decide) rfl ty29 rfl (At.cat (pre := [[(vI p1.Number)], [(vI p1.Version)], Flat.enc p1.Nonce]) (seg := [v1_1]) (post := [[v1_2], Flat.enc p1.Tag]) (hM.rawAt (pre := [])) (cl1 (n := 1) (m := 17) rfl (cl1 (n := 1) (m := 16) rfl (cl1 (n := 16) (m := 0) (Flat.len _) cl0)))) ?_; intro a hE
        obtain ⟨r10, e11, hF⟩ := bind_some hF
        refine s_call (vs := [v0_1, v1_1]) hE goes_none (by decide) rfl cb21 (c_laws_eqByteS _ p0.Label v0_1 (hM.rdo hv0_1) p1.Label v1_1 (hM.rdo hv1_1) r10 e11) ?_
        rintro v w a ⟨rfl, hK⟩ hE
        have hM := hM.keep hK
        refine s_not hE goes_none (by decide) rfl ?_; intro a hE
        refine c_fin ?_
        refine c_cond hE rfl ?_ ?_
        · intro hb12
          have hF := ite_t hF hb12
          refine c_region ?_
          refine s_assign hE goes_none (by decide) rfl ?_; intro a hE
          refine c_fin ?_
          have hr := Option.some.inj hF
          subst hr
          have hM := M.fst (l := []) hM
          exact wp_ret (r_then (k_ret1 hE rfl (res_tmp hE rfl) ⟨_, rfl, rfl, hM.kept⟩))
        · intro hb12
          have hF := ite_f hF hb12
          refine wp_skip ?_
          refine c_nx ?_
          refine wp_seq ?_
          refine c_region ?_
          refine s_fieldAddr hE goes_none (by decide) rfl (fd106_4) ?_; intro a hE
          refine s_load (v := v0_2) hE goes_none (by decide) rfl ty29 rfl (At.cat (pre := [[(vI p0.Number)], [(vI p0.Version)], Flat.enc p0.Nonce, [v0_1]]) (seg := [v0_2]) (post := [Flat.enc p0.Tag]) (hM.rawAt (pre := [_])) (cl1 (n := 1) (m := 18) rfl (cl1 (n := 1) (m := 17) rfl (cl1 (n := 16) (m := 1) (Flat.len _) (cl1 (n := 1) (m := 0) rfl cl0))))) ?_; intro a hE
          refine s_fieldAddr hE goes_none (by decide) rfl (fd106_4) ?_; intro a hE
          refine s_load (v := v1_2) hE goes_none (by decide) rfl ty29 rfl (At.cat (pre := [[(vI p1.Number)], [(vI p1.Version)], Flat.enc p1.Nonce, [v1_1]]) (seg := [v1_2]) (post := [Flat.enc p1.Tag]) (hM.rawAt (pre := [])) (cl1 (n := 1) (m := 18) rfl (cl1 (n := 1) (m := 17) rfl (cl1 (n := 16) (m := 1) (Flat.len _) (cl1 (n := 1) (m := 0) rfl cl0))))) ?_; intro a hE
          obtain ⟨r13, e14, hF⟩ := bind_some hF
          refine s_call (vs := [v0_2, v1_2]) hE goes_none (by decide) rfl cb21 (c_laws_eqByteS _ p0.Body v0_2 (hM.rdo hv0_2) p1.Body v1_2 (hM.rdo hv1_2) r13 e14) ?_
          rintro v w a ⟨rfl, hK⟩ hE
          have hM := hM.keep hK
          refine s_not hE goes_none (by decide) rfl ?_; intro a hE
          refine c_fin ?_
          refine c_cond hE rfl ?_ ?_
          · intro hb15
            have hF := ite_t hF hb15
            refine c_region ?_
            refine s_assign hE goes_none (by decide) rfl ?_; intro a hE
            refine c_fin ?_
            have hr := Option.some.inj hF
            subst hr
            have hM := M.fst (l := []) hM
            exact wp_ret (r_then (k_ret1 hE rfl (res_tmp hE rfl) ⟨_, rfl, rfl, hM.kept⟩))
          · intro hb15
            have hF := ite_f hF hb15
            refine wp_skip ?_
            refine c_nx ?_
            refine wp_seq ?_
            refine c_region ?_
            refine s_fieldAddr hE goes_none (by decide) rfl (fd106_5) ?_; intro a hE
            refine s_loadA (cs := Flat.enc p0.Tag) hE goes_none (by decide) rfl ty47 rfl (At.cat (pre := [[(vI p0.Number)], [(vI p0.Version)], Flat.enc p0.Nonce, [v0_1], [v0_2]]) (seg := Flat.enc p0.Tag) (post := []) (hM.rawAt (pre := [_])) (cl1 (n := 1) (m := 19) rfl (cl1 (n := 1) (m := 18) rfl (cl1 (n := 16) (m := 2) (Flat.len _) (cl1 (n := 1) (m := 1) rfl (cl1 (n := 1) (m := 0) rfl cl0)))))) (Flat.len _) ?_; intro a hE
            refine s_fieldAddr hE goes_none (by decide) rfl (fd106_5) ?_; intro a hE
            refine s_loadA (cs := Flat.enc p1.Tag) hE goes_none (by decide) rfl ty47 rfl (At.cat (pre := [[(vI p1.Number)], [(vI p1.Version)], Flat.enc p1.Nonce, [v1_1], [v1_2]]) (seg := Flat.enc p1.Tag) (post := []) (hM.rawAt (pre := [])) (cl1 (n := 1) (m := 19) rfl (cl1 (n := 1) (m := 18) rfl (cl1 (n := 16) (m := 2) (Flat.len _) (cl1 (n := 1) (m := 1) rfl (cl1 (n := 1) (m := 0) rfl cl0)))))) (Flat.len _) ?_; intro a hE
            obtain ⟨r16, e17, hF⟩ := bind_some hF
            refine s_call (vs := [(Value.agg (Flat.enc p0.Tag).toArray), (Value.agg (Flat.enc p1.Tag).toArray)]) hE goes_none (by decide) rfl cb88 (c_laws_eqDigest _ p0.Tag p1.Tag r16 e17) ?_
            rintro v w a ⟨rfl, hK⟩ hE
            have hM := hM.keep hK
            refine s_not hE goes_none (by decide) rfl ?_; intro a hE
            refine c_fin ?_
            refine c_cond hE rfl ?_ ?_
            · intro hb18
              have hF := ite_t hF hb18
              refine c_region ?_
              refine s_assign hE goes_none (by decide) rfl ?_; intro a hE
              refine c_fin ?_
              have hr := Option.some.inj hF
              subst hr
              have hM := M.fst (l := []) hM
              exact wp_ret (r_then (k_ret1 hE rfl (res_tmp hE rfl) ⟨_, rfl, rfl, hM.kept⟩))
            · intro hb18
              have hF := ite_f hF hb18
              refine wp_skip ?_
              refine c_nx ?_
              refine c_region ?_
              refine s_assign hE goes_none (by decide) rfl ?_; intro a hE
              refine c_fin ?_
              have hr := Option.some.inj hF
              subst hr
              have hM := M.fst (l := []) hM
              exact wp_ret (k_ret1 hE rfl (res_tmp hE rfl) ⟨_, rfl, rfl, hM.kept⟩)
noncomputable def L0_laws_eqRecordS (p0 : (List GRecord)) (p1 : (List GRecord)) (s6 : Int) : Option (Fl Int (Fl Unit Bool)) :=
  if (decide (s6 < (p0.length : Int))) = true then (((idx p0 s6).bind fun (x15 : GRecord) => (idx p1 s6).bind fun (x25 : GRecord) => (F_laws_eqRecord x15 x25).bind fun (r35 : Bool) => some (!r35) : Option (Bool)).bind fun (j11 : Bool) => if j11 = true then (some (Fl.ex (Fl.ex false))) else (some (Fl.nx (wr (s6 + 1))))) else (some (Fl.ex (Fl.nx ())))
noncomputable def F_laws_eqRecordS (p0 : (List GRecord)) (p1 : (List GRecord)) : Option (Bool) :=
  if ((p0.length : Int) != (p1.length : Int)) = true then (some false) else ((iter (L0_laws_eqRecordS p0 p1) 0 : Option (Fl Unit Bool)).bind fun (j2 : Fl Unit Bool) => j2.el (fun (s5 : Unit) => some true) (fun r => some r))
set_option maxRecDepth 20000 in
set_option maxHeartbeats 400000 in
theorem c_laws_eqRecordS (w0 : World) (p0 : (List GRecord)) (v0_1 : Value) (hv0_1 : Ro w0 p0 [v0_1]) (p1 : (List GRecord)) (v1_1 : Value) (hv1_1 : Ro w0 p1 [v1_1]) (r : Bool) (hF : F_laws_eqRecordS p0 p1 = some r) :
    Calls Try.prog 86 [v0_1, v1_1].toArray w0 (fun en w' => ∃ v, en = .returned v ∧ (v = (vT r) ∧ Kept (Old w0) w0 w')) := by
  refine c_enter (n := 27) Try.func86 rfl rfl (Nat.le_of_ble_eq_true rfl) rfl ?_
  intro a hE
  have hM := M.start w0
  unfold F_laws_eqRecordS at hF
  refine c_region ?_
  refine s_assign hE goes_none (by decide) rfl ?_; intro a hE
  refine c_fin ?_
  refine wp_seq ?_
  refine c_region ?_
  refine s_move hE goes_none (by decide) rfl ?_; intro a hE
  refine s_len hE goes_none (by decide) rfl Try.underlying45 (hM.rd hv0_1) ?_; intro a hE
  refine s_move hE goes_none (by decide) rfl ?_; intro a hE
  refine s_len hE goes_none (by decide) rfl Try.underlying45 (hM.rd hv1_1) ?_; intro a hE
  refine s_int hE goes_none (by decide) rfl rfl rfl ?_; intro a hE
  refine c_fin ?_
  refine c_cond hE rfl ?_ ?_
  · intro hb1
    have hF := ite_t hF hb1
    refine c_region ?_
    refine s_assign hE goes_none (by decide) rfl ?_; intro a hE
    refine c_fin ?_
    have hr := Option.some.inj hF
    subst hr
    exact wp_ret (r_then (k_ret1 hE rfl (res_tmp hE rfl) ⟨_, rfl, rfl, hM.kept⟩))
  · intro hb1
    have hF := ite_f hF hb1
    refine wp_skip ?_
    refine c_nx ?_
    refine wp_seq ?_
    refine c_region ?_
    refine s_assign hE goes_none (by decide) rfl ?_; intro a hE
    refine c_fin ?_
    obtain ⟨j2, hl3, hF4⟩ := bind_some hF
    refine c_cut (fun a w => ∃ s5 : Unit, j2 = Fl.nx s5 ∧ Env 27 a [] ∧ M (Old w0) w0 w []) ?_ ?_
    · skip
      refine wp_block ?_
      refine c_loop (fun (s6 : Int) a w => Env 27 a [(0, v0_1), (1, v1_1), (5, (vI s6))] ∧ M (Old w0) w0 w []) hl3 ⟨hE.sub ⟨rfl, rfl, rfl, trivial⟩, hM⟩ ?_
      rintro s6 a w ⟨hE, hM⟩ o9 hs7 hx8
      unfold L0_laws_eqRecordS at hs7
      refine wp_seq ?_
      refine c_region ?_
      refine s_move hE goes_none (by decide) rfl ?_; intro a hE
      refine s_move hE goes_none (by decide) rfl ?_; intro a hE
      refine s_len hE goes_none (by decide) rfl Try.underlying45 (hM.rd hv0_1) ?_; intro a hE
      refine s_int hE goes_none (by decide) rfl rfl rfl ?_; intro a hE
      refine c_fin ?_
      refine c_cond hE rfl ?_ ?_
      · intro hb10
        have hs7 := ite_t hs7 hb10
        refine wp_skip ?_
        refine c_nx ?_
        refine wp_seq ?_
        refine wp_block ?_
        obtain ⟨j11, hl12, hF13⟩ := bind_some hs7
        refine c_join (fun a w => Env 27 a [(0, v0_1), (1, v1_1), (5, (vI s6)), (26, (vT j11))] ∧ M (Old w0) w0 w []) ?_ ?_
        · skip
          obtain ⟨x15, e16, hl12⟩ := bind_some hl12
          have hi17 := idx_some e16
          obtain ⟨cs18, hs19, hA20⟩ := sl_atRo hv0_1 hi17.2 -- ^
          obtain ⟨u21, u23, rfl, h22, h24⟩ := un_GRecord hs19 -- ^
          obtain ⟨x25, e26, hl12⟩ := bind_some hl12
          have hi27 := idx_some e26
          obtain ⟨cs28, hs29, hA30⟩ := sl_atRo hv1_1 hi27.2 -- ^
          obtain ⟨u31, u33, rfl, h32, h34⟩ := un_GRecord hs29 -- ^
          obtain ⟨r35, e36, hl12⟩ := bind_some hl12
          refine c_draw (n := 27) (hd := [_, _, _, _, _, _, _, _, _, _]) (tl := []) hmix rfl rfl [17, 18, 19, 20, 21, 22, 23, 24, 25, 26] (by decide) (fun w => M (Old w0) w0 w []) (fun j => ([fun v _ => v = v0_1, fun v _ => v = (vI s6), fun v _ => v = (ptr (sb v0_1) (so v0_1 + (s6).toNat * 52)), fun v _ => v = (Value.agg (cat [[(vI x15.Number)], [(vI x15.Version)], Flat.enc x15.Nonce, [u21], [u23], Flat.enc x15.Tag]).toArray), fun v _ => v = v1_1, fun v _ => v = (vI s6), fun v _ => v = (ptr (sb v1_1) (so v1_1 + (s6).toNat * 52)), fun v _ => v = (Value.agg (cat [[(vI x25.Number)], [(vI x25.Version)], Flat.enc x25.Nonce, [u31], [u33], Flat.enc x25.Tag]).toArray), fun v _ => v = (vT r35), fun v _ => v = (vT (!r35))] : List (Value → World → Prop)).getD j (fun _ _ => True)) (fun _ _ h hk => h.keep hk) (gup (gupE (gupE (gupE (gupE (gupE (gupE (gupE (gupE (gupE (gupE gupN))))))))))) hE hM.drew (steps_of (steps_cons ?_ (steps_cons ?_ (steps_cons ?_ (steps_cons ?_ (steps_cons ?_ (steps_cons ?_ (steps_cons ?_ (steps_cons ?_ (steps_cons ?_ (steps_cons ?_ steps_nil))))))))))) ?_
          · intro a w ux14 hE hM hp
            refine s_move hE goes_none (by decide) rfl ?_; intro a hE
            exact ⟨Kept.refl _ _, _, _, rfl, hE, rfl⟩
          · intro a w ux14 hE hM hp
            refine s_move hE goes_none (by decide) rfl ?_; intro a hE
            exact ⟨Kept.refl _ _, _, _, rfl, hE, rfl⟩
          · intro a w ux14 hE hM hp
            have f0 : ux14 0 = v0_1 := hp 0 _ rfl rfl
            have f1 : ux14 1 = (vI s6) := hp 1 _ rfl rfl
            refine s_indexS hE goes_none (by decide) (lk rfl f0) (lk rfl f1) Try.underlying45 ty106 (hM.rd hv0_1) hi17.1 ?_; intro a hE
            exact ⟨Kept.refl _ _, _, _, rfl, hE, rfl⟩
          · intro a w ux14 hE hM hp
            have f2 : ux14 2 = (ptr (sb v0_1) (so v0_1 + (s6).toNat * 52)) := hp 0 _ rfl rfl
            refine s_loadA (cs := cat [[(vI x15.Number)], [(vI x15.Version)], Flat.enc x15.Nonce, [u21], [u23], Flat.enc x15.Tag]) hE goes_none (by decide) (lk rfl f2) ty106 rfl (hM.atk hA20 (sl_blk hv0_1 hi17.2)) (cat_len (cl1 (n := 1) (m := 51) rfl (cl1 (n := 1) (m := 50) rfl (cl1 (n := 16) (m := 34) (Flat.len _) (cl1 (n := 1) (m := 33) rfl (cl1 (n := 1) (m := 32) rfl (cl1 (n := 32) (m := 0) (Flat.len _) cl0))))))) ?_; intro a hE
            exact ⟨Kept.refl _ _, _, _, rfl, hE, rfl⟩
          · intro a w ux14 hE hM hp
            refine s_move hE goes_none (by decide) rfl ?_; intro a hE
            exact ⟨Kept.refl _ _, _, _, rfl, hE, rfl⟩
          · intro a w ux14 hE hM hp
            refine s_move hE goes_none (by decide) rfl ?_; intro a hE
            exact ⟨Kept.refl _ _, _, _, rfl, hE, rfl⟩
          · intro a w ux14 hE hM hp
            have f4 : ux14 4 = v1_1 := hp 0 _ rfl rfl
            have f5 : ux14 5 = (vI s6) := hp 1 _ rfl rfl
            refine s_indexS hE goes_none (by decide) (lk rfl f4) (lk rfl f5) Try.underlying45 ty106 (hM.rd hv1_1) hi27.1 ?_; intro a hE
            exact ⟨Kept.refl _ _, _, _, rfl, hE, rfl⟩
          · intro a w ux14 hE hM hp
            have f6 : ux14 6 = (ptr (sb v1_1) (so v1_1 + (s6).toNat * 52)) := hp 0 _ rfl rfl
            refine s_loadA (cs := cat [[(vI x25.Number)], [(vI x25.Version)], Flat.enc x25.Nonce, [u31], [u33], Flat.enc x25.Tag]) hE goes_none (by decide) (lk rfl f6) ty106 rfl (hM.atk hA30 (sl_blk hv1_1 hi27.2)) (cat_len (cl1 (n := 1) (m := 51) rfl (cl1 (n := 1) (m := 50) rfl (cl1 (n := 16) (m := 34) (Flat.len _) (cl1 (n := 1) (m := 33) rfl (cl1 (n := 1) (m := 32) rfl (cl1 (n := 32) (m := 0) (Flat.len _) cl0))))))) ?_; intro a hE
            exact ⟨Kept.refl _ _, _, _, rfl, hE, rfl⟩
          · intro a w ux14 hE hM hp
            have f3 : ux14 3 = (Value.agg (cat [[(vI x15.Number)], [(vI x15.Version)], Flat.enc x15.Nonce, [u21], [u23], Flat.enc x15.Tag]).toArray) := hp 0 _ rfl rfl
            have f7 : ux14 7 = (Value.agg (cat [[(vI x25.Number)], [(vI x25.Version)], Flat.enc x25.Nonce, [u31], [u33], Flat.enc x25.Tag]).toArray) := hp 1 _ rfl rfl
            refine s_call (vs := [(Value.agg (cat [[(vI x15.Number)], [(vI x15.Version)], Flat.enc x15.Nonce, [u21], [u23], Flat.enc x15.Tag]).toArray), (Value.agg (cat [[(vI x25.Number)], [(vI x25.Version)], Flat.enc x25.Nonce, [u31], [u33], Flat.enc x25.Tag]).toArray)]) hE goes_none (by decide) (evs_of (evsC (lk rfl f3) (evsC (lk rfl f7) evsN))) cb133 (c_laws_eqRecord _ x15 u21 (hM.rdo h22) u23 (hM.rdo h24) x25 u31 (hM.rdo h32) u33 (hM.rdo h34) r35 e36) ?_
            rintro v w a ⟨rfl, hK⟩ hE
            exact ⟨hK, _, _, rfl, hE, rfl⟩
          · intro a w ux14 hE hM hp
            have f8 : ux14 8 = (vT r35) := hp 0 _ rfl rfl
            refine s_not hE goes_none (by decide) (lk rfl f8) ?_; intro a hE
            exact ⟨Kept.refl _ _, _, _, rfl, hE, rfl⟩
          · intro a w ux14 hE hM hg
            have f0 : ux14 0 = v0_1 := hg 0 (by decide)
            have f1 : ux14 1 = (vI s6) := hg 1 (by decide)
            have f2 : ux14 2 = (ptr (sb v0_1) (so v0_1 + (s6).toNat * 52)) := hg 2 (by decide)
            have f3 : ux14 3 = (Value.agg (cat [[(vI x15.Number)], [(vI x15.Version)], Flat.enc x15.Nonce, [u21], [u23], Flat.enc x15.Tag]).toArray) := hg 3 (by decide)
            have f4 : ux14 4 = v1_1 := hg 4 (by decide)
            have f5 : ux14 5 = (vI s6) := hg 5 (by decide)
            have f6 : ux14 6 = (ptr (sb v1_1) (so v1_1 + (s6).toNat * 52)) := hg 6 (by decide)
            have f7 : ux14 7 = (Value.agg (cat [[(vI x25.Number)], [(vI x25.Version)], Flat.enc x25.Nonce, [u31], [u33], Flat.enc x25.Tag]).toArray) := hg 7 (by decide)
            have f8 : ux14 8 = (vT r35) := hg 8 (by decide)
            have f9 : ux14 9 = (vT (!r35)) := hg 9 (by decide)
            have hE := hE.sub (e' := [(17, v0_1), (18, (vI s6)), (19, (ptr (sb v0_1) (so v0_1 + (s6).toNat * 52))), (20, (Value.agg (cat [[(vI x15.Number)], [(vI x15.Version)], Flat.enc x15.Nonce, [u21], [u23], Flat.enc x15.Tag]).toArray)), (21, v1_1), (22, (vI s6)), (23, (ptr (sb v1_1) (so v1_1 + (s6).toNat * 52))), (24, (Value.agg (cat [[(vI x25.Number)], [(vI x25.Version)], Flat.enc x25.Nonce, [u31], [u33], Flat.enc x25.Tag]).toArray)), (25, (vT r35)), (26, (vT (!r35))), (0, v0_1), (1, v1_1), (5, (vI s6)), (11, (vI s6)), (12, v0_1), (13, (vI (p0.length : Int))), (14, (vT (decide (s6 < (p0.length : Int)))))]) ⟨lk rfl f0, lk rfl f1, lk rfl f2, lk rfl f3, lk rfl f4, lk rfl f5, lk rfl f6, lk rfl f7, lk rfl f8, lk rfl f9, rfl, rfl, rfl, rfl, rfl, rfl, rfl, trivial⟩
            refine c_fin0 ?_
            have ht37 := Option.some.inj hl12
            subst ht37
            refine c_mid ?_
            exact ⟨hE.sub ⟨rfl, rfl, rfl, rfl, trivial⟩, hM⟩
        · skip
          rintro a w ⟨hE, hM⟩
          refine c_cond hE rfl ?_ ?_
          · intro hb38
            have hF13 := ite_t hF13 hb38
            refine c_region ?_
            refine s_assign hE goes_none (by decide) rfl ?_; intro a hE
            refine c_fin ?_
            have ht39 := hx8 _ (Option.some.inj hF13).symm
            subst ht39
            have hr := Option.some.inj hF4
            subst hr
            exact wp_ret (r_inb (r_then (r_then (r_inb (r_then (r_then (k_ret1 hE rfl (res_tmp hE rfl) ⟨_, rfl, rfl, hM.kept⟩)))))))
          · intro hb38
            have hF13 := ite_f hF13 hb38
            refine wp_skip ?_
            refine c_nb ?_
            refine c_nx ?_
            refine wp_region_lit ?_
            refine s_move hE goes_none (by decide) rfl ?_; intro a hE
            refine s_int hE goes_none (by decide) rfl rfl rfl ?_; intro a hE
            refine s_assign hE goes_none (by decide) rfl ?_; intro a hE
            refine c_fin0 ?_
            refine c_mid ?_
            exact ⟨_, (Option.some.inj hF13).symm, hE.sub ⟨rfl, rfl, rfl, trivial⟩, hM⟩
      · intro hb10
        have hs7 := ite_f hs7 hb10
        refine wp_exit (e_then (e_then (e_eq ?_)))
        have ht40 := hx8 _ (Option.some.inj hs7).symm
        subst ht40
        refine c_mid ?_
        exact ⟨(), rfl, hE.sub trivial, hM⟩
    · skip
      rintro a w ⟨s5, ht, hE, hM⟩
      subst ht
      refine c_nx ?_
      refine c_region ?_
      refine s_assign hE goes_none (by decide) rfl ?_; intro a hE
      refine c_fin ?_
      have hr := Option.some.inj hF4
      subst hr
      exact wp_ret (k_ret1 hE rfl (res_tmp hE rfl) ⟨_, rfl, rfl, hM.kept⟩)
noncomputable def F_laws_eqEvent (p0 : GEvent) (p1 : GEvent) : Option (Bool) :=
  if (p0.Kind != p1.Kind) = true then (some false) else (if (p0.Number != p1.Number) = true then (some false) else ((F_laws_eqDigest p0.Tag p1.Tag).bind fun (r7 : Bool) => if (!r7) = true then (some false) else (some true)))
set_option maxRecDepth 20000 in
set_option maxHeartbeats 400000 in
theorem c_laws_eqEvent (w0 : World) (p0 : GEvent) (p1 : GEvent) (r : Bool) (hF : F_laws_eqEvent p0 p1 = some r) :
    Calls Try.prog 134 [(Value.agg (Flat.enc p0).toArray), (Value.agg (Flat.enc p1).toArray)].toArray w0 (fun en w' => ∃ v, en = .returned v ∧ (v = (vT r) ∧ Kept (Old w0) w0 w')) := by
  refine c_enter (n := 21) Try.func134 rfl rfl (Nat.le_of_ble_eq_true rfl) rfl ?_
  intro a hE
  have hM := M.start w0
  unfold F_laws_eqEvent at hF
  refine c_region ?_
  refine s_box (cs := cat [[(vI p0.Kind)], [(vI p0.Number)], Flat.enc p0.Tag]) hE hM goes_none (by decide) rfl rfl ?_; intro b1 w a hM hE
  refine s_box (cs := cat [[(vI p1.Kind)], [(vI p1.Number)], Flat.enc p1.Tag]) hE hM goes_none (by decide) rfl rfl ?_; intro b3 w a hM hE
  refine s_assign hE goes_none (by decide) rfl ?_; intro a hE
  refine c_fin ?_
  refine wp_seq ?_
  refine c_region ?_
  refine s_fieldAddr hE goes_none (by decide) rfl (fd109_0) ?_; intro a hE
  refine s_load (v := (vI p0.Kind)) hE goes_none (by decide) rfl ty2 rfl (At.cat (pre := []) (seg := [(vI p0.Kind)]) (post := [[(vI p0.Number)], Flat.enc p0.Tag]) (hM.rawAt (pre := [_])) cl0) ?_; intro a hE
  refine s_fieldAddr hE goes_none (by decide) rfl (fd109_0) ?_; intro a hE
  refine s_load (v := (vI p1.Kind)) hE goes_none (by decide) rfl ty2 rfl (At.cat (pre := []) (seg := [(vI p1.Kind)]) (post := [[(vI p1.Number)], Flat.enc p1.Tag]) (hM.rawAt (pre := [])) cl0) ?_; intro a hE
  refine s_int hE goes_none (by decide) rfl rfl rfl ?_; intro a hE
  refine c_fin ?_
  refine c_cond hE rfl ?_ ?_
  · intro hb5
    have hF := ite_t hF hb5
    refine c_region ?_
    refine s_assign hE goes_none (by decide) rfl ?_; intro a hE
    refine c_fin ?_
    have hr := Option.some.inj hF
    subst hr
    have hM := M.fst (l := []) hM
    exact wp_ret (r_then (k_ret1 hE rfl (res_tmp hE rfl) ⟨_, rfl, rfl, hM.kept⟩))
  · intro hb5
    have hF := ite_f hF hb5
    refine wp_skip ?_
    refine c_nx ?_
    refine wp_seq ?_
    refine c_region ?_
    refine s_fieldAddr hE goes_none (by decide) rfl (fd109_1) ?_; intro a hE
    refine s_load (v := (vI p0.Number)) hE goes_none (by decide) rfl ty2 rfl (At.cat (pre := [[(vI p0.Kind)]]) (seg := [(vI p0.Number)]) (post := [Flat.enc p0.Tag]) (hM.rawAt (pre := [_])) (cl1 (n := 1) (m := 0) rfl cl0)) ?_; intro a hE
    refine s_fieldAddr hE goes_none (by decide) rfl (fd109_1) ?_; intro a hE
    refine s_load (v := (vI p1.Number)) hE goes_none (by decide) rfl ty2 rfl (At.cat (pre := [[(vI p1.Kind)]]) (seg := [(vI p1.Number)]) (post := [Flat.enc p1.Tag]) (hM.rawAt (pre := [])) (cl1 (n := 1) (m := 0) rfl cl0)) ?_; intro a hE
    refine s_int hE goes_none (by decide) rfl rfl rfl ?_; intro a hE
    refine c_fin ?_
    refine c_cond hE rfl ?_ ?_
    · intro hb6
      have hF := ite_t hF hb6
      refine c_region ?_
      refine s_assign hE goes_none (by decide) rfl ?_; intro a hE
      refine c_fin ?_
      have hr := Option.some.inj hF
      subst hr
      have hM := M.fst (l := []) hM
      exact wp_ret (r_then (k_ret1 hE rfl (res_tmp hE rfl) ⟨_, rfl, rfl, hM.kept⟩))
    · intro hb6
      have hF := ite_f hF hb6
      refine wp_skip ?_
      refine c_nx ?_
      refine wp_seq ?_
      refine c_region ?_
      refine s_fieldAddr hE goes_none (by decide) rfl (fd109_2) ?_; intro a hE
      refine s_loadA (cs := Flat.enc p0.Tag) hE goes_none (by decide) rfl ty47 rfl (At.cat (pre := [[(vI p0.Kind)], [(vI p0.Number)]]) (seg := Flat.enc p0.Tag) (post := []) (hM.rawAt (pre := [_])) (cl1 (n := 1) (m := 1) rfl (cl1 (n := 1) (m := 0) rfl cl0))) (Flat.len _) ?_; intro a hE
      refine s_fieldAddr hE goes_none (by decide) rfl (fd109_2) ?_; intro a hE
      refine s_loadA (cs := Flat.enc p1.Tag) hE goes_none (by decide) rfl ty47 rfl (At.cat (pre := [[(vI p1.Kind)], [(vI p1.Number)]]) (seg := Flat.enc p1.Tag) (post := []) (hM.rawAt (pre := [])) (cl1 (n := 1) (m := 1) rfl (cl1 (n := 1) (m := 0) rfl cl0))) (Flat.len _) ?_; intro a hE
      obtain ⟨r7, e8, hF⟩ := bind_some hF
      refine s_call (vs := [(Value.agg (Flat.enc p0.Tag).toArray), (Value.agg (Flat.enc p1.Tag).toArray)]) hE goes_none (by decide) rfl cb88 (c_laws_eqDigest _ p0.Tag p1.Tag r7 e8) ?_
      rintro v w a ⟨rfl, hK⟩ hE
      have hM := hM.keep hK
      refine s_not hE goes_none (by decide) rfl ?_; intro a hE
      refine c_fin ?_
      refine c_cond hE rfl ?_ ?_
      · intro hb9
        have hF := ite_t hF hb9
        refine c_region ?_
        refine s_assign hE goes_none (by decide) rfl ?_; intro a hE
        refine c_fin ?_
        have hr := Option.some.inj hF
        subst hr
        have hM := M.fst (l := []) hM
        exact wp_ret (r_then (k_ret1 hE rfl (res_tmp hE rfl) ⟨_, rfl, rfl, hM.kept⟩))
      · intro hb9
        have hF := ite_f hF hb9
        refine wp_skip ?_
        refine c_nx ?_
        refine c_region ?_
        refine s_assign hE goes_none (by decide) rfl ?_; intro a hE
        refine c_fin ?_
        have hr := Option.some.inj hF
        subst hr
        have hM := M.fst (l := []) hM
        exact wp_ret (k_ret1 hE rfl (res_tmp hE rfl) ⟨_, rfl, rfl, hM.kept⟩)
noncomputable def L0_laws_eqEventS (p0 : (List GEvent)) (p1 : (List GEvent)) (s6 : Int) : Option (Fl Int (Fl Unit Bool)) :=
  if (decide (s6 < (p0.length : Int))) = true then (((idx p0 s6).bind fun (x15 : GEvent) => (idx p1 s6).bind fun (x18 : GEvent) => (F_laws_eqEvent x15 x18).bind fun (r21 : Bool) => some (!r21) : Option (Bool)).bind fun (j11 : Bool) => if j11 = true then (some (Fl.ex (Fl.ex false))) else (some (Fl.nx (wr (s6 + 1))))) else (some (Fl.ex (Fl.nx ())))
noncomputable def F_laws_eqEventS (p0 : (List GEvent)) (p1 : (List GEvent)) : Option (Bool) :=
  if ((p0.length : Int) != (p1.length : Int)) = true then (some false) else ((iter (L0_laws_eqEventS p0 p1) 0 : Option (Fl Unit Bool)).bind fun (j2 : Fl Unit Bool) => j2.el (fun (s5 : Unit) => some true) (fun r => some r))
set_option maxRecDepth 20000 in
set_option maxHeartbeats 400000 in
theorem c_laws_eqEventS (w0 : World) (p0 : (List GEvent)) (v0_1 : Value) (hv0_1 : Ro w0 p0 [v0_1]) (p1 : (List GEvent)) (v1_1 : Value) (hv1_1 : Ro w0 p1 [v1_1]) (r : Bool) (hF : F_laws_eqEventS p0 p1 = some r) :
    Calls Try.prog 87 [v0_1, v1_1].toArray w0 (fun en w' => ∃ v, en = .returned v ∧ (v = (vT r) ∧ Kept (Old w0) w0 w')) := by
  refine c_enter (n := 27) Try.func87 rfl rfl (Nat.le_of_ble_eq_true rfl) rfl ?_
  intro a hE
  have hM := M.start w0
  unfold F_laws_eqEventS at hF
  refine c_region ?_
  refine s_assign hE goes_none (by decide) rfl ?_; intro a hE
  refine c_fin ?_
  refine wp_seq ?_
  refine c_region ?_
  refine s_move hE goes_none (by decide) rfl ?_; intro a hE
  refine s_len hE goes_none (by decide) rfl Try.underlying46 (hM.rd hv0_1) ?_; intro a hE
  refine s_move hE goes_none (by decide) rfl ?_; intro a hE
  refine s_len hE goes_none (by decide) rfl Try.underlying46 (hM.rd hv1_1) ?_; intro a hE
  refine s_int hE goes_none (by decide) rfl rfl rfl ?_; intro a hE
  refine c_fin ?_
  refine c_cond hE rfl ?_ ?_
  · intro hb1
    have hF := ite_t hF hb1
    refine c_region ?_
    refine s_assign hE goes_none (by decide) rfl ?_; intro a hE
    refine c_fin ?_
    have hr := Option.some.inj hF
    subst hr
    exact wp_ret (r_then (k_ret1 hE rfl (res_tmp hE rfl) ⟨_, rfl, rfl, hM.kept⟩))
  · intro hb1
    have hF := ite_f hF hb1
    refine wp_skip ?_
    refine c_nx ?_
    refine wp_seq ?_
    refine c_region ?_
    refine s_assign hE goes_none (by decide) rfl ?_; intro a hE
    refine c_fin ?_
    obtain ⟨j2, hl3, hF4⟩ := bind_some hF
    refine c_cut (fun a w => ∃ s5 : Unit, j2 = Fl.nx s5 ∧ Env 27 a [] ∧ M (Old w0) w0 w []) ?_ ?_
    · skip
      refine wp_block ?_
      refine c_loop (fun (s6 : Int) a w => Env 27 a [(0, v0_1), (1, v1_1), (5, (vI s6))] ∧ M (Old w0) w0 w []) hl3 ⟨hE.sub ⟨rfl, rfl, rfl, trivial⟩, hM⟩ ?_
      rintro s6 a w ⟨hE, hM⟩ o9 hs7 hx8
      unfold L0_laws_eqEventS at hs7
      refine wp_seq ?_
      refine c_region ?_
      refine s_move hE goes_none (by decide) rfl ?_; intro a hE
      refine s_move hE goes_none (by decide) rfl ?_; intro a hE
      refine s_len hE goes_none (by decide) rfl Try.underlying46 (hM.rd hv0_1) ?_; intro a hE
      refine s_int hE goes_none (by decide) rfl rfl rfl ?_; intro a hE
      refine c_fin ?_
      refine c_cond hE rfl ?_ ?_
      · intro hb10
        have hs7 := ite_t hs7 hb10
        refine wp_skip ?_
        refine c_nx ?_
        refine wp_seq ?_
        refine wp_block ?_
        obtain ⟨j11, hl12, hF13⟩ := bind_some hs7
        refine c_join (fun a w => Env 27 a [(0, v0_1), (1, v1_1), (5, (vI s6)), (26, (vT j11))] ∧ M (Old w0) w0 w []) ?_ ?_
        · skip
          obtain ⟨x15, e16, hl12⟩ := bind_some hl12
          have hi17 := idx_some e16
          obtain ⟨x18, e19, hl12⟩ := bind_some hl12
          have hi20 := idx_some e19
          obtain ⟨r21, e22, hl12⟩ := bind_some hl12
          refine c_draw (n := 27) (hd := [_, _, _, _, _, _, _, _, _, _]) (tl := []) hmix rfl rfl [17, 18, 19, 20, 21, 22, 23, 24, 25, 26] (by decide) (fun w => M (Old w0) w0 w []) (fun j => ([fun v _ => v = v0_1, fun v _ => v = (vI s6), fun v _ => v = (ptr (sb v0_1) (so v0_1 + (s6).toNat * 34)), fun v _ => v = (Value.agg (Flat.enc x15).toArray), fun v _ => v = v1_1, fun v _ => v = (vI s6), fun v _ => v = (ptr (sb v1_1) (so v1_1 + (s6).toNat * 34)), fun v _ => v = (Value.agg (Flat.enc x18).toArray), fun v _ => v = (vT r21), fun v _ => v = (vT (!r21))] : List (Value → World → Prop)).getD j (fun _ _ => True)) (fun _ _ h hk => h.keep hk) (gup (gupE (gupE (gupE (gupE (gupE (gupE (gupE (gupE (gupE (gupE gupN))))))))))) hE hM.drew (steps_of (steps_cons ?_ (steps_cons ?_ (steps_cons ?_ (steps_cons ?_ (steps_cons ?_ (steps_cons ?_ (steps_cons ?_ (steps_cons ?_ (steps_cons ?_ (steps_cons ?_ steps_nil))))))))))) ?_
          · intro a w ux14 hE hM hp
            refine s_move hE goes_none (by decide) rfl ?_; intro a hE
            exact ⟨Kept.refl _ _, _, _, rfl, hE, rfl⟩
          · intro a w ux14 hE hM hp
            refine s_move hE goes_none (by decide) rfl ?_; intro a hE
            exact ⟨Kept.refl _ _, _, _, rfl, hE, rfl⟩
          · intro a w ux14 hE hM hp
            have f0 : ux14 0 = v0_1 := hp 0 _ rfl rfl
            have f1 : ux14 1 = (vI s6) := hp 1 _ rfl rfl
            refine s_indexS hE goes_none (by decide) (lk rfl f0) (lk rfl f1) Try.underlying46 ty109 (hM.rd hv0_1) hi17.1 ?_; intro a hE
            exact ⟨Kept.refl _ _, _, _, rfl, hE, rfl⟩
          · intro a w ux14 hE hM hp
            have f2 : ux14 2 = (ptr (sb v0_1) (so v0_1 + (s6).toNat * 34)) := hp 0 _ rfl rfl
            refine s_loadA (cs := Flat.enc x15) hE goes_none (by decide) (lk rfl f2) ty109 rfl (sl_atF (hM.rd hv0_1) hi17.2) (cat_len (cl1 (n := 1) (m := 33) rfl (cl1 (n := 1) (m := 32) rfl (cl1 (n := 32) (m := 0) (Flat.len _) cl0)))) ?_; intro a hE
            exact ⟨Kept.refl _ _, _, _, rfl, hE, rfl⟩
          · intro a w ux14 hE hM hp
            refine s_move hE goes_none (by decide) rfl ?_; intro a hE
            exact ⟨Kept.refl _ _, _, _, rfl, hE, rfl⟩
          · intro a w ux14 hE hM hp
            refine s_move hE goes_none (by decide) rfl ?_; intro a hE
            exact ⟨Kept.refl _ _, _, _, rfl, hE, rfl⟩
          · intro a w ux14 hE hM hp
            have f4 : ux14 4 = v1_1 := hp 0 _ rfl rfl
            have f5 : ux14 5 = (vI s6) := hp 1 _ rfl rfl
            refine s_indexS hE goes_none (by decide) (lk rfl f4) (lk rfl f5) Try.underlying46 ty109 (hM.rd hv1_1) hi20.1 ?_; intro a hE
            exact ⟨Kept.refl _ _, _, _, rfl, hE, rfl⟩
          · intro a w ux14 hE hM hp
            have f6 : ux14 6 = (ptr (sb v1_1) (so v1_1 + (s6).toNat * 34)) := hp 0 _ rfl rfl
            refine s_loadA (cs := Flat.enc x18) hE goes_none (by decide) (lk rfl f6) ty109 rfl (sl_atF (hM.rd hv1_1) hi20.2) (cat_len (cl1 (n := 1) (m := 33) rfl (cl1 (n := 1) (m := 32) rfl (cl1 (n := 32) (m := 0) (Flat.len _) cl0)))) ?_; intro a hE
            exact ⟨Kept.refl _ _, _, _, rfl, hE, rfl⟩
          · intro a w ux14 hE hM hp
            have f3 : ux14 3 = (Value.agg (Flat.enc x15).toArray) := hp 0 _ rfl rfl
            have f7 : ux14 7 = (Value.agg (Flat.enc x18).toArray) := hp 1 _ rfl rfl
            refine s_call (vs := [(Value.agg (Flat.enc x15).toArray), (Value.agg (Flat.enc x18).toArray)]) hE goes_none (by decide) (evs_of (evsC (lk rfl f3) (evsC (lk rfl f7) evsN))) cb134 (c_laws_eqEvent _ x15 x18 r21 e22) ?_
            rintro v w a ⟨rfl, hK⟩ hE
            exact ⟨hK, _, _, rfl, hE, rfl⟩
          · intro a w ux14 hE hM hp
            have f8 : ux14 8 = (vT r21) := hp 0 _ rfl rfl
            refine s_not hE goes_none (by decide) (lk rfl f8) ?_; intro a hE
            exact ⟨Kept.refl _ _, _, _, rfl, hE, rfl⟩
          · intro a w ux14 hE hM hg
            have f0 : ux14 0 = v0_1 := hg 0 (by decide)
            have f1 : ux14 1 = (vI s6) := hg 1 (by decide)
            have f2 : ux14 2 = (ptr (sb v0_1) (so v0_1 + (s6).toNat * 34)) := hg 2 (by decide)
            have f3 : ux14 3 = (Value.agg (Flat.enc x15).toArray) := hg 3 (by decide)
            have f4 : ux14 4 = v1_1 := hg 4 (by decide)
            have f5 : ux14 5 = (vI s6) := hg 5 (by decide)
            have f6 : ux14 6 = (ptr (sb v1_1) (so v1_1 + (s6).toNat * 34)) := hg 6 (by decide)
            have f7 : ux14 7 = (Value.agg (Flat.enc x18).toArray) := hg 7 (by decide)
            have f8 : ux14 8 = (vT r21) := hg 8 (by decide)
            have f9 : ux14 9 = (vT (!r21)) := hg 9 (by decide)
            have hE := hE.sub (e' := [(17, v0_1), (18, (vI s6)), (19, (ptr (sb v0_1) (so v0_1 + (s6).toNat * 34))), (20, (Value.agg (Flat.enc x15).toArray)), (21, v1_1), (22, (vI s6)), (23, (ptr (sb v1_1) (so v1_1 + (s6).toNat * 34))), (24, (Value.agg (Flat.enc x18).toArray)), (25, (vT r21)), (26, (vT (!r21))), (0, v0_1), (1, v1_1), (5, (vI s6)), (11, (vI s6)), (12, v0_1), (13, (vI (p0.length : Int))), (14, (vT (decide (s6 < (p0.length : Int)))))]) ⟨lk rfl f0, lk rfl f1, lk rfl f2, lk rfl f3, lk rfl f4, lk rfl f5, lk rfl f6, lk rfl f7, lk rfl f8, lk rfl f9, rfl, rfl, rfl, rfl, rfl, rfl, rfl, trivial⟩
            refine c_fin0 ?_
            have ht23 := Option.some.inj hl12
            subst ht23
            refine c_mid ?_
            exact ⟨hE.sub ⟨rfl, rfl, rfl, rfl, trivial⟩, hM⟩
        · skip
          rintro a w ⟨hE, hM⟩
          refine c_cond hE rfl ?_ ?_
          · intro hb24
            have hF13 := ite_t hF13 hb24
            refine c_region ?_
            refine s_assign hE goes_none (by decide) rfl ?_; intro a hE
            refine c_fin ?_
            have ht25 := hx8 _ (Option.some.inj hF13).symm
            subst ht25
            have hr := Option.some.inj hF4
            subst hr
            exact wp_ret (r_inb (r_then (r_then (r_inb (r_then (r_then (k_ret1 hE rfl (res_tmp hE rfl) ⟨_, rfl, rfl, hM.kept⟩)))))))
          · intro hb24
            have hF13 := ite_f hF13 hb24
            refine wp_skip ?_
            refine c_nb ?_
            refine c_nx ?_
            refine wp_region_lit ?_
            refine s_move hE goes_none (by decide) rfl ?_; intro a hE
            refine s_int hE goes_none (by decide) rfl rfl rfl ?_; intro a hE
            refine s_assign hE goes_none (by decide) rfl ?_; intro a hE
            refine c_fin0 ?_
            refine c_mid ?_
            exact ⟨_, (Option.some.inj hF13).symm, hE.sub ⟨rfl, rfl, rfl, trivial⟩, hM⟩
      · intro hb10
        have hs7 := ite_f hs7 hb10
        refine wp_exit (e_then (e_then (e_eq ?_)))
        have ht26 := hx8 _ (Option.some.inj hs7).symm
        subst ht26
        refine c_mid ?_
        exact ⟨(), rfl, hE.sub trivial, hM⟩
    · skip
      rintro a w ⟨s5, ht, hE, hM⟩
      subst ht
      refine c_nx ?_
      refine c_region ?_
      refine s_assign hE goes_none (by decide) rfl ?_; intro a hE
      refine c_fin ?_
      have hr := Option.some.inj hF4
      subst hr
      exact wp_ret (k_ret1 hE rfl (res_tmp hE rfl) ⟨_, rfl, rfl, hM.kept⟩)
noncomputable def F_laws_eqVault (p0 : GVault) (p1 : GVault) : Option (Bool) :=
  (F_laws_eqBlockS p0.Keys p1.Keys).bind fun (r5 : Bool) => if (!r5) = true then (some false) else (if (p0.Next != p1.Next) = true then (some false) else ((F_laws_eqRecordS p0.Records p1.Records).bind fun (r9 : Bool) => if (!r9) = true then (some false) else ((F_laws_eqEventS p0.Events p1.Events).bind fun (r12 : Bool) => if (!r12) = true then (some false) else ((F_laws_eqDigest p0.Head p1.Head).bind fun (r15 : Bool) => if (!r15) = true then (some false) else (some true)))))
set_option maxRecDepth 20000 in
set_option maxHeartbeats 400000 in
theorem c_laws_eqVault (w0 : World) (p0 : GVault) (v0_1 : Value) (hv0_1 : Ro w0 p0.Keys [v0_1]) (v0_2 : Value) (hv0_2 : Ro w0 p0.Records [v0_2]) (v0_3 : Value) (hv0_3 : Ro w0 p0.Events [v0_3]) (p1 : GVault) (v1_1 : Value) (hv1_1 : Ro w0 p1.Keys [v1_1]) (v1_2 : Value) (hv1_2 : Ro w0 p1.Records [v1_2]) (v1_3 : Value) (hv1_3 : Ro w0 p1.Events [v1_3]) (r : Bool) (hF : F_laws_eqVault p0 p1 = some r) :
    Calls Try.prog 28 [(Value.agg (cat [[v0_1], [(vI p0.Next)], [v0_2], [v0_3], Flat.enc p0.Head]).toArray), (Value.agg (cat [[v1_1], [(vI p1.Next)], [v1_2], [v1_3], Flat.enc p1.Head]).toArray)].toArray w0 (fun en w' => ∃ v, en = .returned v ∧ (v = (vT r) ∧ Kept (Old w0) w0 w')) := by
  refine c_enter (n := 34) Try.func28 rfl rfl (Nat.le_of_ble_eq_true rfl) rfl ?_
  intro a hE
  have hM := M.start w0
  unfold F_laws_eqVault at hF
  refine c_region ?_
  refine s_box (cs := cat [[v0_1], [(vI p0.Next)], [v0_2], [v0_3], Flat.enc p0.Head]) hE hM goes_none (by decide) rfl rfl ?_; intro b1 w a hM hE
  refine s_box (cs := cat [[v1_1], [(vI p1.Next)], [v1_2], [v1_3], Flat.enc p1.Head]) hE hM goes_none (by decide) rfl rfl ?_; intro b3 w a hM hE
  refine s_assign hE goes_none (by decide) rfl ?_; intro a hE
  refine c_fin ?_
  refine wp_seq ?_
  refine c_region ?_
  refine s_fieldAddr hE goes_none (by decide) rfl (fd49_0) ?_; intro a hE
  refine s_load (v := v0_1) hE goes_none (by decide) rfl ty44 rfl (At.cat (pre := []) (seg := [v0_1]) (post := [[(vI p0.Next)], [v0_2], [v0_3], Flat.enc p0.Head]) (hM.rawAt (pre := [_])) cl0) ?_; intro a hE
  refine s_fieldAddr hE goes_none (by decide) rfl (fd49_0) ?_; intro a hE
  refine s_load (v := v1_1) hE goes_none (by decide) rfl ty44 rfl (At.cat (pre := []) (seg := [v1_1]) (post := [[(vI p1.Next)], [v1_2], [v1_3], Flat.enc p1.Head]) (hM.rawAt (pre := [])) cl0) ?_; intro a hE
  obtain ⟨r5, e6, hF⟩ := bind_some hF
  refine s_call (vs := [v0_1, v1_1]) hE goes_none (by decide) rfl cb85 (c_laws_eqBlockS _ p0.Keys v0_1 (hM.rdo hv0_1) p1.Keys v1_1 (hM.rdo hv1_1) r5 e6) ?_
  rintro v w a ⟨rfl, hK⟩ hE
  have hM := hM.keep hK
  refine s_not hE goes_none (by decide) rfl ?_; intro a hE
  refine c_fin ?_
  refine c_cond hE rfl ?_ ?_
  · intro hb7
    have hF := ite_t hF hb7
    refine c_region ?_
    refine s_assign hE goes_none (by decide) rfl ?_; intro a hE
    refine c_fin ?_
    have hr := Option.some.inj hF
    subst hr
    have hM := M.fst (l := []) hM
    exact wp_ret (r_then (k_ret1 hE rfl (res_tmp hE rfl) ⟨_, rfl, rfl, hM.kept⟩))
  · intro hb7
    have hF := ite_f hF hb7
    refine wp_skip ?_
    refine c_nx ?_
    refine wp_seq ?_
    refine c_region ?_
    refine s_fieldAddr hE goes_none (by decide) rfl (fd49_1) ?_; intro a hE
    refine s_load (v := (vI p0.Next)) hE goes_none (by decide) rfl ty2 rfl (At.cat (pre := [[v0_1]]) (seg := [(vI p0.Next)]) (post := [[v0_2], [v0_3], Flat.enc p0.Head]) (hM.rawAt (pre := [_])) (cl1 (n := 1) (m := 0) rfl cl0)) ?_; intro a hE
    refine s_fieldAddr hE goes_none (by decide) rfl (fd49_1) ?_; intro a hE
    refine s_load (v := (vI p1.Next)) hE goes_none (by decide) rfl ty2 rfl (At.cat (pre := [[v1_1]]) (seg := [(vI p1.Next)]) (post := [[v1_2], [v1_3], Flat.enc p1.Head]) (hM.rawAt (pre := [])) (cl1 (n := 1) (m := 0) rfl cl0)) ?_; intro a hE
    refine s_int hE goes_none (by decide) rfl rfl rfl ?_; intro a hE
    refine c_fin ?_
    refine c_cond hE rfl ?_ ?_
    · intro hb8
      have hF := ite_t hF hb8
      refine c_region ?_
      refine s_assign hE goes_none (by decide) rfl ?_; intro a hE
      refine c_fin ?_
      have hr := Option.some.inj hF
      subst hr
      have hM := M.fst (l := []) hM
      exact wp_ret (r_then (k_ret1 hE rfl (res_tmp hE rfl) ⟨_, rfl, rfl, hM.kept⟩))
    · intro hb8
      have hF := ite_f hF hb8
      refine wp_skip ?_
      refine c_nx ?_
      refine wp_seq ?_
      refine c_region ?_
      refine s_fieldAddr hE goes_none (by decide) rfl (fd49_2) ?_; intro a hE
      refine s_load (v := v0_2) hE goes_none (by decide) rfl ty45 rfl (At.cat (pre := [[v0_1], [(vI p0.Next)]]) (seg := [v0_2]) (post := [[v0_3], Flat.enc p0.Head]) (hM.rawAt (pre := [_])) (cl1 (n := 1) (m := 1) rfl (cl1 (n := 1) (m := 0) rfl cl0))) ?_; intro a hE
      refine s_fieldAddr hE goes_none (by decide) rfl (fd49_2) ?_; intro a hE
      refine s_load (v := v1_2) hE goes_none (by decide) rfl ty45 rfl (At.cat (pre := [[v1_1], [(vI p1.Next)]]) (seg := [v1_2]) (post := [[v1_3], Flat.enc p1.Head]) (hM.rawAt (pre := [])) (cl1 (n := 1) (m := 1) rfl (cl1 (n := 1) (m := 0) rfl cl0))) ?_; intro a hE
      obtain ⟨r9, e10, hF⟩ := bind_some hF
      refine s_call (vs := [v0_2, v1_2]) hE goes_none (by decide) rfl cb86 (c_laws_eqRecordS _ p0.Records v0_2 (hM.rdo hv0_2) p1.Records v1_2 (hM.rdo hv1_2) r9 e10) ?_
      rintro v w a ⟨rfl, hK⟩ hE
      have hM := hM.keep hK
      refine s_not hE goes_none (by decide) rfl ?_; intro a hE
      refine c_fin ?_
      refine c_cond hE rfl ?_ ?_
      · intro hb11
        have hF := ite_t hF hb11
        refine c_region ?_
        refine s_assign hE goes_none (by decide) rfl ?_; intro a hE
        refine c_fin ?_
        have hr := Option.some.inj hF
        subst hr
        have hM := M.fst (l := []) hM
        exact wp_ret (r_then (k_ret1 hE rfl (res_tmp hE rfl) ⟨_, rfl, rfl, hM.kept⟩))
      · intro hb11
        have hF := ite_f hF hb11
        refine wp_skip ?_
        refine c_nx ?_
        refine wp_seq ?_
        refine c_region ?_
        refine s_fieldAddr hE goes_none (by decide) rfl (fd49_3) ?_; intro a hE
        refine s_load (v := v0_3) hE goes_none (by decide) rfl ty46 rfl (At.cat (pre := [[v0_1], [(vI p0.Next)], [v0_2]]) (seg := [v0_3]) (post := [Flat.enc p0.Head]) (hM.rawAt (pre := [_])) (cl1 (n := 1) (m := 2) rfl (cl1 (n := 1) (m := 1) rfl (cl1 (n := 1) (m := 0) rfl cl0)))) ?_; intro a hE
        refine s_fieldAddr hE goes_none (by decide) rfl (fd49_3) ?_; intro a hE
        refine s_load (v := v1_3) hE goes_none (by decide) rfl ty46 rfl (At.cat (pre := [[v1_1], [(vI p1.Next)], [v1_2]]) (seg := [v1_3]) (post := [Flat.enc p1.Head]) (hM.rawAt (pre := [])) (cl1 (n := 1) (m := 2) rfl (cl1 (n := 1) (m := 1) rfl (cl1 (n := 1) (m := 0) rfl cl0)))) ?_; intro a hE
        obtain ⟨r12, e13, hF⟩ := bind_some hF
        refine s_call (vs := [v0_3, v1_3]) hE goes_none (by decide) rfl cb87 (c_laws_eqEventS _ p0.Events v0_3 (hM.rdo hv0_3) p1.Events v1_3 (hM.rdo hv1_3) r12 e13) ?_
        rintro v w a ⟨rfl, hK⟩ hE
        have hM := hM.keep hK
        refine s_not hE goes_none (by decide) rfl ?_; intro a hE
        refine c_fin ?_
        refine c_cond hE rfl ?_ ?_
        · intro hb14
          have hF := ite_t hF hb14
          refine c_region ?_
          refine s_assign hE goes_none (by decide) rfl ?_; intro a hE
          refine c_fin ?_
          have hr := Option.some.inj hF
          subst hr
          have hM := M.fst (l := []) hM
          exact wp_ret (r_then (k_ret1 hE rfl (res_tmp hE rfl) ⟨_, rfl, rfl, hM.kept⟩))
        · intro hb14
          have hF := ite_f hF hb14
          refine wp_skip ?_
          refine c_nx ?_
          refine wp_seq ?_
          refine c_region ?_
          refine s_fieldAddr hE goes_none (by decide) rfl (fd49_4) ?_; intro a hE
          refine s_loadA (cs := Flat.enc p0.Head) hE goes_none (by decide) rfl ty47 rfl (At.cat (pre := [[v0_1], [(vI p0.Next)], [v0_2], [v0_3]]) (seg := Flat.enc p0.Head) (post := []) (hM.rawAt (pre := [_])) (cl1 (n := 1) (m := 3) rfl (cl1 (n := 1) (m := 2) rfl (cl1 (n := 1) (m := 1) rfl (cl1 (n := 1) (m := 0) rfl cl0))))) (Flat.len _) ?_; intro a hE
          refine s_fieldAddr hE goes_none (by decide) rfl (fd49_4) ?_; intro a hE
          refine s_loadA (cs := Flat.enc p1.Head) hE goes_none (by decide) rfl ty47 rfl (At.cat (pre := [[v1_1], [(vI p1.Next)], [v1_2], [v1_3]]) (seg := Flat.enc p1.Head) (post := []) (hM.rawAt (pre := [])) (cl1 (n := 1) (m := 3) rfl (cl1 (n := 1) (m := 2) rfl (cl1 (n := 1) (m := 1) rfl (cl1 (n := 1) (m := 0) rfl cl0))))) (Flat.len _) ?_; intro a hE
          obtain ⟨r15, e16, hF⟩ := bind_some hF
          refine s_call (vs := [(Value.agg (Flat.enc p0.Head).toArray), (Value.agg (Flat.enc p1.Head).toArray)]) hE goes_none (by decide) rfl cb88 (c_laws_eqDigest _ p0.Head p1.Head r15 e16) ?_
          rintro v w a ⟨rfl, hK⟩ hE
          have hM := hM.keep hK
          refine s_not hE goes_none (by decide) rfl ?_; intro a hE
          refine c_fin ?_
          refine c_cond hE rfl ?_ ?_
          · intro hb17
            have hF := ite_t hF hb17
            refine c_region ?_
            refine s_assign hE goes_none (by decide) rfl ?_; intro a hE
            refine c_fin ?_
            have hr := Option.some.inj hF
            subst hr
            have hM := M.fst (l := []) hM
            exact wp_ret (r_then (k_ret1 hE rfl (res_tmp hE rfl) ⟨_, rfl, rfl, hM.kept⟩))
          · intro hb17
            have hF := ite_f hF hb17
            refine wp_skip ?_
            refine c_nx ?_
            refine c_region ?_
            refine s_assign hE goes_none (by decide) rfl ?_; intro a hE
            refine c_fin ?_
            have hr := Option.some.inj hF
            subst hr
            have hM := M.fst (l := []) hM
            exact wp_ret (k_ret1 hE rfl (res_tmp hE rfl) ⟨_, rfl, rfl, hM.kept⟩)
noncomputable def F_laws_FnExactIsVault (p0 : GVault) : Option (Bool) :=
  (F_laws_szVault p0 1048576).bind fun (r3 : Int) => if (decide (r3 < 0)) = true then (some true) else ((F_laws_toVault p0).bind fun (r6 : GVault) => (F_spec_IsVault r6).bind fun (r11 : Bool) => (F_laws_toVault p0).bind fun (r13 : GVault) => (F_impl_IsVault r13).bind fun (r20 : Bool) => if (r20 != r11) = true then (some false) else (((F_laws_toVault p0).bind fun (r27 : GVault) => (F_laws_eqVault r13 r27).bind fun (r36 : Bool) => some (!r36) : Option (Bool)).bind fun (j23 : Bool) => if j23 = true then (some false) else (some true)))
set_option maxRecDepth 20000 in
set_option maxHeartbeats 400000 in
theorem c_laws_FnExactIsVault (w0 : World) (p0 : GVault) (v0_1 : Value) (hv0_1 : Ro w0 p0.Keys [v0_1]) (v0_2 : Value) (hv0_2 : Ro w0 p0.Records [v0_2]) (v0_3 : Value) (hv0_3 : Ro w0 p0.Events [v0_3]) (r : Bool) (hF : F_laws_FnExactIsVault p0 = some r) :
    Calls Try.prog 5 [(Value.agg (cat [[v0_1], [(vI p0.Next)], [v0_2], [v0_3], Flat.enc p0.Head]).toArray)].toArray w0 (fun en w' => ∃ v, en = .returned v ∧ (v = (vT r) ∧ Kept (Old w0) w0 w')) := by
  refine c_enter (n := 27) Try.func5 rfl rfl (Nat.le_of_ble_eq_true rfl) rfl ?_
  intro a hE
  have hM := M.start w0
  unfold F_laws_FnExactIsVault at hF
  refine c_region ?_
  refine s_box (cs := cat [[v0_1], [(vI p0.Next)], [v0_2], [v0_3], Flat.enc p0.Head]) hE hM goes_none (by decide) rfl rfl ?_; intro b1 w a hM hE
  refine s_assign hE goes_none (by decide) rfl ?_; intro a hE
  refine c_fin ?_
  refine c_region ?_
  refine s_assign hE goes_none (by decide) rfl ?_; intro a hE
  refine c_fin ?_
  refine c_region ?_
  refine s_loadA (cs := cat [[v0_1], [(vI p0.Next)], [v0_2], [v0_3], Flat.enc p0.Head]) hE goes_none (by decide) rfl ty41 rfl (hM.rawAt (pre := [])) (cat_len (cl1 (n := 1) (m := 35) rfl (cl1 (n := 1) (m := 34) rfl (cl1 (n := 1) (m := 33) rfl (cl1 (n := 1) (m := 32) rfl (cl1 (n := 32) (m := 0) (Flat.len _) cl0)))))) ?_; intro a hE
  refine s_move hE goes_none (by decide) rfl ?_; intro a hE
  obtain ⟨r3, e4, hF⟩ := bind_some hF
  refine s_call (vs := [(Value.agg (cat [[v0_1], [(vI p0.Next)], [v0_2], [v0_3], Flat.enc p0.Head]).toArray), (vI 1048576)]) hE goes_none (by decide) rfl cb24 (c_laws_szVault _ p0 v0_1 (hM.rdo hv0_1) v0_2 (hM.rdo hv0_2) v0_3 (hM.rdo hv0_3) 1048576 r3 e4) ?_
  rintro v w a ⟨rfl, hK⟩ hE
  have hM := hM.keep hK
  refine s_assign hE goes_none (by decide) rfl ?_; intro a hE
  refine c_fin ?_
  refine wp_seq ?_
  refine c_region ?_
  refine s_move hE goes_none (by decide) rfl ?_; intro a hE
  refine s_int hE goes_none (by decide) rfl rfl rfl ?_; intro a hE
  refine c_fin ?_
  refine c_cond hE rfl ?_ ?_
  · intro hb5
    have hF := ite_t hF hb5
    refine c_region ?_
    refine s_assign hE goes_none (by decide) rfl ?_; intro a hE
    refine c_fin ?_
    have hr := Option.some.inj hF
    subst hr
    have hM := M.fst (l := []) hM
    exact wp_ret (r_then (k_ret1 hE rfl (res_tmp hE rfl) ⟨_, rfl, rfl, hM.kept⟩))
  · intro hb5
    have hF := ite_f hF hb5
    refine wp_skip ?_
    refine c_nx ?_
    refine c_region ?_
    refine s_loadA (cs := cat [[v0_1], [(vI p0.Next)], [v0_2], [v0_3], Flat.enc p0.Head]) hE goes_none (by decide) rfl ty41 rfl (hM.rawAt (pre := [])) (cat_len (cl1 (n := 1) (m := 35) rfl (cl1 (n := 1) (m := 34) rfl (cl1 (n := 1) (m := 33) rfl (cl1 (n := 1) (m := 32) rfl (cl1 (n := 32) (m := 0) (Flat.len _) cl0)))))) ?_; intro a hE
    obtain ⟨r6, e7, hF⟩ := bind_some hF
    refine s_call (vs := [(Value.agg (cat [[v0_1], [(vI p0.Next)], [v0_2], [v0_3], Flat.enc p0.Head]).toArray)]) hE goes_none (by decide) rfl cb26 (c_laws_toVault _ p0 v0_1 (hM.rdo hv0_1) v0_2 (hM.rdo hv0_2) v0_3 (hM.rdo hv0_3) r6 e7) ?_
    rintro v w a ⟨u8, u9, u10, rfl, hFr, hK⟩ hE
    have hM := hM.add hK hFr
    obtain ⟨r11, e12, hF⟩ := bind_some hF
    refine s_call (vs := [(Value.agg (cat [[u8], [(vI r6.Next)], [u9], [u10], Flat.enc r6.Head]).toArray)]) hE goes_none (by decide) rfl cb25 (c_spec_IsVault _ r6 u8 (hM.sl (pre := []) noB) u9 (hM.sl (pre := [_]) noB) u10 (hM.sl (pre := [_, _]) noB) r11 e12) ?_
    rintro v w a ⟨rfl, hK⟩ hE
    have hM := hM.keep hK
    refine s_assign hE goes_none (by decide) rfl ?_; intro a hE
    refine c_fin ?_
    refine c_region ?_
    refine s_loadA (cs := cat [[v0_1], [(vI p0.Next)], [v0_2], [v0_3], Flat.enc p0.Head]) hE goes_none (by decide) rfl ty41 rfl (hM.rawAt (pre := [_, _, _])) (cat_len (cl1 (n := 1) (m := 35) rfl (cl1 (n := 1) (m := 34) rfl (cl1 (n := 1) (m := 33) rfl (cl1 (n := 1) (m := 32) rfl (cl1 (n := 32) (m := 0) (Flat.len _) cl0)))))) ?_; intro a hE
    obtain ⟨r13, e14, hF⟩ := bind_some hF
    refine s_call (vs := [(Value.agg (cat [[v0_1], [(vI p0.Next)], [v0_2], [v0_3], Flat.enc p0.Head]).toArray)]) hE goes_none (by decide) rfl cb26 (c_laws_toVault _ p0 v0_1 (hM.rdo hv0_1) v0_2 (hM.rdo hv0_2) v0_3 (hM.rdo hv0_3) r13 e14) ?_
    rintro v w a ⟨u15, u16, u17, rfl, hFr, hK⟩ hE
    have hM := hM.add hK hFr
    refine s_alloc hE hM goes_none (by decide) ty49 ?_; intro b18 w a hM hE
    refine s_store (seg := cat [[u15], [(vI r13.Next)], [u16], [u17], Flat.enc r13.Head]) (cs' := cat [[u15], [(vI r13.Next)], [u16], [u17], Flat.enc r13.Head]) hE hM goes_none rfl rfl rfl ty49 (cat_len (cl1 (n := 1) (m := 35) rfl (cl1 (n := 1) (m := 34) rfl (cl1 (n := 1) (m := 33) rfl (cl1 (n := 1) (m := 32) rfl (cl1 (n := 32) (m := 0) (Flat.len _) cl0)))))) (Nat.le_of_eq (by rw [Nat.zero_add]; exact (Eq.trans (cat_len (cl1 (n := 1) (m := 35) rfl (cl1 (n := 1) (m := 34) rfl (cl1 (n := 1) (m := 33) rfl (cl1 (n := 1) (m := 32) rfl (cl1 (n := 32) (m := 0) (Flat.len _) cl0)))))) (Eq.symm (cat_len (cl1 (n := 1) (m := 35) rfl (cl1 (n := 1) (m := 34) rfl (cl1 (n := 1) (m := 33) rfl (cl1 (n := 1) (m := 32) rfl (cl1 (n := 32) (m := 0) (Flat.len _) cl0)))))))))) (cat_cell (cc1 (Rep.cell (hM.sl (pre := [_]) noB)) (cc1 (Flat.cell r13.Next) (cc1 (Rep.cell (hM.sl (pre := [_, _]) noB)) (cc1 (Rep.cell (hM.sl (pre := [_, _, _]) noB)) (cc1 (Flat.cell _) cc0)))))) (splice_all (Eq.trans (cat_len (cl1 (n := 1) (m := 35) rfl (cl1 (n := 1) (m := 34) rfl (cl1 (n := 1) (m := 33) rfl (cl1 (n := 1) (m := 32) rfl (cl1 (n := 32) (m := 0) (Flat.len _) cl0)))))) (Eq.symm (cat_len (cl1 (n := 1) (m := 35) rfl (cl1 (n := 1) (m := 34) rfl (cl1 (n := 1) (m := 33) rfl (cl1 (n := 1) (m := 32) rfl (cl1 (n := 32) (m := 0) (Flat.len _) cl0))))))))) ?_; intro w a hM hE
    refine c_fin ?_
    refine c_region ?_
    refine s_loadA (cs := cat [[u15], [(vI r13.Next)], [u16], [u17], Flat.enc r13.Head]) hE goes_none (by decide) rfl ty49 rfl (hM.rawAt (pre := [])) (cat_len (cl1 (n := 1) (m := 35) rfl (cl1 (n := 1) (m := 34) rfl (cl1 (n := 1) (m := 33) rfl (cl1 (n := 1) (m := 32) rfl (cl1 (n := 32) (m := 0) (Flat.len _) cl0)))))) ?_; intro a hE
    obtain ⟨r20, e21, hF⟩ := bind_some hF
    refine s_call (vs := [(Value.agg (cat [[u15], [(vI r13.Next)], [u16], [u17], Flat.enc r13.Head]).toArray)]) hE goes_none (by decide) rfl cb27 (c_impl_IsVault _ r13 u15 (hM.sl (pre := [_]) noB) u16 (hM.sl (pre := [_, _]) noB) u17 (hM.sl (pre := [_, _, _]) noB) r20 e21) ?_
    rintro v w a ⟨rfl, hK⟩ hE
    have hM := hM.keep hK
    refine s_assign hE goes_none (by decide) rfl ?_; intro a hE
    refine c_fin ?_
    refine wp_seq ?_
    refine c_region ?_
    refine s_move hE goes_none (by decide) rfl ?_; intro a hE
    refine s_move hE goes_none (by decide) rfl ?_; intro a hE
    refine s_neT hE goes_none (by decide) rfl rfl Try.underlying4 ?_; intro a hE
    refine c_fin ?_
    refine c_cond hE rfl ?_ ?_
    · intro hb22
      have hF := ite_t hF hb22
      refine c_region ?_
      refine s_assign hE goes_none (by decide) rfl ?_; intro a hE
      refine c_fin ?_
      have hr := Option.some.inj hF
      subst hr
      have hM := M.fst (l := []) hM
      exact wp_ret (r_then (k_ret1 hE rfl (res_tmp hE rfl) ⟨_, rfl, rfl, hM.kept⟩))
    · intro hb22
      have hF := ite_f hF hb22
      refine wp_skip ?_
      refine c_nx ?_
      refine wp_seq ?_
      obtain ⟨j23, hl24, hF25⟩ := bind_some hF
      refine c_join (fun a w => Env 27 a [(26, (vT j23))] ∧ M (Old w0) w0 w []) ?_ ?_
      · skip
        obtain ⟨r27, e28, hl24⟩ := bind_some hl24
        refine c_draw2 (n := 27) (hd := [_, _, _]) (tl := [_, _]) (its := [raw b18 (cat [[u15], [(vI r13.Next)], [u16], [u17], Flat.enc r13.Head]), osl NoB (r13.Keys : List (Vector UInt8 16)) u15, osl NoB (r13.Records : List GRecord) u16, osl NoB (r13.Events : List GEvent) u17, osl NoB (r6.Keys : List (Vector UInt8 16)) u8, osl NoB (r6.Records : List GRecord) u9, osl NoB (r6.Events : List GEvent) u10, raw b1 (cat [[v0_1], [(vI p0.Next)], [v0_2], [v0_3], Flat.enc p0.Head])]) hmix rfl rfl [22, 23, 24] (by decide) [(2, fun v => own NoB r27 (Value.cells v).toList)] rfl (fun j => ([fun v => v = (Value.agg (cat [[u15], [(vI r13.Next)], [u16], [u17], Flat.enc r13.Head]).toArray), fun v => v = (Value.agg (cat [[v0_1], [(vI p0.Next)], [v0_2], [v0_3], Flat.enc p0.Head]).toArray), fun v => ∃ cs, v = .agg cs] : List (Value → Prop)).getD j (fun _ => True)) hE hM.drew (steps_of (steps_cons ?_ (steps_cons ?_ (steps_cons ?_ steps_nil)))) ?_
        · intro a w ux26 D hE hM hD hp
          have hM0 := hM
          have hM : M (Old w0) w0 w [raw b18 (cat [[u15], [(vI r13.Next)], [u16], [u17], Flat.enc r13.Head]), osl NoB (r13.Keys : List (Vector UInt8 16)) u15, osl NoB (r13.Records : List GRecord) u16, osl NoB (r13.Events : List GEvent) u17, osl NoB (r6.Keys : List (Vector UInt8 16)) u8, osl NoB (r6.Records : List GRecord) u9, osl NoB (r6.Events : List GEvent) u10, raw b1 (cat [[v0_1], [(vI p0.Next)], [v0_2], [v0_3], Flat.enc p0.Head]), opt (D 2) (own NoB r27 (Value.cells (ux26 2)).toList)] := hM
          refine s_loadA (cs := cat [[u15], [(vI r13.Next)], [u16], [u17], Flat.enc r13.Head]) hE goes_none (by decide) rfl ty49 rfl (hM.rawAt (pre := [])) (cat_len (cl1 (n := 1) (m := 35) rfl (cl1 (n := 1) (m := 34) rfl (cl1 (n := 1) (m := 33) rfl (cl1 (n := 1) (m := 32) rfl (cl1 (n := 32) (m := 0) (Flat.len _) cl0)))))) ?_; intro a hE
          exact ⟨_, _, rfl, hE, rfl, hM0.optKeep rfl⟩
        · intro a w ux26 D hE hM hD hp
          have hM0 := hM
          have hM : M (Old w0) w0 w [raw b18 (cat [[u15], [(vI r13.Next)], [u16], [u17], Flat.enc r13.Head]), osl NoB (r13.Keys : List (Vector UInt8 16)) u15, osl NoB (r13.Records : List GRecord) u16, osl NoB (r13.Events : List GEvent) u17, osl NoB (r6.Keys : List (Vector UInt8 16)) u8, osl NoB (r6.Records : List GRecord) u9, osl NoB (r6.Events : List GEvent) u10, raw b1 (cat [[v0_1], [(vI p0.Next)], [v0_2], [v0_3], Flat.enc p0.Head]), opt (D 2) (own NoB r27 (Value.cells (ux26 2)).toList)] := hM
          refine s_loadA (cs := cat [[v0_1], [(vI p0.Next)], [v0_2], [v0_3], Flat.enc p0.Head]) hE goes_none (by decide) rfl ty41 rfl (hM.rawAt (pre := [_, _, _, _, _, _, _])) (cat_len (cl1 (n := 1) (m := 35) rfl (cl1 (n := 1) (m := 34) rfl (cl1 (n := 1) (m := 33) rfl (cl1 (n := 1) (m := 32) rfl (cl1 (n := 32) (m := 0) (Flat.len _) cl0)))))) ?_; intro a hE
          exact ⟨_, _, rfl, hE, rfl, hM0.optKeep rfl⟩
        · intro a w ux26 D hE hM hD hp
          have f1 : ux26 1 = (Value.agg (cat [[v0_1], [(vI p0.Next)], [v0_2], [v0_3], Flat.enc p0.Head]).toArray) := (hp 0 _ rfl rfl).2
          have hM0 := hM
          have hM : M (Old w0) w0 w [raw b18 (cat [[u15], [(vI r13.Next)], [u16], [u17], Flat.enc r13.Head]), osl NoB (r13.Keys : List (Vector UInt8 16)) u15, osl NoB (r13.Records : List GRecord) u16, osl NoB (r13.Events : List GEvent) u17, osl NoB (r6.Keys : List (Vector UInt8 16)) u8, osl NoB (r6.Records : List GRecord) u9, osl NoB (r6.Events : List GEvent) u10, raw b1 (cat [[v0_1], [(vI p0.Next)], [v0_2], [v0_3], Flat.enc p0.Head]), opt (D 2) (own NoB r27 (Value.cells (ux26 2)).toList)] := hM
          refine s_call (vs := [(Value.agg (cat [[v0_1], [(vI p0.Next)], [v0_2], [v0_3], Flat.enc p0.Head]).toArray)]) hE goes_none (by decide) (evs_of (evsC (lk rfl f1) evsN)) cb26 (c_laws_toVault _ p0 v0_1 (hM.rdo hv0_1) v0_2 (hM.rdo hv0_2) v0_3 (hM.rdo hv0_3) r27 e28) ?_
          rintro _ w a ⟨u29, u30, u31, rfl, hFr, hK⟩ hE
          have hM := hM0.add hK hFr
          have hM := hM.packL (m := [osl NoB (r27.Keys : List (Vector UInt8 16)) u29, osl NoB (r27.Records : List GRecord) u30, osl NoB (r27.Events : List GEvent) u31]) (it := own NoB r27 (cat [[u29], [(vI r27.Next)], [u30], [u31], Flat.enc r27.Head])) (own_loc noB) (fun fp h => by obtain ⟨_, _, rfl, _, s1, _, _, rfl, _, s2, _, _, rfl, _, s3, rfl⟩ := h; exact pk_GVault (OwnSl.sat s1) (OwnSl.sat s2) (OwnSl.sat s3) (by simp))
          exact ⟨_, _, rfl, hE, ⟨_, rfl⟩, M.optFill (mk1 := []) (mk2 := []) (f := (fun v => own NoB r27 (Value.cells v).toList)) hM rfl hD⟩
        · intro a w ux26 hE hM hg
          have f0 : ux26 0 = (Value.agg (cat [[u15], [(vI r13.Next)], [u16], [u17], Flat.enc r13.Head]).toArray) := hg 0 (by decide)
          have f1 : ux26 1 = (Value.agg (cat [[v0_1], [(vI p0.Next)], [v0_2], [v0_3], Flat.enc p0.Head]).toArray) := hg 1 (by decide)
          have hM : M (Old w0) w0 w [raw b18 (cat [[u15], [(vI r13.Next)], [u16], [u17], Flat.enc r13.Head]), osl NoB (r13.Keys : List (Vector UInt8 16)) u15, osl NoB (r13.Records : List GRecord) u16, osl NoB (r13.Events : List GEvent) u17, osl NoB (r6.Keys : List (Vector UInt8 16)) u8, osl NoB (r6.Records : List GRecord) u9, osl NoB (r6.Events : List GEvent) u10, raw b1 (cat [[v0_1], [(vI p0.Next)], [v0_2], [v0_3], Flat.enc p0.Head]), own NoB r27 (Value.cells (ux26 2)).toList] := hM
          obtain ⟨q2_1, q2_2, q2_3, hcz, hq2_1, hq2_2, hq2_3⟩ := un_GVault (hM.ro (pre := [_, _, _, _, _, _, _, _]) (fun b hb => hb.elim))
          obtain ⟨cz, hvz⟩ := hg 2 (by decide)
          have f2 : ux26 2 = (Value.agg (cat [[q2_1], [(vI r27.Next)], [q2_2], [q2_3], Flat.enc r27.Head]).toArray) := by rw [hvz] at hcz ⊢; exact congrArg Value.agg (toList_eq hcz)
          have hM := hM.pull (pre := [_, _, _, _, _, _, _, _])
          rw [f2] at hM
          have hM := hM.unpackL (m := [own NoB (r27.Keys : (List (Vector UInt8 16))) [q2_1], own NoB (r27.Records : (List GRecord)) [q2_2], own NoB (r27.Events : (List GEvent)) [q2_3]]) (fun fp h => by obtain ⟨_, _, _, rfl, s1, s2, s3⟩ := unc_GVault h; exact (SepR.cons (own_loc noB) s1 (SepR.cons (own_loc noB) s2 (SepR.one (own_loc noB) s3))))
          simp only [List.cons_append, List.nil_append] at hM
          have hE := hE.sub (e' := [(22, (Value.agg (cat [[u15], [(vI r13.Next)], [u16], [u17], Flat.enc r13.Head]).toArray)), (23, (Value.agg (cat [[v0_1], [(vI p0.Next)], [v0_2], [v0_3], Flat.enc p0.Head]).toArray)), (24, (Value.agg (cat [[q2_1], [(vI r27.Next)], [q2_2], [q2_3], Flat.enc r27.Head]).toArray)), (0, (Value.agg (cat [[v0_1], [(vI p0.Next)], [v0_2], [v0_3], Flat.enc p0.Head]).toArray)), (1, (ptr b1 0)), (2, (vT false)), (3, (vI r3)), (4, (vT r11)), (5, (ptr b18 0)), (6, (vT r20)), (7, (Value.agg (cat [[v0_1], [(vI p0.Next)], [v0_2], [v0_3], Flat.enc p0.Head]).toArray)), (8, (vI 1048576)), (9, (vI r3)), (10, (vI r3)), (11, (vT (decide (r3 < 0)))), (12, (Value.agg (cat [[v0_1], [(vI p0.Next)], [v0_2], [v0_3], Flat.enc p0.Head]).toArray)), (13, (Value.agg (cat [[u8], [(vI r6.Next)], [u9], [u10], Flat.enc r6.Head]).toArray)), (14, (vT r11)), (15, (Value.agg (cat [[v0_1], [(vI p0.Next)], [v0_2], [v0_3], Flat.enc p0.Head]).toArray)), (16, (Value.agg (cat [[u15], [(vI r13.Next)], [u16], [u17], Flat.enc r13.Head]).toArray)), (17, (Value.agg (cat [[u15], [(vI r13.Next)], [u16], [u17], Flat.enc r13.Head]).toArray)), (18, (vT r20)), (19, (vT r20)), (20, (vT r11)), (21, (vT (r20 != r11)))]) ⟨lk rfl f0, lk rfl f1, lk rfl f2, rfl, rfl, rfl, rfl, rfl, rfl, rfl, rfl, rfl, rfl, rfl, rfl, rfl, rfl, rfl, rfl, rfl, rfl, rfl, rfl, rfl, rfl, trivial⟩
          obtain ⟨r36, e37, hl24⟩ := bind_some hl24
          refine s_call (vs := [(Value.agg (cat [[u15], [(vI r13.Next)], [u16], [u17], Flat.enc r13.Head]).toArray), (Value.agg (cat [[q2_1], [(vI r27.Next)], [q2_2], [q2_3], Flat.enc r27.Head]).toArray)]) hE goes_none (by decide) rfl cb28 (c_laws_eqVault _ r13 u15 (hM.sl (pre := [_, _, _, _]) noB) u16 (hM.sl (pre := [_, _, _, _, _]) noB) u17 (hM.sl (pre := [_, _, _, _, _, _]) noB) r27 q2_1 (hM.ro (pre := []) (fun b hb => hb.elim)) q2_2 (hM.ro (pre := [_]) (fun b hb => hb.elim)) q2_3 (hM.ro (pre := [_, _]) (fun b hb => hb.elim)) r36 e37) ?_
          rintro v w a ⟨rfl, hK⟩ hE
          have hM := hM.keep hK
          refine s_not hE goes_none (by decide) rfl ?_; intro a hE
          refine c_fin0 ?_
          have ht38 := Option.some.inj hl24
          subst ht38
          refine c_mid ?_
          have hM := M.fst (l := []) hM
          exact ⟨hE.sub ⟨rfl, trivial⟩, hM⟩
      · skip
        rintro a w ⟨hE, hM⟩
        refine c_cond hE rfl ?_ ?_
        · intro hb39
          have hF25 := ite_t hF25 hb39
          refine c_region ?_
          refine s_assign hE goes_none (by decide) rfl ?_; intro a hE
          refine c_fin ?_
          have hr := Option.some.inj hF25
          subst hr
          exact wp_ret (r_then (k_ret1 hE rfl (res_tmp hE rfl) ⟨_, rfl, rfl, hM.kept⟩))
        · intro hb39
          have hF25 := ite_f hF25 hb39
          refine wp_skip ?_
          refine c_nx ?_
          refine c_region ?_
          refine s_assign hE goes_none (by decide) rfl ?_; intro a hE
          refine c_fin ?_
          have hr := Option.some.inj hF25
          subst hr
          exact wp_ret (k_ret1 hE rfl (res_tmp hE rfl) ⟨_, rfl, rfl, hM.kept⟩)
end Go.Proofs.Ytbonmndobipbnaa
