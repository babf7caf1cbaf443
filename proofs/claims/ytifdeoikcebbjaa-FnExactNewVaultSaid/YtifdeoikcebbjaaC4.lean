/- The walk of what the law reaches: contracts of functions. -/
import Derived.Test.YtifdeoikcebbjaaC3
set_option linter.unusedVariables false
set_option linter.unusedSimpArgs false
namespace Go.Proofs.Ytifdeoikcebbjaa
open Go
set_option maxRecDepth 20000 in
set_option maxHeartbeats 400000 in
theorem c_impl_mixer_mix (St : Nat → Prop) (W w0 : World) (its : List Item) (p0 : (Ref (Vector (Vector (Vector UInt8 256) 4) 4))) (v0_1 : Value) (hv0_1 : Rep.sat St W p0 [v0_1] []) (pb1 : Nat) (p1 : (Vector UInt8 16)) (hM : M St W w0 (raw pb1 (Flat.enc p1) :: its)) (r : (Vector UInt8 16)) (hF : F_impl_mixer_mix p0 p1 = some r) :
    Calls Try.prog 134 [v0_1, (Value.slice (some ⟨pb1, 0, none⟩) 16 16)].toArray w0 (fun en w' => ∃ v, en = .returned v ∧ (v = (Value.tuple [].toArray) ∧ M St W w' (raw pb1 (Flat.enc r) :: its))) := by
  refine c_enter (n := 79) Try.func134 rfl rfl (Nat.le_of_ble_eq_true rfl) rfl ?_
  intro a hE
  unfold F_impl_mixer_mix at hF
  refine c_region ?_
  refine s_assign hE goes_none (by decide) rfl ?_; intro a hE
  refine c_fin ?_
  obtain ⟨j1, hl2, hF3⟩ := bind_some hF
  refine c_cut (fun a w => Env 79 a [(1, (Value.slice (some ⟨pb1, 0, none⟩) 16 16))] ∧ M St W w (raw pb1 (Flat.enc j1) :: its)) ?_ ?_
  · skip
    refine wp_block ?_
    refine c_loop (fun (s4 : (Vector UInt8 16) × Int) a w => Env 79 a [(0, v0_1), (1, (Value.slice (some ⟨pb1, 0, none⟩) 16 16)), (4, (vI s4.2))] ∧ M St W w (raw pb1 (Flat.enc s4.1) :: its)) hl2 ⟨hE.sub ⟨rfl, rfl, rfl, trivial⟩, hM⟩ ?_
    rintro s4 a w ⟨hE, hM⟩ o7 hs5 hx6
    unfold L0_impl_mixer_mix at hs5
    refine wp_seq ?_
    refine c_region ?_
    refine s_move hE goes_none (by decide) rfl ?_; intro a hE
    refine s_move hE goes_none (by decide) rfl ?_; intro a hE
    refine s_len hE goes_none (by decide) rfl Try.underlying50 (raw_full (hM.rawAt (pre := []))) ?_; intro a hE
    refine s_int hE goes_none (by decide) rfl rfl rfl ?_; intro a hE
    refine c_fin ?_
    refine c_cond hE rfl ?_ ?_
    · intro hb8
      have hs5 := ite_t hs5 hb8
      refine wp_skip ?_
      refine c_nx ?_
      refine wp_seq ?_
      refine wp_block ?_
      obtain ⟨j9, hl10, hF11⟩ := bind_some hs5
      refine c_join (fun a w => Env 79 a [(0, v0_1), (1, (Value.slice (some ⟨pb1, 0, none⟩) 16 16)), (4, (vI s4.2)), (5, (vB j9.1)), (6, (vB j9.2.1)), (7, (vB j9.2.2.1)), (8, (vB j9.2.2.2))] ∧ M St W w (raw pb1 (Flat.enc s4.1) :: its)) ?_ ?_
      · skip
        obtain ⟨x13, e14, hl10⟩ := bind_some hl10
        have hi15 := vidx_some e14
        obtain ⟨x16, e17, hl10⟩ := bind_some hl10
        have hi18 := vidx_some e17
        obtain ⟨x19, e20, hl10⟩ := bind_some hl10
        have hi21 := vidx_some e20
        obtain ⟨x22, e23, hl10⟩ := bind_some hl10
        have hi24 := vidx_some e23
        refine c_draw (n := 79) (hd := [_, _, _, _, _, _, _, _, _, _, _, _, _, _, _, _, _, _, _, _, _, _, _]) (tl := []) hmix rfl rfl [16, 17, 18, 19, 20, 21, 22, 23, 24, 25, 26, 27, 28, 29, 30, 31, 32, 33, 34, 5, 6, 7, 8] (by decide) (fun w => M St W w (raw pb1 (Flat.enc s4.1) :: its)) (fun j => ([fun v _ => v = (Value.slice (some ⟨pb1, 0, none⟩) 16 16), fun v _ => v = (vI s4.2), fun v _ => v = (ptr pb1 (0 + (s4.2).toNat * 1)), fun v _ => v = (vB x13), fun v _ => v = (Value.slice (some ⟨pb1, 0, none⟩) 16 16), fun v _ => v = (vI s4.2), fun v _ => v = (vI (wr (s4.2 + 1))), fun v _ => v = (ptr pb1 (0 + ((wr (s4.2 + 1))).toNat * 1)), fun v _ => v = (vB x16), fun v _ => v = (Value.slice (some ⟨pb1, 0, none⟩) 16 16), fun v _ => v = (vI s4.2), fun v _ => v = (vI (wr (s4.2 + 2))), fun v _ => v = (ptr pb1 (0 + ((wr (s4.2 + 2))).toNat * 1)), fun v _ => v = (vB x19), fun v _ => v = (Value.slice (some ⟨pb1, 0, none⟩) 16 16), fun v _ => v = (vI s4.2), fun v _ => v = (vI (wr (s4.2 + 3))), fun v _ => v = (ptr pb1 (0 + ((wr (s4.2 + 3))).toNat * 1)), fun v _ => v = (vB x22), fun v _ => v = (vB x13), fun v _ => v = (vB x16), fun v _ => v = (vB x19), fun v _ => v = (vB x22)] : List (Value → World → Prop)).getD j (fun _ _ => True)) (fun _ _ h hk => h.keep hk) (gup (gupE (gupE (gupE (gupE (gupE (gupE (gupE (gupE (gupE (gupE (gupE (gupE (gupE (gupE (gupE (gupE (gupE (gupE (gupE (gupE (gupE (gupE (gupE gupN)))))))))))))))))))))))) hE hM.drew (steps_of (steps_cons ?_ (steps_cons ?_ (steps_cons ?_ (steps_cons ?_ (steps_cons ?_ (steps_cons ?_ (steps_cons ?_ (steps_cons ?_ (steps_cons ?_ (steps_cons ?_ (steps_cons ?_ (steps_cons ?_ (steps_cons ?_ (steps_cons ?_ (steps_cons ?_ (steps_cons ?_ (steps_cons ?_ (steps_cons ?_ (steps_cons ?_ (steps_cons ?_ (steps_cons ?_ (steps_cons ?_ (steps_cons ?_ steps_nil)))))))))))))))))))))))) ?_
        · intro a w ux12 hE hM hp
          refine s_move hE goes_none (by decide) rfl ?_; intro a hE
          exact ⟨Kept.refl _ _, _, _, rfl, hE, rfl⟩
        · intro a w ux12 hE hM hp
          refine s_move hE goes_none (by decide) rfl ?_; intro a hE
          exact ⟨Kept.refl _ _, _, _, rfl, hE, rfl⟩
        · intro a w ux12 hE hM hp
          have f0 : ux12 0 = (Value.slice (some ⟨pb1, 0, none⟩) 16 16) := hp 0 _ rfl rfl
          have f1 : ux12 1 = (vI s4.2) := hp 1 _ rfl rfl
          refine s_indexFull hE goes_none (by decide) (lk rfl f0) (lk rfl f1) Try.underlying50 ty5 hi15.1 ?_; intro a hE
          exact ⟨Kept.refl _ _, _, _, rfl, hE, rfl⟩
        · intro a w ux12 hE hM hp
          have f2 : ux12 2 = (ptr pb1 (0 + (s4.2).toNat * 1)) := hp 0 _ rfl rfl
          refine s_load (v := (vB x13)) hE goes_none (by decide) (lk rfl f2) ty5 rfl (At.vec (hM.rawAt (pre := [])) hi15.2) ?_; intro a hE
          exact ⟨Kept.refl _ _, _, _, rfl, hE, rfl⟩
        · intro a w ux12 hE hM hp
          refine s_move hE goes_none (by decide) rfl ?_; intro a hE
          exact ⟨Kept.refl _ _, _, _, rfl, hE, rfl⟩
        · intro a w ux12 hE hM hp
          refine s_move hE goes_none (by decide) rfl ?_; intro a hE
          exact ⟨Kept.refl _ _, _, _, rfl, hE, rfl⟩
        · intro a w ux12 hE hM hp
          have f5 : ux12 5 = (vI s4.2) := hp 0 _ rfl rfl
          refine s_int hE goes_none (by decide) (lk rfl f5) rfl rfl ?_; intro a hE
          exact ⟨Kept.refl _ _, _, _, rfl, hE, rfl⟩
        · intro a w ux12 hE hM hp
          have f4 : ux12 4 = (Value.slice (some ⟨pb1, 0, none⟩) 16 16) := hp 0 _ rfl rfl
          have f6 : ux12 6 = (vI (wr (s4.2 + 1))) := hp 1 _ rfl rfl
          refine s_indexFull hE goes_none (by decide) (lk rfl f4) (lk rfl f6) Try.underlying50 ty5 hi18.1 ?_; intro a hE
          exact ⟨Kept.refl _ _, _, _, rfl, hE, rfl⟩
        · intro a w ux12 hE hM hp
          have f7 : ux12 7 = (ptr pb1 (0 + ((wr (s4.2 + 1))).toNat * 1)) := hp 0 _ rfl rfl
          refine s_load (v := (vB x16)) hE goes_none (by decide) (lk rfl f7) ty5 rfl (At.vec (hM.rawAt (pre := [])) hi18.2) ?_; intro a hE
          exact ⟨Kept.refl _ _, _, _, rfl, hE, rfl⟩
        · intro a w ux12 hE hM hp
          refine s_move hE goes_none (by decide) rfl ?_; intro a hE
          exact ⟨Kept.refl _ _, _, _, rfl, hE, rfl⟩
        · intro a w ux12 hE hM hp
          refine s_move hE goes_none (by decide) rfl ?_; intro a hE
          exact ⟨Kept.refl _ _, _, _, rfl, hE, rfl⟩
        · intro a w ux12 hE hM hp
          have f10 : ux12 10 = (vI s4.2) := hp 0 _ rfl rfl
          refine s_int hE goes_none (by decide) (lk rfl f10) rfl rfl ?_; intro a hE
          exact ⟨Kept.refl _ _, _, _, rfl, hE, rfl⟩
        · intro a w ux12 hE hM hp
          have f9 : ux12 9 = (Value.slice (some ⟨pb1, 0, none⟩) 16 16) := hp 0 _ rfl rfl
          have f11 : ux12 11 = (vI (wr (s4.2 + 2))) := hp 1 _ rfl rfl
          refine s_indexFull hE goes_none (by decide) (lk rfl f9) (lk rfl f11) Try.underlying50 ty5 hi21.1 ?_; intro a hE
          exact ⟨Kept.refl _ _, _, _, rfl, hE, rfl⟩
        · intro a w ux12 hE hM hp
          have f12 : ux12 12 = (ptr pb1 (0 + ((wr (s4.2 + 2))).toNat * 1)) := hp 0 _ rfl rfl
          refine s_load (v := (vB x19)) hE goes_none (by decide) (lk rfl f12) ty5 rfl (At.vec (hM.rawAt (pre := [])) hi21.2) ?_; intro a hE
          exact ⟨Kept.refl _ _, _, _, rfl, hE, rfl⟩
        · intro a w ux12 hE hM hp
          refine s_move hE goes_none (by decide) rfl ?_; intro a hE
          exact ⟨Kept.refl _ _, _, _, rfl, hE, rfl⟩
        · intro a w ux12 hE hM hp
          refine s_move hE goes_none (by decide) rfl ?_; intro a hE
          exact ⟨Kept.refl _ _, _, _, rfl, hE, rfl⟩
        · intro a w ux12 hE hM hp
          have f15 : ux12 15 = (vI s4.2) := hp 0 _ rfl rfl
          refine s_int hE goes_none (by decide) (lk rfl f15) rfl rfl ?_; intro a hE
          exact ⟨Kept.refl _ _, _, _, rfl, hE, rfl⟩
        · intro a w ux12 hE hM hp
          have f14 : ux12 14 = (Value.slice (some ⟨pb1, 0, none⟩) 16 16) := hp 0 _ rfl rfl
          have f16 : ux12 16 = (vI (wr (s4.2 + 3))) := hp 1 _ rfl rfl
          refine s_indexFull hE goes_none (by decide) (lk rfl f14) (lk rfl f16) Try.underlying50 ty5 hi24.1 ?_; intro a hE
          exact ⟨Kept.refl _ _, _, _, rfl, hE, rfl⟩
        · intro a w ux12 hE hM hp
          have f17 : ux12 17 = (ptr pb1 (0 + ((wr (s4.2 + 3))).toNat * 1)) := hp 0 _ rfl rfl
          refine s_load (v := (vB x22)) hE goes_none (by decide) (lk rfl f17) ty5 rfl (At.vec (hM.rawAt (pre := [])) hi24.2) ?_; intro a hE
          exact ⟨Kept.refl _ _, _, _, rfl, hE, rfl⟩
        · intro a w ux12 hE hM hp
          have f3 : ux12 3 = (vB x13) := hp 0 _ rfl rfl
          refine s_assign hE goes_none (by decide) (lk rfl f3) ?_; intro a hE
          exact ⟨Kept.refl _ _, _, _, rfl, hE, rfl⟩
        · intro a w ux12 hE hM hp
          have f8 : ux12 8 = (vB x16) := hp 0 _ rfl rfl
          refine s_assign hE goes_none (by decide) (lk rfl f8) ?_; intro a hE
          exact ⟨Kept.refl _ _, _, _, rfl, hE, rfl⟩
        · intro a w ux12 hE hM hp
          have f13 : ux12 13 = (vB x19) := hp 0 _ rfl rfl
          refine s_assign hE goes_none (by decide) (lk rfl f13) ?_; intro a hE
          exact ⟨Kept.refl _ _, _, _, rfl, hE, rfl⟩
        · intro a w ux12 hE hM hp
          have f18 : ux12 18 = (vB x22) := hp 0 _ rfl rfl
          refine s_assign hE goes_none (by decide) (lk rfl f18) ?_; intro a hE
          exact ⟨Kept.refl _ _, _, _, rfl, hE, rfl⟩
        · intro a w ux12 hE hM hg
          have f0 : ux12 0 = (Value.slice (some ⟨pb1, 0, none⟩) 16 16) := hg 0 (by decide)
          have f1 : ux12 1 = (vI s4.2) := hg 1 (by decide)
          have f2 : ux12 2 = (ptr pb1 (0 + (s4.2).toNat * 1)) := hg 2 (by decide)
          have f3 : ux12 3 = (vB x13) := hg 3 (by decide)
          have f4 : ux12 4 = (Value.slice (some ⟨pb1, 0, none⟩) 16 16) := hg 4 (by decide)
          have f5 : ux12 5 = (vI s4.2) := hg 5 (by decide)
          have f6 : ux12 6 = (vI (wr (s4.2 + 1))) := hg 6 (by decide)
          have f7 : ux12 7 = (ptr pb1 (0 + ((wr (s4.2 + 1))).toNat * 1)) := hg 7 (by decide)
          have f8 : ux12 8 = (vB x16) := hg 8 (by decide)
          have f9 : ux12 9 = (Value.slice (some ⟨pb1, 0, none⟩) 16 16) := hg 9 (by decide)
          have f10 : ux12 10 = (vI s4.2) := hg 10 (by decide)
          have f11 : ux12 11 = (vI (wr (s4.2 + 2))) := hg 11 (by decide)
          have f12 : ux12 12 = (ptr pb1 (0 + ((wr (s4.2 + 2))).toNat * 1)) := hg 12 (by decide)
          have f13 : ux12 13 = (vB x19) := hg 13 (by decide)
          have f14 : ux12 14 = (Value.slice (some ⟨pb1, 0, none⟩) 16 16) := hg 14 (by decide)
          have f15 : ux12 15 = (vI s4.2) := hg 15 (by decide)
          have f16 : ux12 16 = (vI (wr (s4.2 + 3))) := hg 16 (by decide)
          have f17 : ux12 17 = (ptr pb1 (0 + ((wr (s4.2 + 3))).toNat * 1)) := hg 17 (by decide)
          have f18 : ux12 18 = (vB x22) := hg 18 (by decide)
          have f19 : ux12 19 = (vB x13) := hg 19 (by decide)
          have f20 : ux12 20 = (vB x16) := hg 20 (by decide)
          have f21 : ux12 21 = (vB x19) := hg 21 (by decide)
          have f22 : ux12 22 = (vB x22) := hg 22 (by decide)
          have hE := hE.sub (e' := [(16, (Value.slice (some ⟨pb1, 0, none⟩) 16 16)), (17, (vI s4.2)), (18, (ptr pb1 (0 + (s4.2).toNat * 1))), (19, (vB x13)), (20, (Value.slice (some ⟨pb1, 0, none⟩) 16 16)), (21, (vI s4.2)), (22, (vI (wr (s4.2 + 1)))), (23, (ptr pb1 (0 + ((wr (s4.2 + 1))).toNat * 1))), (24, (vB x16)), (25, (Value.slice (some ⟨pb1, 0, none⟩) 16 16)), (26, (vI s4.2)), (27, (vI (wr (s4.2 + 2)))), (28, (ptr pb1 (0 + ((wr (s4.2 + 2))).toNat * 1))), (29, (vB x19)), (30, (Value.slice (some ⟨pb1, 0, none⟩) 16 16)), (31, (vI s4.2)), (32, (vI (wr (s4.2 + 3)))), (33, (ptr pb1 (0 + ((wr (s4.2 + 3))).toNat * 1))), (34, (vB x22)), (5, (vB x13)), (6, (vB x16)), (7, (vB x19)), (8, (vB x22)), (0, v0_1), (1, (Value.slice (some ⟨pb1, 0, none⟩) 16 16)), (4, (vI s4.2)), (10, (vI s4.2)), (11, (Value.slice (some ⟨pb1, 0, none⟩) 16 16)), (12, (vI (s4.1.toList.length : Int))), (13, (vT (decide (s4.2 < (s4.1.toList.length : Int)))))]) ⟨lk rfl f0, lk rfl f1, lk rfl f2, lk rfl f3, lk rfl f4, lk rfl f5, lk rfl f6, lk rfl f7, lk rfl f8, lk rfl f9, lk rfl f10, lk rfl f11, lk rfl f12, lk rfl f13, lk rfl f14, lk rfl f15, lk rfl f16, lk rfl f17, lk rfl f18, lk rfl f19, lk rfl f20, lk rfl f21, lk rfl f22, rfl, rfl, rfl, rfl, rfl, rfl, rfl, trivial⟩
          refine c_fin0 ?_
          have ht25 := Option.some.inj hl10
          subst ht25
          refine c_mid ?_
          exact ⟨hE.sub ⟨rfl, rfl, rfl, rfl, rfl, rfl, rfl, trivial⟩, hM⟩
      · skip
        rintro a w ⟨hE, hM⟩
        refine c_region ?_
        refine s_move hE goes_none (by decide) rfl ?_; intro a hE
        refine c_fin ?_
        obtain ⟨j26, hl27, hF28⟩ := bind_some hF11
        refine c_cut (fun a w => Env 79 a [(0, v0_1), (1, (Value.slice (some ⟨pb1, 0, none⟩) 16 16)), (4, (vI s4.2))] ∧ M St W w (raw pb1 (Flat.enc j26) :: its)) ?_ ?_
        · skip
          refine wp_block ?_
          refine c_loop (fun (s29 : (Vector UInt8 16) × Int) a w => Env 79 a [(0, v0_1), (1, (Value.slice (some ⟨pb1, 0, none⟩) 16 16)), (4, (vI s4.2)), (5, (vB j9.1)), (6, (vB j9.2.1)), (7, (vB j9.2.2.1)), (8, (vB j9.2.2.2)), (35, (vI s29.2))] ∧ M St W w (raw pb1 (Flat.enc s29.1) :: its)) hl27 ⟨hE.sub ⟨rfl, rfl, rfl, rfl, rfl, rfl, rfl, rfl, trivial⟩, hM⟩ ?_
          rintro s29 a w ⟨hE, hM⟩ o32 hs30 hx31
          unfold L1_impl_mixer_mix at hs30
          refine c_region ?_
          refine s_int hE goes_none (by decide) rfl rfl rfl ?_; intro a hE
          refine c_fin ?_
          refine wp_seq ?_
          refine c_cond hE rfl ?_ ?_
          · intro hb33
            have hs30 := ite_t hs30 hb33
            refine wp_skip ?_
            refine c_nx ?_
            refine wp_seq ?_
            refine wp_block ?_
            refine c_region ?_
            refine s_move hE goes_none (by decide) rfl ?_; intro a hE
            refine s_assign hE goes_none (by decide) rfl ?_; intro a hE
            refine c_fin ?_
            obtain ⟨pb35, ds36, hv37, hx38, hA39, hB40⟩ := ref_open hv0_1 -- ^
            obtain ⟨rfl, _⟩ := sat_flat.1 hx38 -- ^
            obtain ⟨x42, e43, hs30⟩ := bind_some hs30
            have hi41 := vidx_some e43
            obtain ⟨x45, e46, hs30⟩ := bind_some hs30
            have hi44 := vidx_some e46
            obtain ⟨x48, e49, hs30⟩ := bind_some hs30
            have hi47 := vidx_some e49
            obtain ⟨pb50, ds51, hv52, hx53, hA54, hB55⟩ := ref_open hv0_1 -- ^
            obtain ⟨rfl, _⟩ := sat_flat.1 hx53 -- ^
            obtain ⟨x57, e58, hs30⟩ := bind_some hs30
            have hi56 := vidx_some e58
            obtain ⟨x60, e61, hs30⟩ := bind_some hs30
            have hi59 := vidx_some e61
            obtain ⟨x63, e64, hs30⟩ := bind_some hs30
            have hi62 := vidx_some e64
            obtain ⟨pb65, ds66, hv67, hx68, hA69, hB70⟩ := ref_open hv0_1 -- ^
            obtain ⟨rfl, _⟩ := sat_flat.1 hx68 -- ^
            obtain ⟨x72, e73, hs30⟩ := bind_some hs30
            have hi71 := vidx_some e73
            obtain ⟨x75, e76, hs30⟩ := bind_some hs30
            have hi74 := vidx_some e76
            obtain ⟨x78, e79, hs30⟩ := bind_some hs30
            have hi77 := vidx_some e79
            obtain ⟨pb80, ds81, hv82, hx83, hA84, hB85⟩ := ref_open hv0_1 -- ^
            obtain ⟨rfl, _⟩ := sat_flat.1 hx83 -- ^
            obtain ⟨x87, e88, hs30⟩ := bind_some hs30
            have hi86 := vidx_some e88
            obtain ⟨x90, e91, hs30⟩ := bind_some hs30
            have hi89 := vidx_some e91
            obtain ⟨x93, e94, hs30⟩ := bind_some hs30
            have hi92 := vidx_some e94
            obtain ⟨x95, e96, hs30⟩ := bind_some hs30
            have hi97 := vidx_some e96
            refine c_draw (n := 79) (hd := [_, _, _, _, _, _, _, _, _, _, _, _, _, _, _, _, _, _, _, _, _, _, _, _, _, _, _, _, _, _, _, _, _, _, _, _, _, _, _, _]) (tl := [_]) hmix rfl rfl [38, 39, 40, 41, 42, 43, 44, 45, 46, 47, 48, 49, 50, 51, 52, 53, 54, 55, 56, 57, 58, 59, 60, 61, 62, 63, 64, 65, 66, 67, 68, 69, 70, 71, 72, 73, 74, 75, 76, 77] (by decide) (fun w => M St W w (raw pb1 (Flat.enc s29.1) :: its)) (fun j => ([fun v _ => v = (Value.slice (some ⟨pb1, 0, none⟩) 16 16), fun v _ => v = (vI s4.2), fun v _ => v = (vI s29.2), fun v _ => v = (vI (wr (s4.2 + s29.2))), fun v _ => v = v0_1, fun v _ => v = (vI s29.2), fun v _ => v = (vB j9.1), fun v _ => v = (ptr pb35 0), fun v _ => v = (ptr pb35 (0 + (s29.2).toNat * 1024)), fun v _ => v = (ptr pb35 (0 + (s29.2).toNat * 1024 + ((0 : Int)).toNat * 256)), fun v _ => v = (ptr pb35 (0 + (s29.2).toNat * 1024 + ((0 : Int)).toNat * 256 + ((bI j9.1)).toNat * 1)), fun v _ => v = (vB x48), fun v _ => v = v0_1, fun v _ => v = (vI s29.2), fun v _ => v = (vB j9.2.1), fun v _ => v = (ptr pb50 0), fun v _ => v = (ptr pb50 (0 + (s29.2).toNat * 1024)), fun v _ => v = (ptr pb50 (0 + (s29.2).toNat * 1024 + ((1 : Int)).toNat * 256)), fun v _ => v = (ptr pb50 (0 + (s29.2).toNat * 1024 + ((1 : Int)).toNat * 256 + ((bI j9.2.1)).toNat * 1)), fun v _ => v = (vB x63), fun v _ => v = (vB (x48 ^^^ x63)), fun v _ => v = v0_1, fun v _ => v = (vI s29.2), fun v _ => v = (vB j9.2.2.1), fun v _ => v = (ptr pb65 0), fun v _ => v = (ptr pb65 (0 + (s29.2).toNat * 1024)), fun v _ => v = (ptr pb65 (0 + (s29.2).toNat * 1024 + ((2 : Int)).toNat * 256)), fun v _ => v = (ptr pb65 (0 + (s29.2).toNat * 1024 + ((2 : Int)).toNat * 256 + ((bI j9.2.2.1)).toNat * 1)), fun v _ => v = (vB x78), fun v _ => v = (vB ((x48 ^^^ x63) ^^^ x78)), fun v _ => v = v0_1, fun v _ => v = (vI s29.2), fun v _ => v = (vB j9.2.2.2), fun v _ => v = (ptr pb80 0), fun v _ => v = (ptr pb80 (0 + (s29.2).toNat * 1024)), fun v _ => v = (ptr pb80 (0 + (s29.2).toNat * 1024 + ((3 : Int)).toNat * 256)), fun v _ => v = (ptr pb80 (0 + (s29.2).toNat * 1024 + ((3 : Int)).toNat * 256 + ((bI j9.2.2.2)).toNat * 1)), fun v _ => v = (vB x93), fun v _ => v = (vB (((x48 ^^^ x63) ^^^ x78) ^^^ x93)), fun v _ => v = (ptr pb1 (0 + ((wr (s4.2 + s29.2))).toNat * 1))] : List (Value → World → Prop)).getD j (fun _ _ => True)) (fun _ _ h hk => h.keep hk) (gup (gupE (gupE (gupE (gupE (gupE (gupE (gupE (gupE (gupE (gupE (gupE (gupE (gupE (gupE (gupE (gupE (gupE (gupE (gupE (gupE (gupE (gupE (gupE (gupE (gupE (gupE (gupE (gupE (gupE (gupE (gupE (gupE (gupE (gupE (gupE (gupE (gupE (gupE (gupE (gupE gupN))))))))))))))))))))))))))))))))))))))))) hE hM.drew (steps_of (steps_cons ?_ (steps_cons ?_ (steps_cons ?_ (steps_cons ?_ (steps_cons ?_ (steps_cons ?_ (steps_cons ?_ (steps_cons ?_ (steps_cons ?_ (steps_cons ?_ (steps_cons ?_ (steps_cons ?_ (steps_cons ?_ (steps_cons ?_ (steps_cons ?_ (steps_cons ?_ (steps_cons ?_ (steps_cons ?_ (steps_cons ?_ (steps_cons ?_ (steps_cons ?_ (steps_cons ?_ (steps_cons ?_ (steps_cons ?_ (steps_cons ?_ (steps_cons ?_ (steps_cons ?_ (steps_cons ?_ (steps_cons ?_ (steps_cons ?_ (steps_cons ?_ (steps_cons ?_ (steps_cons ?_ (steps_cons ?_ (steps_cons ?_ (steps_cons ?_ (steps_cons ?_ (steps_cons ?_ (steps_cons ?_ (steps_cons ?_ steps_nil))))))))))))))))))))))))))))))))))))))))) ?_
            · intro a w ux34 hE hM hp
              refine s_move hE goes_none (by decide) rfl ?_; intro a hE
              exact ⟨Kept.refl _ _, _, _, rfl, hE, rfl⟩
            · intro a w ux34 hE hM hp
              refine s_move hE goes_none (by decide) rfl ?_; intro a hE
              exact ⟨Kept.refl _ _, _, _, rfl, hE, rfl⟩
            · intro a w ux34 hE hM hp
              refine s_move hE goes_none (by decide) rfl ?_; intro a hE
              exact ⟨Kept.refl _ _, _, _, rfl, hE, rfl⟩
            · intro a w ux34 hE hM hp
              have f1 : ux34 1 = (vI s4.2) := hp 0 _ rfl rfl
              have f2 : ux34 2 = (vI s29.2) := hp 1 _ rfl rfl
              refine s_int hE goes_none (by decide) (lk rfl f1) (lk rfl f2) rfl ?_; intro a hE
              exact ⟨Kept.refl _ _, _, _, rfl, hE, rfl⟩
            · intro a w ux34 hE hM hp
              refine s_move hE goes_none (by decide) rfl ?_; intro a hE
              exact ⟨Kept.refl _ _, _, _, rfl, hE, rfl⟩
            · intro a w ux34 hE hM hp
              refine s_move hE goes_none (by decide) rfl ?_; intro a hE
              exact ⟨Kept.refl _ _, _, _, rfl, hE, rfl⟩
            · intro a w ux34 hE hM hp
              refine s_move hE goes_none (by decide) rfl ?_; intro a hE
              exact ⟨Kept.refl _ _, _, _, rfl, hE, rfl⟩
            · intro a w ux34 hE hM hp
              have f4 : ux34 4 = v0_1 := hp 0 _ rfl rfl
              refine s_nilCheck hE goes_none (by decide) (lk (lk rfl f4) hv37) ?_; intro a hE
              exact ⟨Kept.refl _ _, _, _, rfl, hE, rfl⟩
            · intro a w ux34 hE hM hp
              have f5 : ux34 5 = (vI s29.2) := hp 1 _ rfl rfl
              have f7 : ux34 7 = (ptr pb35 0) := hp 0 _ rfl rfl
              refine s_indexA hE goes_none (by decide) (lk rfl f7) (lk rfl f5) Try.underlying168 ty166 hi41.1 ?_; intro a hE
              exact ⟨Kept.refl _ _, _, _, rfl, hE, rfl⟩
            · intro a w ux34 hE hM hp
              have f8 : ux34 8 = (ptr pb35 (0 + (s29.2).toNat * 1024)) := hp 0 _ rfl rfl
              refine s_indexA hE goes_none (by decide) (lk rfl f8) rfl Try.underlying166 ty96 hi44.1 ?_; intro a hE
              exact ⟨Kept.refl _ _, _, _, rfl, hE, rfl⟩
            · intro a w ux34 hE hM hp
              have f6 : ux34 6 = (vB j9.1) := hp 1 _ rfl rfl
              have f9 : ux34 9 = (ptr pb35 (0 + (s29.2).toNat * 1024 + ((0 : Int)).toNat * 256)) := hp 0 _ rfl rfl
              refine s_indexA hE goes_none (by decide) (lk rfl f9) (lk rfl f6) Try.underlying96 ty5 hi47.1 ?_; intro a hE
              exact ⟨Kept.refl _ _, _, _, rfl, hE, rfl⟩
            · intro a w ux34 hE hM hp
              have f10 : ux34 10 = (ptr pb35 (0 + (s29.2).toNat * 1024 + ((0 : Int)).toNat * 256 + ((bI j9.1)).toNat * 1)) := hp 0 _ rfl rfl
              refine s_load (v := (vB x48)) hE goes_none (by decide) (lk rfl f10) ty5 rfl (At.vec (At.vec (At.vec (hM.atk hA39 hB40) hi41.2) hi44.2) hi47.2) ?_; intro a hE
              exact ⟨Kept.refl _ _, _, _, rfl, hE, rfl⟩
            · intro a w ux34 hE hM hp
              refine s_move hE goes_none (by decide) rfl ?_; intro a hE
              exact ⟨Kept.refl _ _, _, _, rfl, hE, rfl⟩
            · intro a w ux34 hE hM hp
              refine s_move hE goes_none (by decide) rfl ?_; intro a hE
              exact ⟨Kept.refl _ _, _, _, rfl, hE, rfl⟩
            · intro a w ux34 hE hM hp
              refine s_move hE goes_none (by decide) rfl ?_; intro a hE
              exact ⟨Kept.refl _ _, _, _, rfl, hE, rfl⟩
            · intro a w ux34 hE hM hp
              have f12 : ux34 12 = v0_1 := hp 0 _ rfl rfl
              refine s_nilCheck hE goes_none (by decide) (lk (lk rfl f12) hv52) ?_; intro a hE
              exact ⟨Kept.refl _ _, _, _, rfl, hE, rfl⟩
            · intro a w ux34 hE hM hp
              have f13 : ux34 13 = (vI s29.2) := hp 1 _ rfl rfl
              have f15 : ux34 15 = (ptr pb50 0) := hp 0 _ rfl rfl
              refine s_indexA hE goes_none (by decide) (lk rfl f15) (lk rfl f13) Try.underlying168 ty166 hi56.1 ?_; intro a hE
              exact ⟨Kept.refl _ _, _, _, rfl, hE, rfl⟩
            · intro a w ux34 hE hM hp
              have f16 : ux34 16 = (ptr pb50 (0 + (s29.2).toNat * 1024)) := hp 0 _ rfl rfl
              refine s_indexA hE goes_none (by decide) (lk rfl f16) rfl Try.underlying166 ty96 hi59.1 ?_; intro a hE
              exact ⟨Kept.refl _ _, _, _, rfl, hE, rfl⟩
            · intro a w ux34 hE hM hp
              have f14 : ux34 14 = (vB j9.2.1) := hp 1 _ rfl rfl
              have f17 : ux34 17 = (ptr pb50 (0 + (s29.2).toNat * 1024 + ((1 : Int)).toNat * 256)) := hp 0 _ rfl rfl
              refine s_indexA hE goes_none (by decide) (lk rfl f17) (lk rfl f14) Try.underlying96 ty5 hi62.1 ?_; intro a hE
              exact ⟨Kept.refl _ _, _, _, rfl, hE, rfl⟩
            · intro a w ux34 hE hM hp
              have f18 : ux34 18 = (ptr pb50 (0 + (s29.2).toNat * 1024 + ((1 : Int)).toNat * 256 + ((bI j9.2.1)).toNat * 1)) := hp 0 _ rfl rfl
              refine s_load (v := (vB x63)) hE goes_none (by decide) (lk rfl f18) ty5 rfl (At.vec (At.vec (At.vec (hM.atk hA54 hB55) hi56.2) hi59.2) hi62.2) ?_; intro a hE
              exact ⟨Kept.refl _ _, _, _, rfl, hE, rfl⟩
            · intro a w ux34 hE hM hp
              have f11 : ux34 11 = (vB x48) := hp 0 _ rfl rfl
              have f19 : ux34 19 = (vB x63) := hp 1 _ rfl rfl
              refine s_int hE goes_none (by decide) (lk rfl f11) (lk rfl f19) (bB_xor x48 x63) ?_; intro a hE
              exact ⟨Kept.refl _ _, _, _, rfl, hE, rfl⟩
            · intro a w ux34 hE hM hp
              refine s_move hE goes_none (by decide) rfl ?_; intro a hE
              exact ⟨Kept.refl _ _, _, _, rfl, hE, rfl⟩
            · intro a w ux34 hE hM hp
              refine s_move hE goes_none (by decide) rfl ?_; intro a hE
              exact ⟨Kept.refl _ _, _, _, rfl, hE, rfl⟩
            · intro a w ux34 hE hM hp
              refine s_move hE goes_none (by decide) rfl ?_; intro a hE
              exact ⟨Kept.refl _ _, _, _, rfl, hE, rfl⟩
            · intro a w ux34 hE hM hp
              have f21 : ux34 21 = v0_1 := hp 0 _ rfl rfl
              refine s_nilCheck hE goes_none (by decide) (lk (lk rfl f21) hv67) ?_; intro a hE
              exact ⟨Kept.refl _ _, _, _, rfl, hE, rfl⟩
            · intro a w ux34 hE hM hp
              have f22 : ux34 22 = (vI s29.2) := hp 1 _ rfl rfl
              have f24 : ux34 24 = (ptr pb65 0) := hp 0 _ rfl rfl
              refine s_indexA hE goes_none (by decide) (lk rfl f24) (lk rfl f22) Try.underlying168 ty166 hi71.1 ?_; intro a hE
              exact ⟨Kept.refl _ _, _, _, rfl, hE, rfl⟩
            · intro a w ux34 hE hM hp
              have f25 : ux34 25 = (ptr pb65 (0 + (s29.2).toNat * 1024)) := hp 0 _ rfl rfl
              refine s_indexA hE goes_none (by decide) (lk rfl f25) rfl Try.underlying166 ty96 hi74.1 ?_; intro a hE
              exact ⟨Kept.refl _ _, _, _, rfl, hE, rfl⟩
            · intro a w ux34 hE hM hp
              have f23 : ux34 23 = (vB j9.2.2.1) := hp 1 _ rfl rfl
              have f26 : ux34 26 = (ptr pb65 (0 + (s29.2).toNat * 1024 + ((2 : Int)).toNat * 256)) := hp 0 _ rfl rfl
              refine s_indexA hE goes_none (by decide) (lk rfl f26) (lk rfl f23) Try.underlying96 ty5 hi77.1 ?_; intro a hE
              exact ⟨Kept.refl _ _, _, _, rfl, hE, rfl⟩
            · intro a w ux34 hE hM hp
              have f27 : ux34 27 = (ptr pb65 (0 + (s29.2).toNat * 1024 + ((2 : Int)).toNat * 256 + ((bI j9.2.2.1)).toNat * 1)) := hp 0 _ rfl rfl
              refine s_load (v := (vB x78)) hE goes_none (by decide) (lk rfl f27) ty5 rfl (At.vec (At.vec (At.vec (hM.atk hA69 hB70) hi71.2) hi74.2) hi77.2) ?_; intro a hE
              exact ⟨Kept.refl _ _, _, _, rfl, hE, rfl⟩
            · intro a w ux34 hE hM hp
              have f20 : ux34 20 = (vB (x48 ^^^ x63)) := hp 0 _ rfl rfl
              have f28 : ux34 28 = (vB x78) := hp 1 _ rfl rfl
              refine s_int hE goes_none (by decide) (lk rfl f20) (lk rfl f28) (bB_xor (x48 ^^^ x63) x78) ?_; intro a hE
              exact ⟨Kept.refl _ _, _, _, rfl, hE, rfl⟩
            · intro a w ux34 hE hM hp
              refine s_move hE goes_none (by decide) rfl ?_; intro a hE
              exact ⟨Kept.refl _ _, _, _, rfl, hE, rfl⟩
            · intro a w ux34 hE hM hp
              refine s_move hE goes_none (by decide) rfl ?_; intro a hE
              exact ⟨Kept.refl _ _, _, _, rfl, hE, rfl⟩
            · intro a w ux34 hE hM hp
              refine s_move hE goes_none (by decide) rfl ?_; intro a hE
              exact ⟨Kept.refl _ _, _, _, rfl, hE, rfl⟩
            · intro a w ux34 hE hM hp
              have f30 : ux34 30 = v0_1 := hp 0 _ rfl rfl
              refine s_nilCheck hE goes_none (by decide) (lk (lk rfl f30) hv82) ?_; intro a hE
              exact ⟨Kept.refl _ _, _, _, rfl, hE, rfl⟩
            · intro a w ux34 hE hM hp
              have f31 : ux34 31 = (vI s29.2) := hp 1 _ rfl rfl
              have f33 : ux34 33 = (ptr pb80 0) := hp 0 _ rfl rfl
              refine s_indexA hE goes_none (by decide) (lk rfl f33) (lk rfl f31) Try.underlying168 ty166 hi86.1 ?_; intro a hE
              exact ⟨Kept.refl _ _, _, _, rfl, hE, rfl⟩
            · intro a w ux34 hE hM hp
              have f34 : ux34 34 = (ptr pb80 (0 + (s29.2).toNat * 1024)) := hp 0 _ rfl rfl
              refine s_indexA hE goes_none (by decide) (lk rfl f34) rfl Try.underlying166 ty96 hi89.1 ?_; intro a hE
              exact ⟨Kept.refl _ _, _, _, rfl, hE, rfl⟩
            · intro a w ux34 hE hM hp
              have f32 : ux34 32 = (vB j9.2.2.2) := hp 1 _ rfl rfl
              have f35 : ux34 35 = (ptr pb80 (0 + (s29.2).toNat * 1024 + ((3 : Int)).toNat * 256)) := hp 0 _ rfl rfl
              refine s_indexA hE goes_none (by decide) (lk rfl f35) (lk rfl f32) Try.underlying96 ty5 hi92.1 ?_; intro a hE
              exact ⟨Kept.refl _ _, _, _, rfl, hE, rfl⟩
            · intro a w ux34 hE hM hp
              have f36 : ux34 36 = (ptr pb80 (0 + (s29.2).toNat * 1024 + ((3 : Int)).toNat * 256 + ((bI j9.2.2.2)).toNat * 1)) := hp 0 _ rfl rfl
              refine s_load (v := (vB x93)) hE goes_none (by decide) (lk rfl f36) ty5 rfl (At.vec (At.vec (At.vec (hM.atk hA84 hB85) hi86.2) hi89.2) hi92.2) ?_; intro a hE
              exact ⟨Kept.refl _ _, _, _, rfl, hE, rfl⟩
            · intro a w ux34 hE hM hp
              have f29 : ux34 29 = (vB ((x48 ^^^ x63) ^^^ x78)) := hp 0 _ rfl rfl
              have f37 : ux34 37 = (vB x93) := hp 1 _ rfl rfl
              refine s_int hE goes_none (by decide) (lk rfl f29) (lk rfl f37) (bB_xor ((x48 ^^^ x63) ^^^ x78) x93) ?_; intro a hE
              exact ⟨Kept.refl _ _, _, _, rfl, hE, rfl⟩
            · intro a w ux34 hE hM hp
              have f0 : ux34 0 = (Value.slice (some ⟨pb1, 0, none⟩) 16 16) := hp 0 _ rfl rfl
              have f3 : ux34 3 = (vI (wr (s4.2 + s29.2))) := hp 1 _ rfl rfl
              refine s_indexFull hE goes_none (by decide) (lk rfl f0) (lk rfl f3) Try.underlying50 ty5 hi97.1 ?_; intro a hE
              exact ⟨Kept.refl _ _, _, _, rfl, hE, rfl⟩
            · intro a w ux34 hE hM hg
              have f0 : ux34 0 = (Value.slice (some ⟨pb1, 0, none⟩) 16 16) := hg 0 (by decide)
              have f1 : ux34 1 = (vI s4.2) := hg 1 (by decide)
              have f2 : ux34 2 = (vI s29.2) := hg 2 (by decide)
              have f3 : ux34 3 = (vI (wr (s4.2 + s29.2))) := hg 3 (by decide)
              have f4 : ux34 4 = v0_1 := hg 4 (by decide)
              have f5 : ux34 5 = (vI s29.2) := hg 5 (by decide)
              have f6 : ux34 6 = (vB j9.1) := hg 6 (by decide)
              have f7 : ux34 7 = (ptr pb35 0) := hg 7 (by decide)
              have f8 : ux34 8 = (ptr pb35 (0 + (s29.2).toNat * 1024)) := hg 8 (by decide)
              have f9 : ux34 9 = (ptr pb35 (0 + (s29.2).toNat * 1024 + ((0 : Int)).toNat * 256)) := hg 9 (by decide)
              have f10 : ux34 10 = (ptr pb35 (0 + (s29.2).toNat * 1024 + ((0 : Int)).toNat * 256 + ((bI j9.1)).toNat * 1)) := hg 10 (by decide)
              have f11 : ux34 11 = (vB x48) := hg 11 (by decide)
              have f12 : ux34 12 = v0_1 := hg 12 (by decide)
              have f13 : ux34 13 = (vI s29.2) := hg 13 (by decide)
              have f14 : ux34 14 = (vB j9.2.1) := hg 14 (by decide)
              have f15 : ux34 15 = (ptr pb50 0) := hg 15 (by decide)
              have f16 : ux34 16 = (ptr pb50 (0 + (s29.2).toNat * 1024)) := hg 16 (by decide)
              have f17 : ux34 17 = (ptr pb50 (0 + (s29.2).toNat * 1024 + ((1 : Int)).toNat * 256)) := hg 17 (by decide)
              have f18 : ux34 18 = (ptr pb50 (0 + (s29.2).toNat * 1024 + ((1 : Int)).toNat * 256 + ((bI j9.2.1)).toNat * 1)) := hg 18 (by decide)
              have f19 : ux34 19 = (vB x63) := hg 19 (by decide)
              have f20 : ux34 20 = (vB (x48 ^^^ x63)) := hg 20 (by decide)
              have f21 : ux34 21 = v0_1 := hg 21 (by decide)
              have f22 : ux34 22 = (vI s29.2) := hg 22 (by decide)
              have f23 : ux34 23 = (vB j9.2.2.1) := hg 23 (by decide)
              have f24 : ux34 24 = (ptr pb65 0) := hg 24 (by decide)
              have f25 : ux34 25 = (ptr pb65 (0 + (s29.2).toNat * 1024)) := hg 25 (by decide)
              have f26 : ux34 26 = (ptr pb65 (0 + (s29.2).toNat * 1024 + ((2 : Int)).toNat * 256)) := hg 26 (by decide)
              have f27 : ux34 27 = (ptr pb65 (0 + (s29.2).toNat * 1024 + ((2 : Int)).toNat * 256 + ((bI j9.2.2.1)).toNat * 1)) := hg 27 (by decide)
              have f28 : ux34 28 = (vB x78) := hg 28 (by decide)
              have f29 : ux34 29 = (vB ((x48 ^^^ x63) ^^^ x78)) := hg 29 (by decide)
              have f30 : ux34 30 = v0_1 := hg 30 (by decide)
              have f31 : ux34 31 = (vI s29.2) := hg 31 (by decide)
              have f32 : ux34 32 = (vB j9.2.2.2) := hg 32 (by decide)
              have f33 : ux34 33 = (ptr pb80 0) := hg 33 (by decide)
              have f34 : ux34 34 = (ptr pb80 (0 + (s29.2).toNat * 1024)) := hg 34 (by decide)
              have f35 : ux34 35 = (ptr pb80 (0 + (s29.2).toNat * 1024 + ((3 : Int)).toNat * 256)) := hg 35 (by decide)
              have f36 : ux34 36 = (ptr pb80 (0 + (s29.2).toNat * 1024 + ((3 : Int)).toNat * 256 + ((bI j9.2.2.2)).toNat * 1)) := hg 36 (by decide)
              have f37 : ux34 37 = (vB x93) := hg 37 (by decide)
              have f38 : ux34 38 = (vB (((x48 ^^^ x63) ^^^ x78) ^^^ x93)) := hg 38 (by decide)
              have f39 : ux34 39 = (ptr pb1 (0 + ((wr (s4.2 + s29.2))).toNat * 1)) := hg 39 (by decide)
              have hE := hE.sub (e' := [(38, (Value.slice (some ⟨pb1, 0, none⟩) 16 16)), (39, (vI s4.2)), (40, (vI s29.2)), (41, (vI (wr (s4.2 + s29.2)))), (42, v0_1), (43, (vI s29.2)), (44, (vB j9.1)), (45, (ptr pb35 0)), (46, (ptr pb35 (0 + (s29.2).toNat * 1024))), (47, (ptr pb35 (0 + (s29.2).toNat * 1024 + ((0 : Int)).toNat * 256))), (48, (ptr pb35 (0 + (s29.2).toNat * 1024 + ((0 : Int)).toNat * 256 + ((bI j9.1)).toNat * 1))), (49, (vB x48)), (50, v0_1), (51, (vI s29.2)), (52, (vB j9.2.1)), (53, (ptr pb50 0)), (54, (ptr pb50 (0 + (s29.2).toNat * 1024))), (55, (ptr pb50 (0 + (s29.2).toNat * 1024 + ((1 : Int)).toNat * 256))), (56, (ptr pb50 (0 + (s29.2).toNat * 1024 + ((1 : Int)).toNat * 256 + ((bI j9.2.1)).toNat * 1))), (57, (vB x63)), (58, (vB (x48 ^^^ x63))), (59, v0_1), (60, (vI s29.2)), (61, (vB j9.2.2.1)), (62, (ptr pb65 0)), (63, (ptr pb65 (0 + (s29.2).toNat * 1024))), (64, (ptr pb65 (0 + (s29.2).toNat * 1024 + ((2 : Int)).toNat * 256))), (65, (ptr pb65 (0 + (s29.2).toNat * 1024 + ((2 : Int)).toNat * 256 + ((bI j9.2.2.1)).toNat * 1))), (66, (vB x78)), (67, (vB ((x48 ^^^ x63) ^^^ x78))), (68, v0_1), (69, (vI s29.2)), (70, (vB j9.2.2.2)), (71, (ptr pb80 0)), (72, (ptr pb80 (0 + (s29.2).toNat * 1024))), (73, (ptr pb80 (0 + (s29.2).toNat * 1024 + ((3 : Int)).toNat * 256))), (74, (ptr pb80 (0 + (s29.2).toNat * 1024 + ((3 : Int)).toNat * 256 + ((bI j9.2.2.2)).toNat * 1))), (75, (vB x93)), (76, (vB (((x48 ^^^ x63) ^^^ x78) ^^^ x93))), (77, (ptr pb1 (0 + ((wr (s4.2 + s29.2))).toNat * 1))), (0, v0_1), (1, (Value.slice (some ⟨pb1, 0, none⟩) 16 16)), (4, (vI s4.2)), (5, (vB j9.1)), (6, (vB j9.2.1)), (7, (vB j9.2.2.1)), (8, (vB j9.2.2.2)), (9, (vI s29.2)), (35, (vI s29.2)), (36, (vT (decide (s29.2 < 4)))), (37, (vI s29.2))]) ⟨lk rfl f0, lk rfl f1, lk rfl f2, lk rfl f3, lk rfl f4, lk rfl f5, lk rfl f6, lk rfl f7, lk rfl f8, lk rfl f9, lk rfl f10, lk rfl f11, lk rfl f12, lk rfl f13, lk rfl f14, lk rfl f15, lk rfl f16, lk rfl f17, lk rfl f18, lk rfl f19, lk rfl f20, lk rfl f21, lk rfl f22, lk rfl f23, lk rfl f24, lk rfl f25, lk rfl f26, lk rfl f27, lk rfl f28, lk rfl f29, lk rfl f30, lk rfl f31, lk rfl f32, lk rfl f33, lk rfl f34, lk rfl f35, lk rfl f36, lk rfl f37, lk rfl f38, lk rfl f39, rfl, rfl, rfl, rfl, rfl, rfl, rfl, rfl, rfl, rfl, rfl, trivial⟩
              refine s_store (seg := [(vB (((x48 ^^^ x63) ^^^ x78) ^^^ x93))]) (cs' := Flat.enc (s29.1.setIfInBounds ((wr (s4.2 + s29.2))).toNat (((x48 ^^^ x63) ^^^ x78) ^^^ x93))) hE hM goes_none rfl rfl rfl ty5 rfl (fit_vec (v := s29.1) (x := ((x48 ^^^ x63) ^^^ x78) ^^^ x93) hi97.1) (Flat.cell (((x48 ^^^ x63) ^^^ x78) ^^^ x93 : UInt8)) (splice_vec0 (v := s29.1) (x := ((x48 ^^^ x63) ^^^ x78) ^^^ x93) hi97.1) ?_; intro w a hM hE
              refine c_fin0 ?_
              refine c_nb ?_
              refine c_nx ?_
              refine wp_region_lit ?_
              refine s_int hE goes_none (by decide) rfl rfl rfl ?_; intro a hE
              refine s_move hE goes_none (by decide) rfl ?_; intro a hE
              refine c_fin0 ?_
              refine c_mid ?_
              exact ⟨_, (Option.some.inj hs30).symm, hE.sub ⟨rfl, rfl, rfl, rfl, rfl, rfl, rfl, rfl, trivial⟩, hM⟩
          · intro hb33
            have hs30 := ite_f hs30 hb33
            refine wp_exit (e_then (e_then (e_eq ?_)))
            have ht98 := hx31 _ (Option.some.inj hs30).symm
            subst ht98
            refine c_mid ?_
            exact ⟨hE.sub ⟨rfl, rfl, rfl, trivial⟩, hM⟩
        · skip
          rintro a w ⟨hE, hM⟩
          refine c_nb ?_
          refine c_nx ?_
          refine wp_region_lit ?_
          refine s_move hE goes_none (by decide) rfl ?_; intro a hE
          refine s_int hE goes_none (by decide) rfl rfl rfl ?_; intro a hE
          refine s_assign hE goes_none (by decide) rfl ?_; intro a hE
          refine c_fin0 ?_
          refine c_mid ?_
          exact ⟨_, (Option.some.inj hF28).symm, hE.sub ⟨rfl, rfl, rfl, trivial⟩, hM⟩
    · intro hb8
      have hs5 := ite_f hs5 hb8
      refine wp_exit (e_then (e_then (e_eq ?_)))
      have ht99 := hx6 _ (Option.some.inj hs5).symm
      subst ht99
      refine c_mid ?_
      exact ⟨hE.sub ⟨rfl, trivial⟩, hM⟩
  · skip
    rintro a w ⟨hE, hM⟩
    have hr := Option.some.inj hF3
    subst hr
    exact k_ret0n hE (by rfl) ⟨_, rfl, rfl, hM⟩
noncomputable def L1_impl_engine_encipherWith (p0 : (Ref Gengine)) (s18 : (Vector UInt8 16) × Int) (s29 : (Vector UInt8 16) × Int) : Option (Fl ((Vector UInt8 16) × Int) (Vector UInt8 16)) :=
  if (decide (s29.2 < 16)) = true then ((vidx s18.1 s29.2).bind fun (x34 : UInt8) => (vidx p0.v.box (bI x34)).bind fun (x48 : UInt8) => (vidx s29.1 s29.2).bind fun (x51 : UInt8) => some (Fl.nx ((s29.1.setIfInBounds (s29.2).toNat x48), wr (s29.2 + 1)))) else (some (Fl.ex s29.1))
noncomputable def L0_impl_engine_encipherWith (p0 : (Ref Gengine)) (p1 : (List (Vector UInt8 16))) (s18 : (Vector UInt8 16) × Int) : Option (Fl ((Vector UInt8 16) × Int) (Vector UInt8 16)) :=
  if (decide (s18.2 < (p1.length : Int))) = true then (((iter (L1_impl_engine_encipherWith p0 s18) (s18.1, 0) : Option ((Vector UInt8 16))).bind fun (j26 : (Vector UInt8 16)) => ((F_impl_Places_move p0.v.places j26).bind fun (r68 : (Vector UInt8 16)) => some r68 : Option ((Vector UInt8 16))).bind fun (j54 : (Vector UInt8 16)) => (if (decide (s18.2 < (wr ((p1.length : Int) - 1)))) = true then ((slc j54.toList (0 : Int) (16 : Int)).bind fun (l86 : (List UInt8)) => (F_impl_mixer_mix p0.v.mixer j54).bind fun (r89 : (Vector UInt8 16)) => some r89) else (some j54) : Option ((Vector UInt8 16))).bind fun (j71 : (Vector UInt8 16)) => (idx p1 s18.2).bind fun (x94 : (Vector UInt8 16)) => (F_impl_XorBlocks j71 x94).bind fun (r97 : (Vector UInt8 16)) => some r97 : Option ((Vector UInt8 16))).bind fun (j23 : (Vector UInt8 16)) => some (Fl.nx (j23, wr (s18.2 + 1)))) else (some (Fl.ex s18.1))
noncomputable def F_impl_engine_encipherWith (p0 : (Ref Gengine)) (p1 : (List (Vector UInt8 16))) (p2 : (Vector UInt8 16)) : Option ((Vector UInt8 16)) :=
  ((idx p1 (0 : Int)).bind fun (x9 : (Vector UInt8 16)) => (F_impl_XorBlocks p2 x9).bind fun (r12 : (Vector UInt8 16)) => some r12 : Option ((Vector UInt8 16))).bind fun (j5 : (Vector UInt8 16)) => (iter (L0_impl_engine_encipherWith p0 p1) (j5, 1) : Option ((Vector UInt8 16))).bind fun (j15 : (Vector UInt8 16)) => some j15
set_option maxRecDepth 20000 in
set_option maxHeartbeats 400000 in
theorem c_impl_engine_encipherWith (w0 : World) (p0 : (Ref Gengine)) (v0_1 : Value) (hv0_1 : Ro w0 p0 [v0_1]) (p1 : (List (Vector UInt8 16))) (v1_1 : Value) (hv1_1 : Ro w0 p1 [v1_1]) (p2 : (Vector UInt8 16)) (r : (Vector UInt8 16)) (hF : F_impl_engine_encipherWith p0 p1 p2 = some r) :
    Calls Try.prog 129 [v0_1, v1_1, (Value.agg (Flat.enc p2).toArray)].toArray w0 (fun en w' => ∃ v, en = .returned v ∧ (v = (Value.agg (Flat.enc r).toArray) ∧ Kept (Old w0) w0 w')) := by
  refine c_enter (n := 59) Try.func129 rfl rfl (Nat.le_of_ble_eq_true rfl) rfl ?_
  intro a hE
  have hM := M.start w0
  unfold F_impl_engine_encipherWith at hF
  refine c_region ?_
  refine s_box (cs := Flat.enc p2) hE hM goes_none (by decide) rfl rfl ?_; intro b1 w a hM hE
  refine s_alloc hE hM goes_none (by decide) ty39 ?_; intro b3 w a hM hE
  refine c_fin ?_
  obtain ⟨j5, hl6, hF7⟩ := bind_some hF
  refine c_join (fun a w => Env 59 a [(0, v0_1), (1, v1_1), (5, (ptr b1 0)), (6, (ptr b3 0))] ∧ M (Old w0) w0 w [raw b3 (Flat.enc (Vector.replicate 16 (0 : UInt8))), raw b1 (Flat.enc j5)]) ?_ ?_
  · skip
    obtain ⟨x9, e10, hl6⟩ := bind_some hl6
    have hi11 := idx_some e10
    obtain ⟨r12, e13, hl6⟩ := bind_some hl6
    refine c_draw (n := 59) (hd := [_, _, _, _, _]) (tl := [_]) hmix rfl rfl [10, 11, 12, 13, 14] (by decide) (fun w => M (Old w0) w0 w [raw b3 (Flat.enc (Vector.replicate 16 (0 : UInt8))), raw b1 (Flat.enc p2)]) (fun j => ([fun v _ => v = (Value.agg (Flat.enc p2).toArray), fun v _ => v = v1_1, fun v _ => v = (ptr (sb v1_1) (so v1_1 + ((0 : Int)).toNat * 16)), fun v _ => v = (Value.agg (Flat.enc x9).toArray), fun v _ => v = (Value.agg (Flat.enc r12).toArray)] : List (Value → World → Prop)).getD j (fun _ _ => True)) (fun _ _ h hk => h.keep hk) (gup (gupE (gupE (gupE (gupE (gupE gupN)))))) hE hM.drew (steps_of (steps_cons ?_ (steps_cons ?_ (steps_cons ?_ (steps_cons ?_ (steps_cons ?_ steps_nil)))))) ?_
    · intro a w ux8 hE hM hp
      refine s_loadA (cs := Flat.enc p2) hE goes_none (by decide) rfl ty39 rfl (hM.rawAt (pre := [_])) (Flat.len _) ?_; intro a hE
      exact ⟨Kept.refl _ _, _, _, rfl, hE, rfl⟩
    · intro a w ux8 hE hM hp
      refine s_move hE goes_none (by decide) rfl ?_; intro a hE
      exact ⟨Kept.refl _ _, _, _, rfl, hE, rfl⟩
    · intro a w ux8 hE hM hp
      have f1 : ux8 1 = v1_1 := hp 0 _ rfl rfl
      refine s_indexS hE goes_none (by decide) (lk rfl f1) rfl Try.underlying34 ty39 (hM.rd hv1_1) hi11.1 ?_; intro a hE
      exact ⟨Kept.refl _ _, _, _, rfl, hE, rfl⟩
    · intro a w ux8 hE hM hp
      have f2 : ux8 2 = (ptr (sb v1_1) (so v1_1 + ((0 : Int)).toNat * 16)) := hp 0 _ rfl rfl
      refine s_loadA (cs := Flat.enc x9) hE goes_none (by decide) (lk rfl f2) ty39 rfl (sl_atF (hM.rd hv1_1) hi11.2) (Flat.len _) ?_; intro a hE
      exact ⟨Kept.refl _ _, _, _, rfl, hE, rfl⟩
    · intro a w ux8 hE hM hp
      have f0 : ux8 0 = (Value.agg (Flat.enc p2).toArray) := hp 0 _ rfl rfl
      have f3 : ux8 3 = (Value.agg (Flat.enc x9).toArray) := hp 1 _ rfl rfl
      refine s_call (vs := [(Value.agg (Flat.enc p2).toArray), (Value.agg (Flat.enc x9).toArray)]) hE goes_none (by decide) (evs_of (evsC (lk rfl f0) (evsC (lk rfl f3) evsN))) cb114 (c_impl_XorBlocks _ p2 x9 r12 e13) ?_
      rintro v w a ⟨rfl, hK⟩ hE
      exact ⟨hK, _, _, rfl, hE, rfl⟩
    · intro a w ux8 hE hM hg
      have f0 : ux8 0 = (Value.agg (Flat.enc p2).toArray) := hg 0 (by decide)
      have f1 : ux8 1 = v1_1 := hg 1 (by decide)
      have f2 : ux8 2 = (ptr (sb v1_1) (so v1_1 + ((0 : Int)).toNat * 16)) := hg 2 (by decide)
      have f3 : ux8 3 = (Value.agg (Flat.enc x9).toArray) := hg 3 (by decide)
      have f4 : ux8 4 = (Value.agg (Flat.enc r12).toArray) := hg 4 (by decide)
      have hE := hE.sub (e' := [(10, (Value.agg (Flat.enc p2).toArray)), (11, v1_1), (12, (ptr (sb v1_1) (so v1_1 + ((0 : Int)).toNat * 16))), (13, (Value.agg (Flat.enc x9).toArray)), (14, (Value.agg (Flat.enc r12).toArray)), (0, v0_1), (1, v1_1), (2, (Value.agg (Flat.enc p2).toArray)), (5, (ptr b1 0)), (6, (ptr b3 0))]) ⟨lk rfl f0, lk rfl f1, lk rfl f2, lk rfl f3, lk rfl f4, rfl, rfl, rfl, rfl, rfl, trivial⟩
      have hM := hM.pull (pre := [_])
      refine s_store (seg := Flat.enc r12) (cs' := Flat.enc r12) hE hM goes_none rfl rfl rfl ty39 (Flat.len _) (Nat.le_of_eq ((Nat.zero_add _).trans (Eq.trans (Flat.len _) (Eq.symm (Flat.len _))))) (Flat.cell _) (splice_all (Eq.trans (Flat.len _) (Eq.symm (Flat.len _)))) ?_; intro w a hM hE
      refine c_fin0 ?_
      have ht14 := Option.some.inj hl6
      subst ht14
      refine c_mid ?_
      have hM := hM.pull (pre := [_])
      exact ⟨hE.sub ⟨rfl, rfl, rfl, rfl, trivial⟩, hM⟩
  · skip
    rintro a w ⟨hE, hM⟩
    refine wp_seq ?_
    refine c_region ?_
    refine s_assign hE goes_none (by decide) rfl ?_; intro a hE
    refine c_fin ?_
    obtain ⟨j15, hl16, hF17⟩ := bind_some hF7
    refine c_cut (fun a w => Env 59 a [(5, (ptr b1 0)), (6, (ptr b3 0))] ∧ M (Old w0) w0 w [raw b3 (Flat.enc (Vector.replicate 16 (0 : UInt8))), raw b1 (Flat.enc j15)]) ?_ ?_
    · skip
      refine wp_block ?_
      refine c_loop (fun (s18 : (Vector UInt8 16) × Int) a w => Env 59 a [(0, v0_1), (1, v1_1), (5, (ptr b1 0)), (6, (ptr b3 0)), (7, (vI s18.2))] ∧ M (Old w0) w0 w [raw b3 (Flat.enc (Vector.replicate 16 (0 : UInt8))), raw b1 (Flat.enc s18.1)]) hl16 ⟨hE.sub ⟨rfl, rfl, rfl, rfl, rfl, trivial⟩, hM⟩ ?_
      rintro s18 a w ⟨hE, hM⟩ o21 hs19 hx20
      unfold L0_impl_engine_encipherWith at hs19
      refine wp_seq ?_
      refine c_region ?_
      refine s_move hE goes_none (by decide) rfl ?_; intro a hE
      refine s_move hE goes_none (by decide) rfl ?_; intro a hE
      refine s_len hE goes_none (by decide) rfl Try.underlying34 (hM.rd hv1_1) ?_; intro a hE
      refine s_int hE goes_none (by decide) rfl rfl rfl ?_; intro a hE
      refine c_fin ?_
      refine c_cond hE rfl ?_ ?_
      · intro hb22
        have hs19 := ite_t hs19 hb22
        refine wp_skip ?_
        refine c_nx ?_
        obtain ⟨j23, hl24, hF25⟩ := bind_some hs19
        refine c_join (fun a w => Env 59 a [(0, v0_1), (1, v1_1), (5, (ptr b1 0)), (6, (ptr b3 0)), (7, (vI s18.2))] ∧ M (Old w0) w0 w [raw b3 (Flat.enc (Vector.replicate 16 (0 : UInt8))), raw b1 (Flat.enc j23)]) ?_ ?_
        · skip
          refine wp_block ?_
          refine wp_seq ?_
          refine c_region ?_
          refine s_loadA (cs := Flat.enc s18.1) hE goes_none (by decide) rfl ty39 rfl (hM.rawAt (pre := [_])) (Flat.len _) ?_; intro a hE
          refine s_move hE goes_none (by decide) rfl ?_; intro a hE
          refine c_fin ?_
          obtain ⟨j26, hl27, hF28⟩ := bind_some hl24
          refine c_cut (fun a w => Env 59 a [(0, v0_1), (1, v1_1), (5, (ptr b1 0)), (6, (ptr b3 0)), (7, (vI s18.2))] ∧ M (Old w0) w0 w [raw b3 (Flat.enc (Vector.replicate 16 (0 : UInt8))), raw b1 (Flat.enc j26)]) ?_ ?_
          · skip
            refine wp_block ?_
            refine c_loop (fun (s29 : (Vector UInt8 16) × Int) a w => Env 59 a [(0, v0_1), (1, v1_1), (5, (ptr b1 0)), (6, (ptr b3 0)), (7, (vI s18.2)), (21, (Value.agg (Flat.enc s18.1).toArray)), (22, (vI s29.2))] ∧ M (Old w0) w0 w [raw b3 (Flat.enc (Vector.replicate 16 (0 : UInt8))), raw b1 (Flat.enc s29.1)]) hl27 ⟨hE.sub ⟨rfl, rfl, rfl, rfl, rfl, rfl, rfl, trivial⟩, hM⟩ ?_
            rintro s29 a w ⟨hE, hM⟩ o32 hs30 hx31
            unfold L1_impl_engine_encipherWith at hs30
            refine c_region ?_
            refine s_int hE goes_none (by decide) rfl rfl rfl ?_; intro a hE
            refine c_fin ?_
            refine wp_seq ?_
            refine c_cond hE rfl ?_ ?_
            · intro hb33
              have hs30 := ite_t hs30 hb33
              refine wp_skip ?_
              refine c_nx ?_
              refine wp_seq ?_
              refine wp_block ?_
              refine c_region ?_
              refine s_move hE goes_none (by decide) rfl ?_; intro a hE
              obtain ⟨x34, e35, hs30⟩ := bind_some hs30
              have hi36 := vidx_some e35
              refine s_indexV hE goes_none (by decide) rfl rfl Try.underlying39 ty5 rfl rfl hi36 rfl ?_; intro a hE
              refine s_assign hE goes_none (by decide) rfl ?_; intro a hE
              refine s_assign hE goes_none (by decide) rfl ?_; intro a hE
              refine c_fin ?_
              refine wp_region_lit ?_
              refine s_move hE goes_none (by decide) rfl ?_; intro a hE
              refine s_move hE goes_none (by decide) rfl ?_; intro a hE
              refine s_move hE goes_none (by decide) rfl ?_; intro a hE
              obtain ⟨pb37, ds38, hv39, hx40, hA41, hB42⟩ := ref_open hv0_1 -- ^
              obtain ⟨u43, u45, rfl, h44, h46⟩ := un_Gengine hx40 -- ^
              refine s_nilCheck hE goes_none (by decide) (lk rfl hv39) ?_; intro a hE
              refine s_fieldAddr hE goes_none (by decide) rfl (fd152_0) ?_; intro a hE
              obtain ⟨x48, e49, hs30⟩ := bind_some hs30
              have hi47 := vidx_some e49
              refine s_indexA hE goes_none (by decide) rfl rfl Try.underlying97 ty5 hi47.1 ?_; intro a hE
              refine s_load (v := (vB x48)) hE goes_none (by decide) rfl ty5 rfl (At.vec (At.cat (pre := []) (seg := Flat.enc p0.v.box) (post := [Flat.enc p0.v.backBox, Flat.enc p0.v.places, Flat.enc p0.v.backPlaces, [u43], [u45], [(vI p0.v.rounds)]]) (hM.atk hA41 hB42) cl0) hi47.2) ?_; intro a hE
              obtain ⟨x51, e52, hs30⟩ := bind_some hs30
              have hi50 := vidx_some e52
              refine s_indexA hE goes_none (by decide) rfl rfl Try.underlying39 ty5 hi50.1 ?_; intro a hE
              have hM := hM.pull (pre := [_])
              refine s_store (seg := [(vB x48)]) (cs' := Flat.enc (s29.1.setIfInBounds (s29.2).toNat x48)) hE hM goes_none rfl rfl rfl ty5 rfl (fit_vec (v := s29.1) (x := x48) hi50.1) (Flat.cell (x48 : UInt8)) (splice_vec0 (v := s29.1) (x := x48) hi50.1) ?_; intro w a hM hE
              refine c_fin0 ?_
              refine c_nb ?_
              refine c_nx ?_
              refine wp_region_lit ?_
              refine s_int hE goes_none (by decide) rfl rfl rfl ?_; intro a hE
              refine s_move hE goes_none (by decide) rfl ?_; intro a hE
              refine c_fin0 ?_
              refine c_mid ?_
              have hM := hM.pull (pre := [_])
              exact ⟨_, (Option.some.inj hs30).symm, hE.sub ⟨rfl, rfl, rfl, rfl, rfl, rfl, rfl, trivial⟩, hM⟩
            · intro hb33
              have hs30 := ite_f hs30 hb33
              refine wp_exit (e_then (e_then (e_eq ?_)))
              have ht53 := hx31 _ (Option.some.inj hs30).symm
              subst ht53
              refine c_mid ?_
              exact ⟨hE.sub ⟨rfl, rfl, rfl, rfl, rfl, trivial⟩, hM⟩
          · skip
            rintro a w ⟨hE, hM⟩
            refine c_nx ?_
            obtain ⟨j54, hl55, hF56⟩ := bind_some hF28
            refine c_join (fun a w => Env 59 a [(0, v0_1), (1, v1_1), (5, (ptr b1 0)), (6, (ptr b3 0)), (7, (vI s18.2))] ∧ M (Old w0) w0 w [raw b3 (Flat.enc (Vector.replicate 16 (0 : UInt8))), raw b1 (Flat.enc j54)]) ?_ ?_
            · skip
              obtain ⟨pb58, ds59, hv60, hx61, hA62, hB63⟩ := ref_open hv0_1 -- ^
              obtain ⟨u64, u66, rfl, h65, h67⟩ := un_Gengine hx61 -- ^
              obtain ⟨r68, e69, hl55⟩ := bind_some hl55
              refine c_draw (n := 59) (hd := [_, _, _, _, _, _]) (tl := [_]) hmix rfl rfl [35, 36, 37, 38, 39, 40] (by decide) (fun w => M (Old w0) w0 w [raw b3 (Flat.enc (Vector.replicate 16 (0 : UInt8))), raw b1 (Flat.enc j26)]) (fun j => ([fun v _ => v = v0_1, fun v _ => v = (ptr pb58 0), fun v _ => v = (ptr pb58 (0 + 512)), fun v _ => v = (Value.agg (Flat.enc p0.v.places).toArray), fun v _ => v = (Value.agg (Flat.enc j26).toArray), fun v _ => v = (Value.agg (Flat.enc r68).toArray)] : List (Value → World → Prop)).getD j (fun _ _ => True)) (fun _ _ h hk => h.keep hk) (gup (gupE (gupE (gupE (gupE (gupE (gupE gupN))))))) hE hM.drew (steps_of (steps_cons ?_ (steps_cons ?_ (steps_cons ?_ (steps_cons ?_ (steps_cons ?_ (steps_cons ?_ steps_nil))))))) ?_
              · intro a w ux57 hE hM hp
                refine s_move hE goes_none (by decide) rfl ?_; intro a hE
                exact ⟨Kept.refl _ _, _, _, rfl, hE, rfl⟩
              · intro a w ux57 hE hM hp
                have f0 : ux57 0 = v0_1 := hp 0 _ rfl rfl
                refine s_nilCheck hE goes_none (by decide) (lk (lk rfl f0) hv60) ?_; intro a hE
                exact ⟨Kept.refl _ _, _, _, rfl, hE, rfl⟩
              · intro a w ux57 hE hM hp
                have f1 : ux57 1 = (ptr pb58 0) := hp 0 _ rfl rfl
                refine s_fieldAddr hE goes_none (by decide) (lk rfl f1) (fd152_2) ?_; intro a hE
                exact ⟨Kept.refl _ _, _, _, rfl, hE, rfl⟩
              · intro a w ux57 hE hM hp
                have f2 : ux57 2 = (ptr pb58 (0 + 512)) := hp 0 _ rfl rfl
                refine s_loadA (cs := Flat.enc p0.v.places) hE goes_none (by decide) (lk rfl f2) ty101 rfl (At.cat (pre := [Flat.enc p0.v.box, Flat.enc p0.v.backBox]) (seg := Flat.enc p0.v.places) (post := [Flat.enc p0.v.backPlaces, [u64], [u66], [(vI p0.v.rounds)]]) (hM.atk hA62 hB63) (cl1 (n := 256) (m := 256) (Flat.len _) (cl1 (n := 256) (m := 0) (Flat.len _) cl0))) (Flat.len _) ?_; intro a hE
                exact ⟨Kept.refl _ _, _, _, rfl, hE, rfl⟩
              · intro a w ux57 hE hM hp
                refine s_loadA (cs := Flat.enc j26) hE goes_none (by decide) rfl ty39 rfl (hM.rawAt (pre := [_])) (Flat.len _) ?_; intro a hE
                exact ⟨Kept.refl _ _, _, _, rfl, hE, rfl⟩
              · intro a w ux57 hE hM hp
                have f3 : ux57 3 = (Value.agg (Flat.enc p0.v.places).toArray) := hp 0 _ rfl rfl
                have f4 : ux57 4 = (Value.agg (Flat.enc j26).toArray) := hp 1 _ rfl rfl
                refine s_call (vs := [(Value.agg (Flat.enc p0.v.places).toArray), (Value.agg (Flat.enc j26).toArray)]) hE goes_none (by decide) (evs_of (evsC (lk rfl f3) (evsC (lk rfl f4) evsN))) cb133 (c_impl_Places_move _ p0.v.places j26 r68 e69) ?_
                rintro v w a ⟨rfl, hK⟩ hE
                exact ⟨hK, _, _, rfl, hE, rfl⟩
              · intro a w ux57 hE hM hg
                have f0 : ux57 0 = v0_1 := hg 0 (by decide)
                have f1 : ux57 1 = (ptr pb58 0) := hg 1 (by decide)
                have f2 : ux57 2 = (ptr pb58 (0 + 512)) := hg 2 (by decide)
                have f3 : ux57 3 = (Value.agg (Flat.enc p0.v.places).toArray) := hg 3 (by decide)
                have f4 : ux57 4 = (Value.agg (Flat.enc j26).toArray) := hg 4 (by decide)
                have f5 : ux57 5 = (Value.agg (Flat.enc r68).toArray) := hg 5 (by decide)
                have hE := hE.sub (e' := [(35, v0_1), (36, (ptr pb58 0)), (37, (ptr pb58 (0 + 512))), (38, (Value.agg (Flat.enc p0.v.places).toArray)), (39, (Value.agg (Flat.enc j26).toArray)), (40, (Value.agg (Flat.enc r68).toArray)), (0, v0_1), (1, v1_1), (5, (ptr b1 0)), (6, (ptr b3 0)), (7, (vI s18.2))]) ⟨lk rfl f0, lk rfl f1, lk rfl f2, lk rfl f3, lk rfl f4, lk rfl f5, rfl, rfl, rfl, rfl, rfl, trivial⟩
                have hM := hM.pull (pre := [_])
                refine s_store (seg := Flat.enc r68) (cs' := Flat.enc r68) hE hM goes_none rfl rfl rfl ty39 (Flat.len _) (Nat.le_of_eq ((Nat.zero_add _).trans (Eq.trans (Flat.len _) (Eq.symm (Flat.len _))))) (Flat.cell _) (splice_all (Eq.trans (Flat.len _) (Eq.symm (Flat.len _)))) ?_; intro w a hM hE
                refine c_fin0 ?_
                have ht70 := Option.some.inj hl55
                subst ht70
                refine c_mid ?_
                have hM := hM.pull (pre := [_])
                exact ⟨hE.sub ⟨rfl, rfl, rfl, rfl, rfl, trivial⟩, hM⟩
            · skip
              rintro a w ⟨hE, hM⟩
              obtain ⟨j71, hl72, hF73⟩ := bind_some hF56
              refine c_join (fun a w => Env 59 a [(0, v0_1), (1, v1_1), (5, (ptr b1 0)), (6, (ptr b3 0)), (7, (vI s18.2))] ∧ M (Old w0) w0 w [raw b3 (Flat.enc (Vector.replicate 16 (0 : UInt8))), raw b1 (Flat.enc j71)]) ?_ ?_
              · skip
                refine c_region ?_
                refine s_move hE goes_none (by decide) rfl ?_; intro a hE
                refine s_move hE goes_none (by decide) rfl ?_; intro a hE
                refine s_len hE goes_none (by decide) rfl Try.underlying34 (hM.rd hv1_1) ?_; intro a hE
                refine s_int hE goes_none (by decide) rfl rfl rfl ?_; intro a hE
                refine s_int hE goes_none (by decide) rfl rfl rfl ?_; intro a hE
                refine c_fin ?_
                refine c_cond hE rfl ?_ ?_
                · intro hb74
                  have hl72 := ite_t hl72 hb74
                  obtain ⟨pb76, ds77, hv78, hx79, hA80, hB81⟩ := ref_open hv0_1 -- ^
                  obtain ⟨u82, u84, rfl, h83, h85⟩ := un_Gengine hx79 -- ^
                  obtain ⟨l86, e87, hl72⟩ := bind_some hl72
                  have hb88 := slc_arr e87 -- ^
                  refine c_draw (n := 59) (hd := [_, _, _, _, _]) (tl := [_]) hmix rfl rfl [46, 47, 48, 49, 50] (by decide) (fun w => M (Old w0) w0 w [raw b3 (Flat.enc (Vector.replicate 16 (0 : UInt8))), raw b1 (Flat.enc j54)]) (fun j => ([fun v _ => v = v0_1, fun v _ => v = (ptr pb76 0), fun v _ => v = (ptr pb76 (0 + 544)), fun v _ => v = u82, fun v _ => v = (sliceV (.slice (some ⟨b1, 0, none⟩) 16 16) ((0 : Int)).toNat ((16 : Int)).toNat 1)] : List (Value → World → Prop)).getD j (fun _ _ => True)) (fun _ _ h hk => h.keep hk) (gup (gupE (gupE (gupE (gupE (gupE gupN)))))) hE hM.drew (steps_of (steps_cons ?_ (steps_cons ?_ (steps_cons ?_ (steps_cons ?_ (steps_cons ?_ steps_nil)))))) ?_
                  · intro a w ux75 hE hM hp
                    refine s_move hE goes_none (by decide) rfl ?_; intro a hE
                    exact ⟨Kept.refl _ _, _, _, rfl, hE, rfl⟩
                  · intro a w ux75 hE hM hp
                    have f0 : ux75 0 = v0_1 := hp 0 _ rfl rfl
                    refine s_nilCheck hE goes_none (by decide) (lk (lk rfl f0) hv78) ?_; intro a hE
                    exact ⟨Kept.refl _ _, _, _, rfl, hE, rfl⟩
                  · intro a w ux75 hE hM hp
                    have f1 : ux75 1 = (ptr pb76 0) := hp 0 _ rfl rfl
                    refine s_fieldAddr hE goes_none (by decide) (lk rfl f1) (fd152_4) ?_; intro a hE
                    exact ⟨Kept.refl _ _, _, _, rfl, hE, rfl⟩
                  · intro a w ux75 hE hM hp
                    have f2 : ux75 2 = (ptr pb76 (0 + 544)) := hp 0 _ rfl rfl
                    refine s_load (v := u82) hE goes_none (by decide) (lk rfl f2) ty149 rfl (At.cat (pre := [Flat.enc p0.v.box, Flat.enc p0.v.backBox, Flat.enc p0.v.places, Flat.enc p0.v.backPlaces]) (seg := [u82]) (post := [[u84], [(vI p0.v.rounds)]]) (hM.atk hA80 hB81) (cl1 (n := 256) (m := 288) (Flat.len _) (cl1 (n := 256) (m := 32) (Flat.len _) (cl1 (n := 16) (m := 16) (Flat.len _) (cl1 (n := 16) (m := 0) (Flat.len _) cl0))))) ?_; intro a hE
                    exact ⟨Kept.refl _ _, _, _, rfl, hE, rfl⟩
                  · intro a w ux75 hE hM hp
                    refine s_sliceArr (N := 16) hE goes_none (by decide) rfl rfl rfl rfl rfl Try.underlying39 ty5 hb88 ?_; intro a hE
                    exact ⟨Kept.refl _ _, _, _, rfl, hE, rfl⟩
                  · intro a w ux75 hE hM hg
                    have f0 : ux75 0 = v0_1 := hg 0 (by decide)
                    have f1 : ux75 1 = (ptr pb76 0) := hg 1 (by decide)
                    have f2 : ux75 2 = (ptr pb76 (0 + 544)) := hg 2 (by decide)
                    have f3 : ux75 3 = u82 := hg 3 (by decide)
                    have f4 : ux75 4 = (sliceV (.slice (some ⟨b1, 0, none⟩) 16 16) ((0 : Int)).toNat ((16 : Int)).toNat 1) := hg 4 (by decide)
                    have hE := hE.sub (e' := [(46, v0_1), (47, (ptr pb76 0)), (48, (ptr pb76 (0 + 544))), (49, u82), (50, (sliceV (.slice (some ⟨b1, 0, none⟩) 16 16) ((0 : Int)).toNat ((16 : Int)).toNat 1)), (0, v0_1), (1, v1_1), (5, (ptr b1 0)), (6, (ptr b3 0)), (7, (vI s18.2)), (41, (vI s18.2)), (42, v1_1), (43, (vI (p1.length : Int))), (44, (vI (wr ((p1.length : Int) - 1)))), (45, (vT (decide (s18.2 < (wr ((p1.length : Int) - 1))))))]) ⟨lk rfl f0, lk rfl f1, lk rfl f2, lk rfl f3, lk rfl f4, rfl, rfl, rfl, rfl, rfl, rfl, rfl, rfl, rfl, rfl, trivial⟩
                    have hM := hM.pull (pre := [_])
                    obtain ⟨r89, e90, hl72⟩ := bind_some hl72
                    refine s_call (vs := [u82, (sliceV (.slice (some ⟨b1, 0, none⟩) 16 16) ((0 : Int)).toNat ((16 : Int)).toNat 1)]) hE goes_none (by decide) rfl cb134 (c_impl_mixer_mix _ _ _ _ p0.v.mixer u82 h83 b1 j54 hM r89 e90) ?_
                    rintro v w a ⟨rfl, hM⟩ hE
                    refine c_fin0 ?_
                    have ht91 := Option.some.inj hl72
                    subst ht91
                    refine c_mid ?_
                    have hM := hM.pull (pre := [_])
                    exact ⟨hE.sub ⟨rfl, rfl, rfl, rfl, rfl, trivial⟩, hM⟩
                · intro hb74
                  have hl72 := ite_f hl72 hb74
                  refine wp_skip ?_
                  have ht92 := Option.some.inj hl72
                  subst ht92
                  refine c_mid ?_
                  exact ⟨hE.sub ⟨rfl, rfl, rfl, rfl, rfl, trivial⟩, hM⟩
              · skip
                rintro a w ⟨hE, hM⟩
                obtain ⟨x94, e95, hF73⟩ := bind_some hF73
                have hi96 := idx_some e95
                obtain ⟨r97, e98, hF73⟩ := bind_some hF73
                refine c_draw (n := 59) (hd := [_, _, _, _, _, _]) (tl := [_]) hmix rfl rfl [52, 53, 54, 55, 56, 57] (by decide) (fun w => M (Old w0) w0 w [raw b3 (Flat.enc (Vector.replicate 16 (0 : UInt8))), raw b1 (Flat.enc j71)]) (fun j => ([fun v _ => v = (Value.agg (Flat.enc j71).toArray), fun v _ => v = v1_1, fun v _ => v = (vI s18.2), fun v _ => v = (ptr (sb v1_1) (so v1_1 + (s18.2).toNat * 16)), fun v _ => v = (Value.agg (Flat.enc x94).toArray), fun v _ => v = (Value.agg (Flat.enc r97).toArray)] : List (Value → World → Prop)).getD j (fun _ _ => True)) (fun _ _ h hk => h.keep hk) (gup (gupE (gupE (gupE (gupE (gupE (gupE gupN))))))) hE hM.drew (steps_of (steps_cons ?_ (steps_cons ?_ (steps_cons ?_ (steps_cons ?_ (steps_cons ?_ (steps_cons ?_ steps_nil))))))) ?_
                · intro a w ux93 hE hM hp
                  refine s_loadA (cs := Flat.enc j71) hE goes_none (by decide) rfl ty39 rfl (hM.rawAt (pre := [_])) (Flat.len _) ?_; intro a hE
                  exact ⟨Kept.refl _ _, _, _, rfl, hE, rfl⟩
                · intro a w ux93 hE hM hp
                  refine s_move hE goes_none (by decide) rfl ?_; intro a hE
                  exact ⟨Kept.refl _ _, _, _, rfl, hE, rfl⟩
                · intro a w ux93 hE hM hp
                  refine s_move hE goes_none (by decide) rfl ?_; intro a hE
                  exact ⟨Kept.refl _ _, _, _, rfl, hE, rfl⟩
                · intro a w ux93 hE hM hp
                  have f1 : ux93 1 = v1_1 := hp 0 _ rfl rfl
                  have f2 : ux93 2 = (vI s18.2) := hp 1 _ rfl rfl
                  refine s_indexS hE goes_none (by decide) (lk rfl f1) (lk rfl f2) Try.underlying34 ty39 (hM.rd hv1_1) hi96.1 ?_; intro a hE
                  exact ⟨Kept.refl _ _, _, _, rfl, hE, rfl⟩
                · intro a w ux93 hE hM hp
                  have f3 : ux93 3 = (ptr (sb v1_1) (so v1_1 + (s18.2).toNat * 16)) := hp 0 _ rfl rfl
                  refine s_loadA (cs := Flat.enc x94) hE goes_none (by decide) (lk rfl f3) ty39 rfl (sl_atF (hM.rd hv1_1) hi96.2) (Flat.len _) ?_; intro a hE
                  exact ⟨Kept.refl _ _, _, _, rfl, hE, rfl⟩
                · intro a w ux93 hE hM hp
                  have f0 : ux93 0 = (Value.agg (Flat.enc j71).toArray) := hp 0 _ rfl rfl
                  have f4 : ux93 4 = (Value.agg (Flat.enc x94).toArray) := hp 1 _ rfl rfl
                  refine s_call (vs := [(Value.agg (Flat.enc j71).toArray), (Value.agg (Flat.enc x94).toArray)]) hE goes_none (by decide) (evs_of (evsC (lk rfl f0) (evsC (lk rfl f4) evsN))) cb114 (c_impl_XorBlocks _ j71 x94 r97 e98) ?_
                  rintro v w a ⟨rfl, hK⟩ hE
                  exact ⟨hK, _, _, rfl, hE, rfl⟩
                · intro a w ux93 hE hM hg
                  have f0 : ux93 0 = (Value.agg (Flat.enc j71).toArray) := hg 0 (by decide)
                  have f1 : ux93 1 = v1_1 := hg 1 (by decide)
                  have f2 : ux93 2 = (vI s18.2) := hg 2 (by decide)
                  have f3 : ux93 3 = (ptr (sb v1_1) (so v1_1 + (s18.2).toNat * 16)) := hg 3 (by decide)
                  have f4 : ux93 4 = (Value.agg (Flat.enc x94).toArray) := hg 4 (by decide)
                  have f5 : ux93 5 = (Value.agg (Flat.enc r97).toArray) := hg 5 (by decide)
                  have hE := hE.sub (e' := [(52, (Value.agg (Flat.enc j71).toArray)), (53, v1_1), (54, (vI s18.2)), (55, (ptr (sb v1_1) (so v1_1 + (s18.2).toNat * 16))), (56, (Value.agg (Flat.enc x94).toArray)), (57, (Value.agg (Flat.enc r97).toArray)), (0, v0_1), (1, v1_1), (5, (ptr b1 0)), (6, (ptr b3 0)), (7, (vI s18.2))]) ⟨lk rfl f0, lk rfl f1, lk rfl f2, lk rfl f3, lk rfl f4, lk rfl f5, rfl, rfl, rfl, rfl, rfl, trivial⟩
                  have hM := hM.pull (pre := [_])
                  refine s_store (seg := Flat.enc r97) (cs' := Flat.enc r97) hE hM goes_none rfl rfl rfl ty39 (Flat.len _) (Nat.le_of_eq ((Nat.zero_add _).trans (Eq.trans (Flat.len _) (Eq.symm (Flat.len _))))) (Flat.cell _) (splice_all (Eq.trans (Flat.len _) (Eq.symm (Flat.len _)))) ?_; intro w a hM hE
                  refine c_fin0 ?_
                  refine c_nb ?_
                  have ht99 := Option.some.inj hF73
                  subst ht99
                  refine c_mid ?_
                  have hM := hM.pull (pre := [_])
                  exact ⟨hE.sub ⟨rfl, rfl, rfl, rfl, rfl, trivial⟩, hM⟩
        · skip
          rintro a w ⟨hE, hM⟩
          refine wp_region_lit ?_
          refine s_move hE goes_none (by decide) rfl ?_; intro a hE
          refine s_int hE goes_none (by decide) rfl rfl rfl ?_; intro a hE
          refine s_assign hE goes_none (by decide) rfl ?_; intro a hE
          refine c_fin0 ?_
          refine c_mid ?_
          exact ⟨_, (Option.some.inj hF25).symm, hE.sub ⟨rfl, rfl, rfl, rfl, rfl, trivial⟩, hM⟩
      · intro hb22
        have hs19 := ite_f hs19 hb22
        refine wp_exit (e_then (e_then (e_eq ?_)))
        have ht100 := hx20 _ (Option.some.inj hs19).symm
        subst ht100
        refine c_mid ?_
        exact ⟨hE.sub ⟨rfl, rfl, trivial⟩, hM⟩
    · skip
      rintro a w ⟨hE, hM⟩
      refine c_nx ?_
      refine c_region ?_
      refine s_loadA (cs := Flat.enc j15) hE goes_none (by decide) rfl ty39 rfl (hM.rawAt (pre := [_])) (Flat.len _) ?_; intro a hE
      refine s_store (seg := Flat.enc j15) (cs' := Flat.enc j15) hE hM goes_none rfl rfl rfl ty39 (Flat.len _) (Nat.le_of_eq ((Nat.zero_add _).trans (Eq.trans (Flat.len _) (Eq.symm (Flat.len _))))) (Flat.cell _) (splice_all (Eq.trans (Flat.len _) (Eq.symm (Flat.len _)))) ?_; intro w a hM hE
      refine c_fin ?_
      have hr := Option.some.inj hF17
      subst hr
      have hq101 : ResIs Try.prog _ _ (.cell 6 39) _ := res_cell hE rfl ty39 rfl (hM.rawAt (pre := [])) (Flat.len _) rfl
      have hM := M.fst (l := []) hM
      exact wp_ret (k_ret1 hE rfl hq101 ⟨_, rfl, rfl, hM.kept⟩)
noncomputable def F_impl_engine_encipher (p0 : (Ref Gengine)) (p1 : (Vector UInt8 16)) (p2 : (Vector UInt8 16)) : Option ((Vector UInt8 16)) :=
  ((F_impl_engine_keys p0 p1 p0.v.rounds).bind fun (r21 : (List (Vector UInt8 16))) => (F_impl_engine_encipherWith p0 r21 p2).bind fun (r24 : (Vector UInt8 16)) => some r24 : Option ((Vector UInt8 16))).bind fun (j7 : (Vector UInt8 16)) => some j7
set_option maxRecDepth 20000 in
set_option maxHeartbeats 400000 in
theorem c_impl_engine_encipher (w0 : World) (p0 : (Ref Gengine)) (v0_1 : Value) (hv0_1 : Ro w0 p0 [v0_1]) (p1 : (Vector UInt8 16)) (p2 : (Vector UInt8 16)) (r : (Vector UInt8 16)) (hF : F_impl_engine_encipher p0 p1 p2 = some r) :
    Calls Try.prog 115 [v0_1, (Value.agg (Flat.enc p1).toArray), (Value.agg (Flat.enc p2).toArray)].toArray w0 (fun en w' => ∃ v, en = .returned v ∧ (v = (Value.agg (Flat.enc r).toArray) ∧ Kept (Old w0) w0 w')) := by
  refine c_enter (n := 17) Try.func115 rfl rfl (Nat.le_of_ble_eq_true rfl) rfl ?_
  intro a hE
  have hM := M.start w0
  unfold F_impl_engine_encipher at hF
  refine c_region ?_
  refine s_box (cs := Flat.enc p1) hE hM goes_none (by decide) rfl rfl ?_; intro b1 w a hM hE
  refine s_box (cs := Flat.enc p2) hE hM goes_none (by decide) rfl rfl ?_; intro b3 w a hM hE
  refine s_alloc hE hM goes_none (by decide) ty39 ?_; intro b5 w a hM hE
  refine c_fin ?_
  obtain ⟨j7, hl8, hF9⟩ := bind_some hF
  refine c_join (fun a w => Env 17 a [(6, (ptr b5 0))] ∧ M (Old w0) w0 w [raw b5 (Flat.enc j7)]) ?_ ?_
  · skip
    obtain ⟨pb11, ds12, hv13, hx14, hA15, hB16⟩ := ref_open hv0_1 -- ^
    obtain ⟨u17, u19, rfl, h18, h20⟩ := un_Gengine hx14 -- ^
    obtain ⟨r21, e22, hl8⟩ := bind_some hl8
    refine c_draw2 (n := 17) (hd := [_, _, _, _, _, _, _, _, _]) (tl := [_, _]) (its := [raw b5 (Flat.enc (Vector.replicate 16 (0 : UInt8))), raw b3 (Flat.enc p2), raw b1 (Flat.enc p1)]) hmix rfl rfl [7, 8, 9, 10, 11, 12, 13, 14, 15] (by decide) [(7, fun v => osl NoB (r21 : List (Vector UInt8 16)) v)] rfl (fun j => ([fun v => v = v0_1, fun v => v = v0_1, fun v => v = (Value.agg (Flat.enc p1).toArray), fun v => v = v0_1, fun v => v = (ptr pb11 0), fun v => v = (ptr pb11 (0 + 546)), fun v => v = (vI p0.v.rounds), fun v => True, fun v => v = (Value.agg (Flat.enc p2).toArray)] : List (Value → Prop)).getD j (fun _ => True)) hE hM.drew (steps_of (steps_cons ?_ (steps_cons ?_ (steps_cons ?_ (steps_cons ?_ (steps_cons ?_ (steps_cons ?_ (steps_cons ?_ (steps_cons ?_ (steps_cons ?_ steps_nil)))))))))) ?_
    · intro a w ux10 D hE hM hD hp
      have hM0 := hM
      refine s_move hE goes_none (by decide) rfl ?_; intro a hE
      exact ⟨_, _, rfl, hE, rfl, hM0.optKeep rfl⟩
    · intro a w ux10 D hE hM hD hp
      have hM0 := hM
      refine s_move hE goes_none (by decide) rfl ?_; intro a hE
      exact ⟨_, _, rfl, hE, rfl, hM0.optKeep rfl⟩
    · intro a w ux10 D hE hM hD hp
      have hM0 := hM
      have hM : M (Old w0) w0 w [raw b5 (Flat.enc (Vector.replicate 16 (0 : UInt8))), raw b3 (Flat.enc p2), raw b1 (Flat.enc p1), opt (D 7) (osl NoB (r21 : List (Vector UInt8 16)) (ux10 7))] := hM
      refine s_loadA (cs := Flat.enc p1) hE goes_none (by decide) rfl ty39 rfl (hM.rawAt (pre := [_, _])) (Flat.len _) ?_; intro a hE
      exact ⟨_, _, rfl, hE, rfl, hM0.optKeep rfl⟩
    · intro a w ux10 D hE hM hD hp
      have hM0 := hM
      refine s_move hE goes_none (by decide) rfl ?_; intro a hE
      exact ⟨_, _, rfl, hE, rfl, hM0.optKeep rfl⟩
    · intro a w ux10 D hE hM hD hp
      have f3 : ux10 3 = v0_1 := (hp 0 _ rfl rfl).2
      have hM0 := hM
      refine s_nilCheck hE goes_none (by decide) (lk (lk rfl f3) hv13) ?_; intro a hE
      exact ⟨_, _, rfl, hE, rfl, hM0.optKeep rfl⟩
    · intro a w ux10 D hE hM hD hp
      have f4 : ux10 4 = (ptr pb11 0) := (hp 0 _ rfl rfl).2
      have hM0 := hM
      refine s_fieldAddr hE goes_none (by decide) (lk rfl f4) (fd152_6) ?_; intro a hE
      exact ⟨_, _, rfl, hE, rfl, hM0.optKeep rfl⟩
    · intro a w ux10 D hE hM hD hp
      have f5 : ux10 5 = (ptr pb11 (0 + 546)) := (hp 0 _ rfl rfl).2
      have hM0 := hM
      have hM : M (Old w0) w0 w [raw b5 (Flat.enc (Vector.replicate 16 (0 : UInt8))), raw b3 (Flat.enc p2), raw b1 (Flat.enc p1), opt (D 7) (osl NoB (r21 : List (Vector UInt8 16)) (ux10 7))] := hM
      refine s_load (v := (vI p0.v.rounds)) hE goes_none (by decide) (lk rfl f5) ty2 rfl (At.cat (pre := [Flat.enc p0.v.box, Flat.enc p0.v.backBox, Flat.enc p0.v.places, Flat.enc p0.v.backPlaces, [u17], [u19]]) (seg := [(vI p0.v.rounds)]) (post := []) (hM.atk hA15 hB16) (cl1 (n := 256) (m := 290) (Flat.len _) (cl1 (n := 256) (m := 34) (Flat.len _) (cl1 (n := 16) (m := 18) (Flat.len _) (cl1 (n := 16) (m := 2) (Flat.len _) (cl1 (n := 1) (m := 1) rfl (cl1 (n := 1) (m := 0) rfl cl0))))))) ?_; intro a hE
      exact ⟨_, _, rfl, hE, rfl, hM0.optKeep rfl⟩
    · intro a w ux10 D hE hM hD hp
      have f1 : ux10 1 = v0_1 := (hp 0 _ rfl rfl).2
      have f2 : ux10 2 = (Value.agg (Flat.enc p1).toArray) := (hp 1 _ rfl rfl).2
      have f6 : ux10 6 = (vI p0.v.rounds) := (hp 2 _ rfl rfl).2
      have hM0 := hM
      have hM : M (Old w0) w0 w [raw b5 (Flat.enc (Vector.replicate 16 (0 : UInt8))), raw b3 (Flat.enc p2), raw b1 (Flat.enc p1), opt (D 7) (osl NoB (r21 : List (Vector UInt8 16)) (ux10 7))] := hM
      refine s_call (vs := [v0_1, (Value.agg (Flat.enc p1).toArray), (vI p0.v.rounds)]) hE goes_none (by decide) (evs_of (evsC (lk rfl f1) (evsC (lk rfl f2) (evsC (lk rfl f6) evsN)))) cb130 (c_impl_engine_keys _ p0 v0_1 (hM.rdo hv0_1) p1 p0.v.rounds r21 e22) ?_
      rintro _ w a ⟨_, rfl, hFr, hK⟩ hE
      have hM := hM0.add hK hFr
      exact ⟨_, _, rfl, hE, trivial, M.optFill (mk1 := []) (mk2 := []) (f := (fun v => osl NoB (r21 : List (Vector UInt8 16)) v)) hM rfl hD⟩
    · intro a w ux10 D hE hM hD hp
      have hM0 := hM
      have hM : M (Old w0) w0 w [raw b5 (Flat.enc (Vector.replicate 16 (0 : UInt8))), raw b3 (Flat.enc p2), raw b1 (Flat.enc p1), opt (D 7) (osl NoB (r21 : List (Vector UInt8 16)) (ux10 7))] := hM
      refine s_loadA (cs := Flat.enc p2) hE goes_none (by decide) rfl ty39 rfl (hM.rawAt (pre := [_])) (Flat.len _) ?_; intro a hE
      exact ⟨_, _, rfl, hE, rfl, hM0.optKeep rfl⟩
    · intro a w ux10 hE hM hg
      have f0 : ux10 0 = v0_1 := hg 0 (by decide)
      have f1 : ux10 1 = v0_1 := hg 1 (by decide)
      have f2 : ux10 2 = (Value.agg (Flat.enc p1).toArray) := hg 2 (by decide)
      have f3 : ux10 3 = v0_1 := hg 3 (by decide)
      have f4 : ux10 4 = (ptr pb11 0) := hg 4 (by decide)
      have f5 : ux10 5 = (ptr pb11 (0 + 546)) := hg 5 (by decide)
      have f6 : ux10 6 = (vI p0.v.rounds) := hg 6 (by decide)
      have f8 : ux10 8 = (Value.agg (Flat.enc p2).toArray) := hg 8 (by decide)
      have hM : M (Old w0) w0 w [raw b5 (Flat.enc (Vector.replicate 16 (0 : UInt8))), raw b3 (Flat.enc p2), raw b1 (Flat.enc p1), osl NoB (r21 : List (Vector UInt8 16)) (ux10 7)] := hM
      have hE := hE.sub (e' := [(7, v0_1), (8, v0_1), (9, (Value.agg (Flat.enc p1).toArray)), (10, v0_1), (11, (ptr pb11 0)), (12, (ptr pb11 (0 + 546))), (13, (vI p0.v.rounds)), (14, (ux10 7)), (15, (Value.agg (Flat.enc p2).toArray)), (0, v0_1), (1, (Value.agg (Flat.enc p1).toArray)), (2, (Value.agg (Flat.enc p2).toArray)), (4, (ptr b1 0)), (5, (ptr b3 0)), (6, (ptr b5 0))]) ⟨lk rfl f0, lk rfl f1, lk rfl f2, lk rfl f3, lk rfl f4, lk rfl f5, lk rfl f6, rfl, lk rfl f8, rfl, rfl, rfl, rfl, rfl, rfl, trivial⟩
      obtain ⟨r24, e25, hl8⟩ := bind_some hl8
      refine s_call (vs := [v0_1, (ux10 7), (Value.agg (Flat.enc p2).toArray)]) hE goes_none (by decide) rfl cb129 (c_impl_engine_encipherWith _ p0 v0_1 (hM.rdo hv0_1) r21 (ux10 7) (hM.sl (pre := [_, _, _]) noB) p2 r24 e25) ?_
      rintro v w a ⟨rfl, hK⟩ hE
      have hM := hM.keep hK
      refine s_store (seg := Flat.enc r24) (cs' := Flat.enc r24) hE hM goes_none rfl rfl rfl ty39 (Flat.len _) (Nat.le_of_eq ((Nat.zero_add _).trans (Eq.trans (Flat.len _) (Eq.symm (Flat.len _))))) (Flat.cell _) (splice_all (Eq.trans (Flat.len _) (Eq.symm (Flat.len _)))) ?_; intro w a hM hE
      refine c_fin0 ?_
      have ht26 := Option.some.inj hl8
      subst ht26
      refine c_mid ?_
      have hM := M.fst (l := [_]) hM
      exact ⟨hE.sub ⟨rfl, trivial⟩, hM⟩
  · skip
    rintro a w ⟨hE, hM⟩
    have hr := Option.some.inj hF9
    subst hr
    have hq27 : ResIs Try.prog _ _ (.cell 6 39) _ := res_cell hE rfl ty39 rfl (hM.rawAt (pre := [])) (Flat.len _) rfl
    have hM := M.fst (l := []) hM
    exact wp_ret (k_ret1 hE rfl hq27 ⟨_, rfl, rfl, hM.kept⟩)
noncomputable def F_impl_engine_absorb (p0 : (Ref Gengine)) (p1 : (Vector UInt8 32)) (p2 : (Vector UInt8 16)) : Option ((Vector UInt8 32)) :=
  (slc p1.toList (0 : Int) (16 : Int)).bind fun (l8 : (List UInt8)) => (toArr 16 l8).bind fun (x11 : (Vector UInt8 16)) => (slc p1.toList (16 : Int) (32 : Int)).bind fun (l13 : (List UInt8)) => (toArr 16 l13).bind fun (x16 : (Vector UInt8 16)) => (F_impl_XorBlocks x11 p2).bind fun (r26 : (Vector UInt8 16)) => ((F_impl_engine_encipher p0 x16 r26).bind fun (r34 : (Vector UInt8 16)) => (F_impl_XorBlocks r34 r26).bind fun (r36 : (Vector UInt8 16)) => some r36 : Option ((Vector UInt8 16))).bind fun (j30 : (Vector UInt8 16)) => (F_impl_XorBlocks x16 p2).bind fun (r39 : (Vector UInt8 16)) => ((F_impl_engine_encipher p0 j30 r39).bind fun (r47 : (Vector UInt8 16)) => (F_impl_XorBlocks r47 r39).bind fun (r49 : (Vector UInt8 16)) => some r49 : Option ((Vector UInt8 16))).bind fun (j43 : (Vector UInt8 16)) => ((slc j30.toList (0 : Int) (16 : Int)).bind fun (l56 : (List UInt8)) => (slc j43.toList (0 : Int) (16 : Int)).bind fun (l59 : (List UInt8)) => (F_slices_Concat_byte_byte ([l56, l59] : (List (List UInt8)))).bind fun (r64 : (List UInt8)) => (toArr 32 r64).bind fun (x67 : (Vector UInt8 32)) => some x67 : Option ((Vector UInt8 32))).bind fun (j52 : (Vector UInt8 32)) => some j52
set_option maxRecDepth 20000 in
set_option maxHeartbeats 400000 in
theorem c_impl_engine_absorb (w0 : World) (p0 : (Ref Gengine)) (v0_1 : Value) (hv0_1 : Ro w0 p0 [v0_1]) (p1 : (Vector UInt8 32)) (p2 : (Vector UInt8 16)) (r : (Vector UInt8 32)) (hF : F_impl_engine_absorb p0 p1 p2 = some r) :
    Calls Try.prog 95 [v0_1, (Value.agg (Flat.enc p1).toArray), (Value.agg (Flat.enc p2).toArray)].toArray w0 (fun en w' => ∃ v, en = .returned v ∧ (v = (Value.agg (Flat.enc r).toArray) ∧ Kept (Old w0) w0 w')) := by
  refine c_enter (n := 41) Try.func95 rfl rfl (Nat.le_of_ble_eq_true rfl) rfl ?_
  intro a hE
  have hM := M.start w0
  unfold F_impl_engine_absorb at hF
  refine c_region ?_
  refine s_box (cs := Flat.enc p1) hE hM goes_none (by decide) rfl rfl ?_; intro b1 w a hM hE
  refine s_box (cs := Flat.enc p2) hE hM goes_none (by decide) rfl rfl ?_; intro b3 w a hM hE
  refine s_alloc hE hM goes_none (by decide) ty25 ?_; intro b5 w a hM hE
  refine c_fin ?_
  refine wp_seq ?_
  obtain ⟨l8, e9, hF⟩ := bind_some hF
  have hb10 := slc_arr e9 -- ^
  obtain ⟨x11, e12, hF⟩ := bind_some hF
  obtain ⟨l13, e14, hF⟩ := bind_some hF
  have hb15 := slc_arr e14 -- ^
  obtain ⟨x16, e17, hF⟩ := bind_some hF
  refine c_draw3 (n := 41) (hd := [_, _, _, _, _, _, _, _]) (tl := [_, _]) hmix rfl rfl [11, 12, 13, 14, 15, 16, 7, 8] (by decide) (fun D u w => M (Old w0) w0 w ([raw b5 (Flat.enc (Vector.replicate 32 (0 : UInt8))), raw b3 (Flat.enc p2), raw b1 (Flat.enc p1)] ++ qL ([mkO 6 (fun v => rawP v (Flat.enc (Vector.replicate 16 (0 : UInt8)))), mkO 7 (fun v => rawP v (Flat.enc (Vector.replicate 16 (0 : UInt8))))] : Mk) D u) ∧ GOk ([([], fun us v => v = (sliceV (.slice (some ⟨b1, 0, none⟩) 32 32) ((0 : Int)).toNat ((16 : Int)).toNat 1)), ([], fun us v => v = (ptr (sb (sliceV (.slice (some ⟨b1, 0, none⟩) 32 32) ((0 : Int)).toNat ((16 : Int)).toNat 1)) (so (sliceV (.slice (some ⟨b1, 0, none⟩) 32 32) ((0 : Int)).toNat ((16 : Int)).toNat 1)))), ([], fun us v => v = (Value.agg (Flat.enc x11).toArray)), ([], fun us v => v = (sliceV (.slice (some ⟨b1, 0, none⟩) 32 32) ((16 : Int)).toNat ((32 : Int)).toNat 1)), ([], fun us v => v = (ptr (sb (sliceV (.slice (some ⟨b1, 0, none⟩) 32 32) ((16 : Int)).toNat ((32 : Int)).toNat 1)) (so (sliceV (.slice (some ⟨b1, 0, none⟩) 32 32) ((16 : Int)).toNat ((32 : Int)).toNat 1)))), ([], fun us v => v = (Value.agg (Flat.enc x16).toArray)), ([], fun us v => True), ([], fun us v => True)] : Gs) D u) hE (fun u => ⟨M.qE (M.qE (M.q0 hM.drew u) emO) emO, gok0⟩) (steps_of (steps_cons ?_ (steps_cons ?_ (steps_cons ?_ (steps_cons ?_ (steps_cons ?_ (steps_cons ?_ (steps_cons ?_ (steps_cons ?_ steps_nil))))))))) ?_
  · intro a w ux7 D hE hI hD hdc hp
    have hM0 := hI.1
    have hM : M (Old w0) w0 w [raw b5 (Flat.enc (Vector.replicate 32 (0 : UInt8))), raw b3 (Flat.enc p2), raw b1 (Flat.enc p1), opt (D 6) (rawP (ux7 6) (Flat.enc (Vector.replicate 16 (0 : UInt8)))), opt (D 7) (rawP (ux7 7) (Flat.enc (Vector.replicate 16 (0 : UInt8))))] := hI.1
    refine s_sliceArr (N := 32) hE goes_none (by decide) rfl rfl rfl rfl rfl Try.underlying25 ty5 hb10 ?_; intro a hE
    exact ⟨_, _, rfl, hE, M.qKeep hM0 rfl, hI.2.put hD rfl allN rfl⟩
  · intro a w ux7 D hE hI hD hdc hp
    have d0 : D 0 = true := hp 0 _ rfl rfl
    have g0 := hI.2 0 d0 _ rfl
    have f0 : ux7 0 = (sliceV (.slice (some ⟨b1, 0, none⟩) 32 32) ((0 : Int)).toNat ((16 : Int)).toNat 1) := g0.2
    have hM0 := hI.1
    have hM : M (Old w0) w0 w [raw b5 (Flat.enc (Vector.replicate 32 (0 : UInt8))), raw b3 (Flat.enc p2), raw b1 (Flat.enc p1), opt (D 6) (rawP (ux7 6) (Flat.enc (Vector.replicate 16 (0 : UInt8)))), opt (D 7) (rawP (ux7 7) (Flat.enc (Vector.replicate 16 (0 : UInt8))))] := hI.1
    refine s_toArr hE goes_none (by decide) (lk rfl f0) Try.underlying39 (ro_slice (At.sat (hM.rawAt (pre := [_, _])) (by simp) (by decide)) e9) (toArr_some e12).1 (by decide) ?_; intro a hE
    exact ⟨_, _, rfl, hE, M.qKeep hM0 rfl, hI.2.put hD rfl allN rfl⟩
  · intro a w ux7 D hE hI hD hdc hp
    have d1 : D 1 = true := hp 0 _ rfl rfl
    have g1 := hI.2 1 d1 _ rfl
    have f1 : ux7 1 = (ptr (sb (sliceV (.slice (some ⟨b1, 0, none⟩) 32 32) ((0 : Int)).toNat ((16 : Int)).toNat 1)) (so (sliceV (.slice (some ⟨b1, 0, none⟩) 32 32) ((0 : Int)).toNat ((16 : Int)).toNat 1))) := g1.2
    have hM0 := hI.1
    have hM : M (Old w0) w0 w [raw b5 (Flat.enc (Vector.replicate 32 (0 : UInt8))), raw b3 (Flat.enc p2), raw b1 (Flat.enc p1), opt (D 6) (rawP (ux7 6) (Flat.enc (Vector.replicate 16 (0 : UInt8)))), opt (D 7) (rawP (ux7 7) (Flat.enc (Vector.replicate 16 (0 : UInt8))))] := hI.1
    refine s_loadA (cs := Flat.enc x11) hE goes_none (by decide) (lk rfl f1) ty39 rfl (sl_arr (ro_slice (At.sat (hM.rawAt (pre := [_, _])) (by simp) (by decide)) e9) e12 (by decide)) (Flat.len _) ?_; intro a hE
    exact ⟨_, _, rfl, hE, M.qKeep hM0 rfl, hI.2.put hD rfl allN rfl⟩
  · intro a w ux7 D hE hI hD hdc hp
    have hM0 := hI.1
    have hM : M (Old w0) w0 w [raw b5 (Flat.enc (Vector.replicate 32 (0 : UInt8))), raw b3 (Flat.enc p2), raw b1 (Flat.enc p1), opt (D 6) (rawP (ux7 6) (Flat.enc (Vector.replicate 16 (0 : UInt8)))), opt (D 7) (rawP (ux7 7) (Flat.enc (Vector.replicate 16 (0 : UInt8))))] := hI.1
    refine s_sliceArr (N := 32) hE goes_none (by decide) rfl rfl rfl rfl rfl Try.underlying25 ty5 hb15 ?_; intro a hE
    exact ⟨_, _, rfl, hE, M.qKeep hM0 rfl, hI.2.put hD rfl allN rfl⟩
  · intro a w ux7 D hE hI hD hdc hp
    have d3 : D 3 = true := hp 0 _ rfl rfl
    have g3 := hI.2 3 d3 _ rfl
    have f3 : ux7 3 = (sliceV (.slice (some ⟨b1, 0, none⟩) 32 32) ((16 : Int)).toNat ((32 : Int)).toNat 1) := g3.2
    have hM0 := hI.1
    have hM : M (Old w0) w0 w [raw b5 (Flat.enc (Vector.replicate 32 (0 : UInt8))), raw b3 (Flat.enc p2), raw b1 (Flat.enc p1), opt (D 6) (rawP (ux7 6) (Flat.enc (Vector.replicate 16 (0 : UInt8)))), opt (D 7) (rawP (ux7 7) (Flat.enc (Vector.replicate 16 (0 : UInt8))))] := hI.1
    refine s_toArr hE goes_none (by decide) (lk rfl f3) Try.underlying39 (ro_slice (At.sat (hM.rawAt (pre := [_, _])) (by simp) (by decide)) e14) (toArr_some e17).1 (by decide) ?_; intro a hE
    exact ⟨_, _, rfl, hE, M.qKeep hM0 rfl, hI.2.put hD rfl allN rfl⟩
  · intro a w ux7 D hE hI hD hdc hp
    have d4 : D 4 = true := hp 0 _ rfl rfl
    have g4 := hI.2 4 d4 _ rfl
    have f4 : ux7 4 = (ptr (sb (sliceV (.slice (some ⟨b1, 0, none⟩) 32 32) ((16 : Int)).toNat ((32 : Int)).toNat 1)) (so (sliceV (.slice (some ⟨b1, 0, none⟩) 32 32) ((16 : Int)).toNat ((32 : Int)).toNat 1))) := g4.2
    have hM0 := hI.1
    have hM : M (Old w0) w0 w [raw b5 (Flat.enc (Vector.replicate 32 (0 : UInt8))), raw b3 (Flat.enc p2), raw b1 (Flat.enc p1), opt (D 6) (rawP (ux7 6) (Flat.enc (Vector.replicate 16 (0 : UInt8)))), opt (D 7) (rawP (ux7 7) (Flat.enc (Vector.replicate 16 (0 : UInt8))))] := hI.1
    refine s_loadA (cs := Flat.enc x16) hE goes_none (by decide) (lk rfl f4) ty39 rfl (sl_arr (ro_slice (At.sat (hM.rawAt (pre := [_, _])) (by simp) (by decide)) e14) e17 (by decide)) (Flat.len _) ?_; intro a hE
    exact ⟨_, _, rfl, hE, M.qKeep hM0 rfl, hI.2.put hD rfl allN rfl⟩
  · intro a w ux7 D hE hI hD hdc hp
    have hM0 := hI.1
    have hM : M (Old w0) w0 w [raw b5 (Flat.enc (Vector.replicate 32 (0 : UInt8))), raw b3 (Flat.enc p2), raw b1 (Flat.enc p1), opt (D 6) (rawP (ux7 6) (Flat.enc (Vector.replicate 16 (0 : UInt8)))), opt (D 7) (rawP (ux7 7) (Flat.enc (Vector.replicate 16 (0 : UInt8))))] := hI.1
    refine s_alloc hE hM goes_none (by decide) ty39 ?_; intro b18 w a hM hE
    have hM := hM.pack1 (it := rawP _ (Flat.enc (Vector.replicate 16 (0 : UInt8)))) (fun w w' fp ⟨b', e, k⟩ hb => ⟨b', e, raw_loc w w' fp k hb⟩) (fun fp k => ⟨_, rfl, k⟩)
    exact ⟨_, _, rfl, hE, M.qFill (mk1 := []) (mk2 := [_]) (f := fun v => rawP v (Flat.enc (Vector.replicate 16 (0 : UInt8)))) hM rfl hD, hI.2.put hD rfl allN trivial⟩
  · intro a w ux7 D hE hI hD hdc hp
    have hM0 := hI.1
    have hM : M (Old w0) w0 w [raw b5 (Flat.enc (Vector.replicate 32 (0 : UInt8))), raw b3 (Flat.enc p2), raw b1 (Flat.enc p1), opt (D 6) (rawP (ux7 6) (Flat.enc (Vector.replicate 16 (0 : UInt8)))), opt (D 7) (rawP (ux7 7) (Flat.enc (Vector.replicate 16 (0 : UInt8))))] := hI.1
    refine s_alloc hE hM goes_none (by decide) ty39 ?_; intro b20 w a hM hE
    have hM := hM.pack1 (it := rawP _ (Flat.enc (Vector.replicate 16 (0 : UInt8)))) (fun w w' fp ⟨b', e, k⟩ hb => ⟨b', e, raw_loc w w' fp k hb⟩) (fun fp k => ⟨_, rfl, k⟩)
    exact ⟨_, _, rfl, hE, M.qFill (mk1 := [_]) (mk2 := []) (f := fun v => rawP v (Flat.enc (Vector.replicate 16 (0 : UInt8)))) hM rfl hD, hI.2.put hD rfl allN trivial⟩
  · intro a w ux7 D hE hI hall
    have hM : M (Old w0) w0 w [raw b5 (Flat.enc (Vector.replicate 32 (0 : UInt8))), raw b3 (Flat.enc p2), raw b1 (Flat.enc p1), opt (D 6) (rawP (ux7 6) (Flat.enc (Vector.replicate 16 (0 : UInt8)))), opt (D 7) (rawP (ux7 7) (Flat.enc (Vector.replicate 16 (0 : UInt8))))] := hI.1
    have d0 : D 0 = true := hall 0 (by decide)
    have d1 : D 1 = true := hall 1 (by decide)
    have d2 : D 2 = true := hall 2 (by decide)
    have d3 : D 3 = true := hall 3 (by decide)
    have d4 : D 4 = true := hall 4 (by decide)
    have d5 : D 5 = true := hall 5 (by decide)
    have d6 : D 6 = true := hall 6 (by decide)
    have d7 : D 7 = true := hall 7 (by decide)
    have f0 : ux7 0 = (sliceV (.slice (some ⟨b1, 0, none⟩) 32 32) ((0 : Int)).toNat ((16 : Int)).toNat 1) := (hI.2 0 d0 _ rfl).2
    have f1 : ux7 1 = (ptr (sb (sliceV (.slice (some ⟨b1, 0, none⟩) 32 32) ((0 : Int)).toNat ((16 : Int)).toNat 1)) (so (sliceV (.slice (some ⟨b1, 0, none⟩) 32 32) ((0 : Int)).toNat ((16 : Int)).toNat 1))) := (hI.2 1 d1 _ rfl).2
    have f2 : ux7 2 = (Value.agg (Flat.enc x11).toArray) := (hI.2 2 d2 _ rfl).2
    have f3 : ux7 3 = (sliceV (.slice (some ⟨b1, 0, none⟩) 32 32) ((16 : Int)).toNat ((32 : Int)).toNat 1) := (hI.2 3 d3 _ rfl).2
    have f4 : ux7 4 = (ptr (sb (sliceV (.slice (some ⟨b1, 0, none⟩) 32 32) ((16 : Int)).toNat ((32 : Int)).toNat 1)) (so (sliceV (.slice (some ⟨b1, 0, none⟩) 32 32) ((16 : Int)).toNat ((32 : Int)).toNat 1))) := (hI.2 4 d4 _ rfl).2
    have f5 : ux7 5 = (Value.agg (Flat.enc x16).toArray) := (hI.2 5 d5 _ rfl).2
    have hM := (hM.sure (pre := [_, _, _]) d6).pull
    obtain ⟨_, ⟨b22, f23, _⟩, _⟩ := hM.head
    have hM := hM.pack1 raw_loc (it := raw b22 (Flat.enc (Vector.replicate 16 (0 : UInt8)))) (fun fp ⟨b2, e2, k2⟩ => by rw [f23] at e2; simp [ptr] at e2; subst e2; exact k2)
    have hM := (hM.sure (pre := [_, _, _, _]) d7).pull
    obtain ⟨_, ⟨b24, f25, _⟩, _⟩ := hM.head
    have hM := hM.pack1 raw_loc (it := raw b24 (Flat.enc (Vector.replicate 16 (0 : UInt8)))) (fun fp ⟨b2, e2, k2⟩ => by rw [f25] at e2; simp [ptr] at e2; subst e2; exact k2)
    have hE := hE.sub (e' := [(11, (sliceV (.slice (some ⟨b1, 0, none⟩) 32 32) ((0 : Int)).toNat ((16 : Int)).toNat 1)), (12, (ptr (sb (sliceV (.slice (some ⟨b1, 0, none⟩) 32 32) ((0 : Int)).toNat ((16 : Int)).toNat 1)) (so (sliceV (.slice (some ⟨b1, 0, none⟩) 32 32) ((0 : Int)).toNat ((16 : Int)).toNat 1)))), (13, (Value.agg (Flat.enc x11).toArray)), (14, (sliceV (.slice (some ⟨b1, 0, none⟩) 32 32) ((16 : Int)).toNat ((32 : Int)).toNat 1)), (15, (ptr (sb (sliceV (.slice (some ⟨b1, 0, none⟩) 32 32) ((16 : Int)).toNat ((32 : Int)).toNat 1)) (so (sliceV (.slice (some ⟨b1, 0, none⟩) 32 32) ((16 : Int)).toNat ((32 : Int)).toNat 1)))), (16, (Value.agg (Flat.enc x16).toArray)), (7, (ptr b22 0)), (8, (ptr b24 0)), (0, v0_1), (1, (Value.agg (Flat.enc p1).toArray)), (2, (Value.agg (Flat.enc p2).toArray)), (4, (ptr b1 0)), (5, (ptr b3 0)), (6, (ptr b5 0))]) ⟨lk rfl f0, lk rfl f1, lk rfl f2, lk rfl f3, lk rfl f4, lk rfl f5, lk rfl f23, lk rfl f25, rfl, rfl, rfl, rfl, rfl, rfl, trivial⟩
    have hM := hM.pull (pre := [_])
    refine s_store (seg := Flat.enc x11) (cs' := Flat.enc x11) hE hM goes_none rfl rfl rfl ty39 (Flat.len _) (Nat.le_of_eq ((Nat.zero_add _).trans (Eq.trans (Flat.len _) (Eq.symm (Flat.len _))))) (Flat.cell _) (splice_all (Eq.trans (Flat.len _) (Eq.symm (Flat.len _)))) ?_; intro w a hM hE
    have hM := hM.pull (pre := [_])
    refine s_store (seg := Flat.enc x16) (cs' := Flat.enc x16) hE hM goes_none rfl rfl rfl ty39 (Flat.len _) (Nat.le_of_eq ((Nat.zero_add _).trans (Eq.trans (Flat.len _) (Eq.symm (Flat.len _))))) (Flat.cell _) (splice_all (Eq.trans (Flat.len _) (Eq.symm (Flat.len _)))) ?_; intro w a hM hE
    refine c_fin0 ?_
    refine c_nx ?_
    refine c_region ?_
    refine s_loadA (cs := Flat.enc x11) hE goes_none (by decide) rfl ty39 rfl (hM.rawAt (pre := [_])) (Flat.len _) ?_; intro a hE
    refine s_loadA (cs := Flat.enc p2) hE goes_none (by decide) rfl ty39 rfl (hM.rawAt (pre := [_, _, _])) (Flat.len _) ?_; intro a hE
    obtain ⟨r26, e27, hF⟩ := bind_some hF
    refine s_call (vs := [(Value.agg (Flat.enc x11).toArray), (Value.agg (Flat.enc p2).toArray)]) hE goes_none (by decide) rfl cb114 (c_impl_XorBlocks _ x11 p2 r26 e27) ?_
    rintro v w a ⟨rfl, hK⟩ hE
    have hM := hM.keep hK
    refine s_alloc hE hM goes_none (by decide) ty39 ?_; intro b28 w a hM hE
    refine s_store (seg := Flat.enc r26) (cs' := Flat.enc r26) hE hM goes_none rfl rfl rfl ty39 (Flat.len _) (Nat.le_of_eq ((Nat.zero_add _).trans (Eq.trans (Flat.len _) (Eq.symm (Flat.len _))))) (Flat.cell _) (splice_all (Eq.trans (Flat.len _) (Eq.symm (Flat.len _)))) ?_; intro w a hM hE
    refine c_fin ?_
    obtain ⟨j30, hl31, hF32⟩ := bind_some hF
    refine c_join (fun a w => Env 41 a [(0, v0_1), (5, (ptr b3 0)), (6, (ptr b5 0)), (7, (ptr b22 0)), (8, (ptr b24 0))] ∧ M (Old w0) w0 w [raw b24 (Flat.enc x16), raw b22 (Flat.enc j30), raw b5 (Flat.enc (Vector.replicate 32 (0 : UInt8))), raw b3 (Flat.enc p2)]) ?_ ?_
    · skip
      obtain ⟨r34, e35, hl31⟩ := bind_some hl31
      obtain ⟨r36, e37, hl31⟩ := bind_some hl31
      refine c_draw (n := 41) (hd := [_, _, _, _, _, _]) (tl := [_]) hmix rfl rfl [20, 21, 22, 23, 24, 25] (by decide) (fun w => M (Old w0) w0 w [raw b28 (Flat.enc r26), raw b24 (Flat.enc x16), raw b22 (Flat.enc x11), raw b5 (Flat.enc (Vector.replicate 32 (0 : UInt8))), raw b3 (Flat.enc p2), raw b1 (Flat.enc p1)]) (fun j => ([fun v _ => v = v0_1, fun v _ => v = (Value.agg (Flat.enc x16).toArray), fun v _ => v = (Value.agg (Flat.enc r26).toArray), fun v _ => v = (Value.agg (Flat.enc r34).toArray), fun v _ => v = (Value.agg (Flat.enc r26).toArray), fun v _ => v = (Value.agg (Flat.enc r36).toArray)] : List (Value → World → Prop)).getD j (fun _ _ => True)) (fun _ _ h hk => h.keep hk) (gup (gupE (gupE (gupE (gupE (gupE (gupE gupN))))))) hE hM.drew (steps_of (steps_cons ?_ (steps_cons ?_ (steps_cons ?_ (steps_cons ?_ (steps_cons ?_ (steps_cons ?_ steps_nil))))))) ?_
      · intro a w ux33 hE hM hp
        refine s_move hE goes_none (by decide) rfl ?_; intro a hE
        exact ⟨Kept.refl _ _, _, _, rfl, hE, rfl⟩
      · intro a w ux33 hE hM hp
        refine s_loadA (cs := Flat.enc x16) hE goes_none (by decide) rfl ty39 rfl (hM.rawAt (pre := [_])) (Flat.len _) ?_; intro a hE
        exact ⟨Kept.refl _ _, _, _, rfl, hE, rfl⟩
      · intro a w ux33 hE hM hp
        refine s_loadA (cs := Flat.enc r26) hE goes_none (by decide) rfl ty39 rfl (hM.rawAt (pre := [])) (Flat.len _) ?_; intro a hE
        exact ⟨Kept.refl _ _, _, _, rfl, hE, rfl⟩
      · intro a w ux33 hE hM hp
        have f0 : ux33 0 = v0_1 := hp 0 _ rfl rfl
        have f1 : ux33 1 = (Value.agg (Flat.enc x16).toArray) := hp 1 _ rfl rfl
        have f2 : ux33 2 = (Value.agg (Flat.enc r26).toArray) := hp 2 _ rfl rfl
        refine s_call (vs := [v0_1, (Value.agg (Flat.enc x16).toArray), (Value.agg (Flat.enc r26).toArray)]) hE goes_none (by decide) (evs_of (evsC (lk rfl f0) (evsC (lk rfl f1) (evsC (lk rfl f2) evsN)))) cb115 (c_impl_engine_encipher _ p0 v0_1 (hM.rdo hv0_1) x16 r26 r34 e35) ?_
        rintro v w a ⟨rfl, hK⟩ hE
        exact ⟨hK, _, _, rfl, hE, rfl⟩
      · intro a w ux33 hE hM hp
        refine s_loadA (cs := Flat.enc r26) hE goes_none (by decide) rfl ty39 rfl (hM.rawAt (pre := [])) (Flat.len _) ?_; intro a hE
        exact ⟨Kept.refl _ _, _, _, rfl, hE, rfl⟩
      · intro a w ux33 hE hM hp
        have f3 : ux33 3 = (Value.agg (Flat.enc r34).toArray) := hp 0 _ rfl rfl
        have f4 : ux33 4 = (Value.agg (Flat.enc r26).toArray) := hp 1 _ rfl rfl
        refine s_call (vs := [(Value.agg (Flat.enc r34).toArray), (Value.agg (Flat.enc r26).toArray)]) hE goes_none (by decide) (evs_of (evsC (lk rfl f3) (evsC (lk rfl f4) evsN))) cb114 (c_impl_XorBlocks _ r34 r26 r36 e37) ?_
        rintro v w a ⟨rfl, hK⟩ hE
        exact ⟨hK, _, _, rfl, hE, rfl⟩
      · intro a w ux33 hE hM hg
        have f0 : ux33 0 = v0_1 := hg 0 (by decide)
        have f1 : ux33 1 = (Value.agg (Flat.enc x16).toArray) := hg 1 (by decide)
        have f2 : ux33 2 = (Value.agg (Flat.enc r26).toArray) := hg 2 (by decide)
        have f3 : ux33 3 = (Value.agg (Flat.enc r34).toArray) := hg 3 (by decide)
        have f4 : ux33 4 = (Value.agg (Flat.enc r26).toArray) := hg 4 (by decide)
        have f5 : ux33 5 = (Value.agg (Flat.enc r36).toArray) := hg 5 (by decide)
        have hE := hE.sub (e' := [(20, v0_1), (21, (Value.agg (Flat.enc x16).toArray)), (22, (Value.agg (Flat.enc r26).toArray)), (23, (Value.agg (Flat.enc r34).toArray)), (24, (Value.agg (Flat.enc r26).toArray)), (25, (Value.agg (Flat.enc r36).toArray)), (0, v0_1), (1, (Value.agg (Flat.enc p1).toArray)), (2, (Value.agg (Flat.enc p2).toArray)), (4, (ptr b1 0)), (5, (ptr b3 0)), (6, (ptr b5 0)), (7, (ptr b22 0)), (8, (ptr b24 0)), (9, (ptr b28 0)), (11, (sliceV (.slice (some ⟨b1, 0, none⟩) 32 32) ((0 : Int)).toNat ((16 : Int)).toNat 1)), (12, (ptr (sb (sliceV (.slice (some ⟨b1, 0, none⟩) 32 32) ((0 : Int)).toNat ((16 : Int)).toNat 1)) (so (sliceV (.slice (some ⟨b1, 0, none⟩) 32 32) ((0 : Int)).toNat ((16 : Int)).toNat 1)))), (13, (Value.agg (Flat.enc x11).toArray)), (14, (sliceV (.slice (some ⟨b1, 0, none⟩) 32 32) ((16 : Int)).toNat ((32 : Int)).toNat 1)), (15, (ptr (sb (sliceV (.slice (some ⟨b1, 0, none⟩) 32 32) ((16 : Int)).toNat ((32 : Int)).toNat 1)) (so (sliceV (.slice (some ⟨b1, 0, none⟩) 32 32) ((16 : Int)).toNat ((32 : Int)).toNat 1)))), (16, (Value.agg (Flat.enc x16).toArray)), (17, (Value.agg (Flat.enc x11).toArray)), (18, (Value.agg (Flat.enc p2).toArray)), (19, (Value.agg (Flat.enc r26).toArray))]) ⟨lk rfl f0, lk rfl f1, lk rfl f2, lk rfl f3, lk rfl f4, lk rfl f5, rfl, rfl, rfl, rfl, rfl, rfl, rfl, rfl, rfl, rfl, rfl, rfl, rfl, rfl, rfl, rfl, rfl, rfl, trivial⟩
        have hM := hM.pull (pre := [_, _])
        refine s_store (seg := Flat.enc r36) (cs' := Flat.enc r36) hE hM goes_none rfl rfl rfl ty39 (Flat.len _) (Nat.le_of_eq ((Nat.zero_add _).trans (Eq.trans (Flat.len _) (Eq.symm (Flat.len _))))) (Flat.cell _) (splice_all (Eq.trans (Flat.len _) (Eq.symm (Flat.len _)))) ?_; intro w a hM hE
        refine c_fin0 ?_
        have ht38 := Option.some.inj hl31
        subst ht38
        refine c_mid ?_
        have hM := hM.pull (pre := [_, _, _, _])
        have hM := hM.pull (pre := [_, _, _, _])
        have hM := hM.pull (pre := [_, _])
        have hM := hM.pull (pre := [_, _, _, _])
        have hM := M.fst (l := [_, _, _, _]) hM
        exact ⟨hE.sub ⟨rfl, rfl, rfl, rfl, rfl, trivial⟩, hM⟩
    · skip
      rintro a w ⟨hE, hM⟩
      refine c_region ?_
      refine s_loadA (cs := Flat.enc x16) hE goes_none (by decide) rfl ty39 rfl (hM.rawAt (pre := [])) (Flat.len _) ?_; intro a hE
      refine s_loadA (cs := Flat.enc p2) hE goes_none (by decide) rfl ty39 rfl (hM.rawAt (pre := [_, _, _])) (Flat.len _) ?_; intro a hE
      obtain ⟨r39, e40, hF32⟩ := bind_some hF32
      refine s_call (vs := [(Value.agg (Flat.enc x16).toArray), (Value.agg (Flat.enc p2).toArray)]) hE goes_none (by decide) rfl cb114 (c_impl_XorBlocks _ x16 p2 r39 e40) ?_
      rintro v w a ⟨rfl, hK⟩ hE
      have hM := hM.keep hK
      refine s_alloc hE hM goes_none (by decide) ty39 ?_; intro b41 w a hM hE
      refine s_store (seg := Flat.enc r39) (cs' := Flat.enc r39) hE hM goes_none rfl rfl rfl ty39 (Flat.len _) (Nat.le_of_eq ((Nat.zero_add _).trans (Eq.trans (Flat.len _) (Eq.symm (Flat.len _))))) (Flat.cell _) (splice_all (Eq.trans (Flat.len _) (Eq.symm (Flat.len _)))) ?_; intro w a hM hE
      refine c_fin ?_
      obtain ⟨j43, hl44, hF45⟩ := bind_some hF32
      refine c_join (fun a w => Env 41 a [(6, (ptr b5 0)), (7, (ptr b22 0)), (8, (ptr b24 0))] ∧ M (Old w0) w0 w [raw b24 (Flat.enc j43), raw b22 (Flat.enc j30), raw b5 (Flat.enc (Vector.replicate 32 (0 : UInt8)))]) ?_ ?_
      · skip
        obtain ⟨r47, e48, hl44⟩ := bind_some hl44
        obtain ⟨r49, e50, hl44⟩ := bind_some hl44
        refine c_draw (n := 41) (hd := [_, _, _, _, _, _]) (tl := [_]) hmix rfl rfl [29, 30, 31, 32, 33, 34] (by decide) (fun w => M (Old w0) w0 w [raw b41 (Flat.enc r39), raw b24 (Flat.enc x16), raw b22 (Flat.enc j30), raw b5 (Flat.enc (Vector.replicate 32 (0 : UInt8))), raw b3 (Flat.enc p2)]) (fun j => ([fun v _ => v = v0_1, fun v _ => v = (Value.agg (Flat.enc j30).toArray), fun v _ => v = (Value.agg (Flat.enc r39).toArray), fun v _ => v = (Value.agg (Flat.enc r47).toArray), fun v _ => v = (Value.agg (Flat.enc r39).toArray), fun v _ => v = (Value.agg (Flat.enc r49).toArray)] : List (Value → World → Prop)).getD j (fun _ _ => True)) (fun _ _ h hk => h.keep hk) (gup (gupE (gupE (gupE (gupE (gupE (gupE gupN))))))) hE hM.drew (steps_of (steps_cons ?_ (steps_cons ?_ (steps_cons ?_ (steps_cons ?_ (steps_cons ?_ (steps_cons ?_ steps_nil))))))) ?_
        · intro a w ux46 hE hM hp
          refine s_move hE goes_none (by decide) rfl ?_; intro a hE
          exact ⟨Kept.refl _ _, _, _, rfl, hE, rfl⟩
        · intro a w ux46 hE hM hp
          refine s_loadA (cs := Flat.enc j30) hE goes_none (by decide) rfl ty39 rfl (hM.rawAt (pre := [_, _])) (Flat.len _) ?_; intro a hE
          exact ⟨Kept.refl _ _, _, _, rfl, hE, rfl⟩
        · intro a w ux46 hE hM hp
          refine s_loadA (cs := Flat.enc r39) hE goes_none (by decide) rfl ty39 rfl (hM.rawAt (pre := [])) (Flat.len _) ?_; intro a hE
          exact ⟨Kept.refl _ _, _, _, rfl, hE, rfl⟩
        · intro a w ux46 hE hM hp
          have f0 : ux46 0 = v0_1 := hp 0 _ rfl rfl
          have f1 : ux46 1 = (Value.agg (Flat.enc j30).toArray) := hp 1 _ rfl rfl
          have f2 : ux46 2 = (Value.agg (Flat.enc r39).toArray) := hp 2 _ rfl rfl
          refine s_call (vs := [v0_1, (Value.agg (Flat.enc j30).toArray), (Value.agg (Flat.enc r39).toArray)]) hE goes_none (by decide) (evs_of (evsC (lk rfl f0) (evsC (lk rfl f1) (evsC (lk rfl f2) evsN)))) cb115 (c_impl_engine_encipher _ p0 v0_1 (hM.rdo hv0_1) j30 r39 r47 e48) ?_
          rintro v w a ⟨rfl, hK⟩ hE
          exact ⟨hK, _, _, rfl, hE, rfl⟩
        · intro a w ux46 hE hM hp
          refine s_loadA (cs := Flat.enc r39) hE goes_none (by decide) rfl ty39 rfl (hM.rawAt (pre := [])) (Flat.len _) ?_; intro a hE
          exact ⟨Kept.refl _ _, _, _, rfl, hE, rfl⟩
        · intro a w ux46 hE hM hp
          have f3 : ux46 3 = (Value.agg (Flat.enc r47).toArray) := hp 0 _ rfl rfl
          have f4 : ux46 4 = (Value.agg (Flat.enc r39).toArray) := hp 1 _ rfl rfl
          refine s_call (vs := [(Value.agg (Flat.enc r47).toArray), (Value.agg (Flat.enc r39).toArray)]) hE goes_none (by decide) (evs_of (evsC (lk rfl f3) (evsC (lk rfl f4) evsN))) cb114 (c_impl_XorBlocks _ r47 r39 r49 e50) ?_
          rintro v w a ⟨rfl, hK⟩ hE
          exact ⟨hK, _, _, rfl, hE, rfl⟩
        · intro a w ux46 hE hM hg
          have f0 : ux46 0 = v0_1 := hg 0 (by decide)
          have f1 : ux46 1 = (Value.agg (Flat.enc j30).toArray) := hg 1 (by decide)
          have f2 : ux46 2 = (Value.agg (Flat.enc r39).toArray) := hg 2 (by decide)
          have f3 : ux46 3 = (Value.agg (Flat.enc r47).toArray) := hg 3 (by decide)
          have f4 : ux46 4 = (Value.agg (Flat.enc r39).toArray) := hg 4 (by decide)
          have f5 : ux46 5 = (Value.agg (Flat.enc r49).toArray) := hg 5 (by decide)
          have hE := hE.sub (e' := [(29, v0_1), (30, (Value.agg (Flat.enc j30).toArray)), (31, (Value.agg (Flat.enc r39).toArray)), (32, (Value.agg (Flat.enc r47).toArray)), (33, (Value.agg (Flat.enc r39).toArray)), (34, (Value.agg (Flat.enc r49).toArray)), (0, v0_1), (5, (ptr b3 0)), (6, (ptr b5 0)), (7, (ptr b22 0)), (8, (ptr b24 0)), (10, (ptr b41 0)), (26, (Value.agg (Flat.enc x16).toArray)), (27, (Value.agg (Flat.enc p2).toArray)), (28, (Value.agg (Flat.enc r39).toArray))]) ⟨lk rfl f0, lk rfl f1, lk rfl f2, lk rfl f3, lk rfl f4, lk rfl f5, rfl, rfl, rfl, rfl, rfl, rfl, rfl, rfl, rfl, trivial⟩
          have hM := hM.pull (pre := [_])
          refine s_store (seg := Flat.enc r49) (cs' := Flat.enc r49) hE hM goes_none rfl rfl rfl ty39 (Flat.len _) (Nat.le_of_eq ((Nat.zero_add _).trans (Eq.trans (Flat.len _) (Eq.symm (Flat.len _))))) (Flat.cell _) (splice_all (Eq.trans (Flat.len _) (Eq.symm (Flat.len _)))) ?_; intro w a hM hE
          refine c_fin0 ?_
          have ht51 := Option.some.inj hl44
          subst ht51
          refine c_mid ?_
          have hM := hM.pull (pre := [_, _, _])
          have hM := hM.pull (pre := [_, _, _])
          have hM := hM.pull (pre := [_, _])
          have hM := M.fst (l := [_, _, _]) hM
          exact ⟨hE.sub ⟨rfl, rfl, rfl, trivial⟩, hM⟩
      · skip
        rintro a w ⟨hE, hM⟩
        obtain ⟨j52, hl53, hF54⟩ := bind_some hF45
        refine c_join (fun a w => Env 41 a [(6, (ptr b5 0))] ∧ M (Old w0) w0 w [raw b5 (Flat.enc j52)]) ?_ ?_
        · skip
          obtain ⟨l56, e57, hl53⟩ := bind_some hl53
          have hb58 := slc_arr e57 -- ^
          obtain ⟨l59, e60, hl53⟩ := bind_some hl53
          have hb61 := slc_arr e60 -- ^
          refine c_draw (n := 41) (hd := [_, _]) (tl := [_, _, _, _, _]) hmix rfl rfl [35, 36] (by decide) (fun w => M (Old w0) w0 w [raw b24 (Flat.enc j43), raw b22 (Flat.enc j30), raw b5 (Flat.enc (Vector.replicate 32 (0 : UInt8)))]) (fun j => ([fun v _ => v = (sliceV (.slice (some ⟨b22, 0, none⟩) 16 16) ((0 : Int)).toNat ((16 : Int)).toNat 1), fun v _ => v = (sliceV (.slice (some ⟨b24, 0, none⟩) 16 16) ((0 : Int)).toNat ((16 : Int)).toNat 1)] : List (Value → World → Prop)).getD j (fun _ _ => True)) (fun _ _ h hk => h.keep hk) (gup (gupE (gupE gupN))) hE hM.drew (steps_of (steps_cons ?_ (steps_cons ?_ steps_nil))) ?_
          · intro a w ux55 hE hM hp
            refine s_sliceArr (N := 16) hE goes_none (by decide) rfl rfl rfl rfl rfl Try.underlying39 ty5 hb58 ?_; intro a hE
            exact ⟨Kept.refl _ _, _, _, rfl, hE, rfl⟩
          · intro a w ux55 hE hM hp
            refine s_sliceArr (N := 16) hE goes_none (by decide) rfl rfl rfl rfl rfl Try.underlying39 ty5 hb61 ?_; intro a hE
            exact ⟨Kept.refl _ _, _, _, rfl, hE, rfl⟩
          · intro a w ux55 hE hM hg
            have f0 : ux55 0 = (sliceV (.slice (some ⟨b22, 0, none⟩) 16 16) ((0 : Int)).toNat ((16 : Int)).toNat 1) := hg 0 (by decide)
            have f1 : ux55 1 = (sliceV (.slice (some ⟨b24, 0, none⟩) 16 16) ((0 : Int)).toNat ((16 : Int)).toNat 1) := hg 1 (by decide)
            have hE := hE.sub (e' := [(35, (sliceV (.slice (some ⟨b22, 0, none⟩) 16 16) ((0 : Int)).toNat ((16 : Int)).toNat 1)), (36, (sliceV (.slice (some ⟨b24, 0, none⟩) 16 16) ((0 : Int)).toNat ((16 : Int)).toNat 1)), (6, (ptr b5 0)), (7, (ptr b22 0)), (8, (ptr b24 0))]) ⟨lk rfl f0, lk rfl f1, rfl, rfl, rfl, trivial⟩
            refine s_buildLit (xs := [.tmp 35, .tmp 36]) (vs := [(sliceV (.slice (some ⟨b22, 0, none⟩) 16 16) ((0 : Int)).toNat ((16 : Int)).toNat 1), (sliceV (.slice (some ⟨b24, 0, none⟩) 16 16) ((0 : Int)).toNat ((16 : Int)).toNat 1)]) hE hM goes_none (by decide) rfl rfl Try.underlying45 ty50 (by decide) (fa_cons (sl_cells (ro_slice (At.sat (hM.rawAt (pre := [_])) (by simp) (by decide)) e57)) (fa_cons (sl_cells (ro_slice (At.sat (hM.rawAt (pre := [])) (by simp) (by decide)) e60)) fa_nil)) ?_; intro b62 w a hM hE
            obtain ⟨r64, e65, hl53⟩ := bind_some hl53
            refine s_call (vs := [(Value.slice (some ⟨b62, 0, none⟩) 2 2)]) hE goes_none (by decide) rfl cb94 (c_slices_Concat_byte_byte _ ([l56, l59] : (List (List UInt8))) (Value.slice (some ⟨b62, 0, none⟩) 2 2) (ro_lit (hM.rawAt (pre := [])) (hM.rawLt (pre := [])) ⟨(ro_slice (At.sat (hM.rawAt (pre := [_, _])) (by simp) (by decide)) e57), (ro_slice (At.sat (hM.rawAt (pre := [_])) (by simp) (by decide)) e60), trivial⟩ rfl) r64 e65) ?_
            rintro u66 w a ⟨_, rfl, hFr, hK⟩ hE
            have hM := hM.add hK hFr
            obtain ⟨x67, e68, hl53⟩ := bind_some hl53
            refine s_toArr hE goes_none (by decide) rfl Try.underlying25 (hM.sl (pre := []) noB) (toArr_some e68).1 (by decide) ?_; intro a hE
            refine s_loadA (cs := Flat.enc x67) hE goes_none (by decide) rfl ty25 rfl (sl_arr (hM.sl (pre := []) noB) e68 (by decide)) (Flat.len _) ?_; intro a hE
            have hM := hM.pull (pre := [_, _, _, _])
            refine s_store (seg := Flat.enc x67) (cs' := Flat.enc x67) hE hM goes_none rfl rfl rfl ty25 (Flat.len _) (Nat.le_of_eq ((Nat.zero_add _).trans (Eq.trans (Flat.len _) (Eq.symm (Flat.len _))))) (Flat.cell _) (splice_all (Eq.trans (Flat.len _) (Eq.symm (Flat.len _)))) ?_; intro w a hM hE
            refine c_fin0 ?_
            have ht69 := Option.some.inj hl53
            subst ht69
            refine c_mid ?_
            have hM := M.fst (l := [_]) hM
            exact ⟨hE.sub ⟨rfl, trivial⟩, hM⟩
        · skip
          rintro a w ⟨hE, hM⟩
          have hr := Option.some.inj hF54
          subst hr
          have hq70 : ResIs Try.prog _ _ (.cell 6 25) _ := res_cell hE rfl ty25 rfl (hM.rawAt (pre := [])) (Flat.len _) rfl
          have hM := M.fst (l := []) hM
          exact wp_ret (k_ret1 hE rfl hq70 ⟨_, rfl, rfl, hM.kept⟩)
noncomputable def L0_impl_engine_digest (p0 : (Ref Gengine)) (r13 : (List (Vector UInt8 16))) (s19 : (Vector UInt8 32) × Int) : Option (Fl ((Vector UInt8 32) × Int) (Vector UInt8 32)) :=
  if (decide (s19.2 < (r13.length : Int))) = true then ((idx r13 s19.2).bind fun (x24 : (Vector UInt8 16)) => (F_impl_engine_absorb p0 s19.1 x24).bind fun (r29 : (Vector UInt8 32)) => some (Fl.nx (r29, wr (s19.2 + 1)))) else (some (Fl.ex s19.1))
noncomputable def F_impl_engine_digest (p0 : (Ref Gengine)) (p1 : (List (List UInt8))) : Option ((Vector UInt8 32)) :=
  (F_impl_StartOfDigest).bind fun (r3 : (Vector UInt8 32)) => (F_slices_Concat_byte_byte p1).bind fun (r7 : (List UInt8)) => (F_impl_padMessage r7).bind fun (r10 : (List UInt8)) => (F_impl_blocksOf r10).bind fun (r13 : (List (Vector UInt8 16))) => (iter (L0_impl_engine_digest p0 r13) (r3, 0) : Option ((Vector UInt8 32))).bind fun (j16 : (Vector UInt8 32)) => some j16
set_option maxRecDepth 20000 in
set_option maxHeartbeats 400000 in
theorem c_impl_engine_digest (w0 : World) (p0 : (Ref Gengine)) (v0_1 : Value) (hv0_1 : Ro w0 p0 [v0_1]) (p1 : (List (List UInt8))) (v1_1 : Value) (hv1_1 : Ro w0 p1 [v1_1]) (r : (Vector UInt8 32)) (hF : F_impl_engine_digest p0 p1 = some r) :
    Calls Try.prog 70 [v0_1, v1_1].toArray w0 (fun en w' => ∃ v, en = .returned v ∧ (v = (Value.agg (Flat.enc r).toArray) ∧ Kept (Old w0) w0 w')) := by
  refine c_enter (n := 24) Try.func70 rfl rfl (Nat.le_of_ble_eq_true rfl) rfl ?_
  intro a hE
  have hM := M.start w0
  unfold F_impl_engine_digest at hF
  refine c_region ?_
  refine s_alloc hE hM goes_none (by decide) ty25 ?_; intro b1 w a hM hE
  refine c_fin ?_
  refine c_region ?_
  obtain ⟨r3, e4, hF⟩ := bind_some hF
  refine s_call (vs := []) hE goes_none (by decide) rfl cb91 (c_impl_StartOfDigest _  r3 e4) ?_
  rintro v w a ⟨rfl, hK⟩ hE
  have hM := hM.keep hK
  refine s_alloc hE hM goes_none (by decide) ty25 ?_; intro b5 w a hM hE
  refine s_store (seg := Flat.enc r3) (cs' := Flat.enc r3) hE hM goes_none rfl rfl rfl ty25 (Flat.len _) (Nat.le_of_eq ((Nat.zero_add _).trans (Eq.trans (Flat.len _) (Eq.symm (Flat.len _))))) (Flat.cell _) (splice_all (Eq.trans (Flat.len _) (Eq.symm (Flat.len _)))) ?_; intro w a hM hE
  refine c_fin ?_
  refine wp_seq ?_
  refine c_region ?_
  refine s_move hE goes_none (by decide) rfl ?_; intro a hE
  obtain ⟨r7, e8, hF⟩ := bind_some hF
  refine s_call (vs := [v1_1]) hE goes_none (by decide) rfl cb94 (c_slices_Concat_byte_byte _ p1 v1_1 (hM.rdo hv1_1) r7 e8) ?_
  rintro u9 w a ⟨_, rfl, hFr, hK⟩ hE
  have hM := hM.add hK hFr
  obtain ⟨r10, e11, hF⟩ := bind_some hF
  refine s_call (vs := [u9]) hE goes_none (by decide) rfl cb93 (c_impl_padMessage _ r7 u9 (hM.sl (pre := []) noB) r10 e11) ?_
  rintro u12 w a ⟨_, rfl, hFr, hK⟩ hE
  have hM := hM.add hK hFr
  obtain ⟨r13, e14, hF⟩ := bind_some hF
  refine s_call (vs := [u12]) hE goes_none (by decide) rfl cb92 (c_impl_blocksOf _ r10 u12 (hM.sl (pre := []) noB) r13 e14) ?_
  rintro u15 w a ⟨_, rfl, hFr, hK⟩ hE
  have hM := hM.add hK hFr
  refine s_len hE goes_none (by decide) rfl Try.underlying34 (hM.sl (pre := []) noB) ?_; intro a hE
  refine s_move hE goes_none (by decide) rfl ?_; intro a hE
  refine c_fin ?_
  obtain ⟨j16, hl17, hF18⟩ := bind_some hF
  refine c_cut (fun a w => Env 24 a [(4, (ptr b1 0)), (5, (ptr b5 0))] ∧ M (Old w0) w0 w [raw b5 (Flat.enc j16), raw b1 (Flat.enc (Vector.replicate 32 (0 : UInt8)))]) ?_ ?_
  · skip
    refine wp_block ?_
    have hM := hM.pull (pre := [_, _, _, _])
    have hM := hM.pull (pre := [_, _, _, _])
    have hM := hM.pull (pre := [_, _])
    have hM := M.fst (l := [_, _, _]) hM
    refine c_loop (fun (s19 : (Vector UInt8 32) × Int) a w => Env 24 a [(0, v0_1), (4, (ptr b1 0)), (5, (ptr b5 0)), (12, u15), (13, (vI (r13.length : Int))), (14, (vI s19.2))] ∧ M (Old w0) w0 w [osl NoB (r13 : List (Vector UInt8 16)) u15, raw b5 (Flat.enc s19.1), raw b1 (Flat.enc (Vector.replicate 32 (0 : UInt8)))]) hl17 ⟨hE.sub ⟨rfl, rfl, rfl, rfl, rfl, rfl, trivial⟩, hM⟩ ?_
    rintro s19 a w ⟨hE, hM⟩ o22 hs20 hx21
    unfold L0_impl_engine_digest at hs20
    refine c_region ?_
    refine s_int hE goes_none (by decide) rfl rfl rfl ?_; intro a hE
    refine c_fin ?_
    refine wp_seq ?_
    refine c_cond hE rfl ?_ ?_
    · intro hb23
      have hs20 := ite_t hs20 hb23
      refine wp_skip ?_
      refine c_nx ?_
      refine wp_seq ?_
      refine wp_block ?_
      refine c_region ?_
      obtain ⟨x24, e25, hs20⟩ := bind_some hs20
      have hi26 := idx_some e25
      refine s_indexS hE goes_none (by decide) rfl rfl Try.underlying34 ty39 (hM.sl (pre := []) noB) hi26.1 ?_; intro a hE
      refine s_loadA (cs := Flat.enc x24) hE goes_none (by decide) rfl ty39 rfl (sl_atF (hM.sl (pre := []) noB) hi26.2) (Flat.len _) ?_; intro a hE
      refine s_alloc hE hM goes_none (by decide) ty39 ?_; intro b27 w a hM hE
      refine s_store (seg := Flat.enc x24) (cs' := Flat.enc x24) hE hM goes_none rfl rfl rfl ty39 (Flat.len _) (Nat.le_of_eq ((Nat.zero_add _).trans (Eq.trans (Flat.len _) (Eq.symm (Flat.len _))))) (Flat.cell _) (splice_all (Eq.trans (Flat.len _) (Eq.symm (Flat.len _)))) ?_; intro w a hM hE
      refine c_fin ?_
      refine wp_region_lit ?_
      refine s_move hE goes_none (by decide) rfl ?_; intro a hE
      refine s_loadA (cs := Flat.enc s19.1) hE goes_none (by decide) rfl ty25 rfl (hM.rawAt (pre := [_, _])) (Flat.len _) ?_; intro a hE
      refine s_loadA (cs := Flat.enc x24) hE goes_none (by decide) rfl ty39 rfl (hM.rawAt (pre := [])) (Flat.len _) ?_; intro a hE
      obtain ⟨r29, e30, hs20⟩ := bind_some hs20
      refine s_call (vs := [v0_1, (Value.agg (Flat.enc s19.1).toArray), (Value.agg (Flat.enc x24).toArray)]) hE goes_none (by decide) rfl cb95 (c_impl_engine_absorb _ p0 v0_1 (hM.rdo hv0_1) s19.1 x24 r29 e30) ?_
      rintro v w a ⟨rfl, hK⟩ hE
      have hM := hM.keep hK
      have hM := hM.pull (pre := [_, _])
      refine s_store (seg := Flat.enc r29) (cs' := Flat.enc r29) hE hM goes_none rfl rfl rfl ty25 (Flat.len _) (Nat.le_of_eq ((Nat.zero_add _).trans (Eq.trans (Flat.len _) (Eq.symm (Flat.len _))))) (Flat.cell _) (splice_all (Eq.trans (Flat.len _) (Eq.symm (Flat.len _)))) ?_; intro w a hM hE
      refine c_fin0 ?_
      refine c_nb ?_
      refine c_nx ?_
      refine wp_region_lit ?_
      refine s_int hE goes_none (by decide) rfl rfl rfl ?_; intro a hE
      refine s_move hE goes_none (by decide) rfl ?_; intro a hE
      refine c_fin0 ?_
      refine c_mid ?_
      have hM := hM.pull (pre := [_, _, _])
      have hM := hM.pull (pre := [_])
      have hM := hM.pull (pre := [_, _, _])
      have hM := M.fst (l := [_, _, _]) hM
      exact ⟨_, (Option.some.inj hs20).symm, hE.sub ⟨rfl, rfl, rfl, rfl, rfl, rfl, trivial⟩, hM⟩
    · intro hb23
      have hs20 := ite_f hs20 hb23
      refine wp_exit (e_then (e_then (e_eq ?_)))
      have ht31 := hx21 _ (Option.some.inj hs20).symm
      subst ht31
      refine c_mid ?_
      have hM := hM.pull (pre := [_, _])
      have hM := hM.pull (pre := [_, _])
      have hM := M.fst (l := [_, _]) hM
      exact ⟨hE.sub ⟨rfl, rfl, trivial⟩, hM⟩
  · skip
    rintro a w ⟨hE, hM⟩
    refine c_nx ?_
    refine c_region ?_
    refine s_loadA (cs := Flat.enc j16) hE goes_none (by decide) rfl ty25 rfl (hM.rawAt (pre := [])) (Flat.len _) ?_; intro a hE
    have hM := hM.pull (pre := [_])
    refine s_store (seg := Flat.enc j16) (cs' := Flat.enc j16) hE hM goes_none rfl rfl rfl ty25 (Flat.len _) (Nat.le_of_eq ((Nat.zero_add _).trans (Eq.trans (Flat.len _) (Eq.symm (Flat.len _))))) (Flat.cell _) (splice_all (Eq.trans (Flat.len _) (Eq.symm (Flat.len _)))) ?_; intro w a hM hE
    refine c_fin ?_
    have hr := Option.some.inj hF18
    subst hr
    have hq32 : ResIs Try.prog _ _ (.cell 4 25) _ := res_cell hE rfl ty25 rfl (hM.rawAt (pre := [])) (Flat.len _) rfl
    have hM := M.fst (l := []) hM
    exact wp_ret (k_ret1 hE rfl hq32 ⟨_, rfl, rfl, hM.kept⟩)
noncomputable def L0_impl_engine_head (p0 : (Ref Gengine)) (p1 : (List GEvent)) (s16 : (Vector UInt8 32) × Int) : Option (Fl ((Vector UInt8 32) × Int) (Vector UInt8 32)) :=
  if (decide (s16.2 < (p1.length : Int))) = true then ((idx p1 s16.2).bind fun (x21 : GEvent) => (slc s16.1.toList (0 : Int) (32 : Int)).bind fun (l27 : (List UInt8)) => (F_impl_bigEndian x21.Number 4).bind fun (r32 : (List UInt8)) => (slc x21.Tag.toList (0 : Int) (32 : Int)).bind fun (l35 : (List UInt8)) => (F_impl_engine_digest p0 ([l27, ([byteI x21.Kind] : List UInt8), r32, l35] : (List (List UInt8)))).bind fun (r42 : (Vector UInt8 32)) => some (Fl.nx (r42, wr (s16.2 + 1)))) else (some (Fl.ex s16.1))
noncomputable def F_impl_engine_head (p0 : (Ref Gengine)) (p1 : (List GEvent)) : Option ((Vector UInt8 32)) :=
  (mkS 1 (0 : UInt8) 32).bind fun (l3 : (List UInt8)) => (F_impl_engine_digest p0 ([l3] : (List (List UInt8)))).bind fun (r9 : (Vector UInt8 32)) => (iter (L0_impl_engine_head p0 p1) (r9, 0) : Option ((Vector UInt8 32))).bind fun (j13 : (Vector UInt8 32)) => some j13
set_option maxRecDepth 20000 in
set_option maxHeartbeats 400000 in
theorem c_impl_engine_head (w0 : World) (p0 : (Ref Gengine)) (v0_1 : Value) (hv0_1 : Ro w0 p0 [v0_1]) (p1 : (List GEvent)) (v1_1 : Value) (hv1_1 : Ro w0 p1 [v1_1]) (r : (Vector UInt8 32)) (hF : F_impl_engine_head p0 p1 = some r) :
    Calls Try.prog 35 [v0_1, v1_1].toArray w0 (fun en w' => ∃ v, en = .returned v ∧ (v = (Value.agg (Flat.enc r).toArray) ∧ Kept (Old w0) w0 w')) := by
  refine c_enter (n := 33) Try.func35 rfl rfl (Nat.le_of_ble_eq_true rfl) rfl ?_
  intro a hE
  have hM := M.start w0
  unfold F_impl_engine_head at hF
  refine c_region ?_
  refine s_alloc hE hM goes_none (by decide) ty25 ?_; intro b1 w a hM hE
  refine c_fin ?_
  refine c_region ?_
  refine s_move hE goes_none (by decide) rfl ?_; intro a hE
  obtain ⟨l3, e4, hF⟩ := bind_some hF
  refine s_make hE hM goes_none (by decide) rfl rfl Try.underlying50 ty5 rfl (by decide) (fun _ => sat_flat.2 ⟨rfl, rfl⟩) e4 ?_; intro u5 w a hM hE
  refine s_buildLit (xs := [.tmp 9]) (vs := [u5]) hE hM goes_none (by decide) rfl rfl Try.underlying45 ty50 (by decide) (fa_cons (sl_cells (hM.sl (pre := []) noB)) fa_nil) ?_; intro b7 w a hM hE
  obtain ⟨r9, e10, hF⟩ := bind_some hF
  refine s_call (vs := [v0_1, (Value.slice (some ⟨b7, 0, none⟩) 1 1)]) hE goes_none (by decide) rfl cb70 (c_impl_engine_digest _ p0 v0_1 (hM.rdo hv0_1) ([l3] : (List (List UInt8))) (Value.slice (some ⟨b7, 0, none⟩) 1 1) (ro_lit (hM.rawAt (pre := [])) (hM.rawLt (pre := [])) ⟨(hM.sl (pre := [_]) noB), trivial⟩ rfl) r9 e10) ?_
  rintro v w a ⟨rfl, hK⟩ hE
  have hM := hM.keep hK
  refine s_alloc hE hM goes_none (by decide) ty25 ?_; intro b11 w a hM hE
  refine s_store (seg := Flat.enc r9) (cs' := Flat.enc r9) hE hM goes_none rfl rfl rfl ty25 (Flat.len _) (Nat.le_of_eq ((Nat.zero_add _).trans (Eq.trans (Flat.len _) (Eq.symm (Flat.len _))))) (Flat.cell _) (splice_all (Eq.trans (Flat.len _) (Eq.symm (Flat.len _)))) ?_; intro w a hM hE
  refine c_fin ?_
  refine wp_seq ?_
  refine c_region ?_
  refine s_move hE goes_none (by decide) rfl ?_; intro a hE
  refine s_len hE goes_none (by decide) rfl Try.underlying28 (hM.rd hv1_1) ?_; intro a hE
  refine s_move hE goes_none (by decide) rfl ?_; intro a hE
  refine c_fin ?_
  obtain ⟨j13, hl14, hF15⟩ := bind_some hF
  refine c_cut (fun a w => Env 33 a [(4, (ptr b1 0)), (5, (ptr b11 0))] ∧ M (Old w0) w0 w [raw b11 (Flat.enc j13), raw b1 (Flat.enc (Vector.replicate 32 (0 : UInt8)))]) ?_ ?_
  · skip
    refine wp_block ?_
    have hM := hM.pull (pre := [_, _, _])
    have hM := hM.pull (pre := [_])
    have hM := M.fst (l := [_, _]) hM
    refine c_loop (fun (s16 : (Vector UInt8 32) × Int) a w => Env 33 a [(0, v0_1), (4, (ptr b1 0)), (5, (ptr b11 0)), (12, v1_1), (13, (vI (p1.length : Int))), (14, (vI s16.2))] ∧ M (Old w0) w0 w [raw b11 (Flat.enc s16.1), raw b1 (Flat.enc (Vector.replicate 32 (0 : UInt8)))]) hl14 ⟨hE.sub ⟨rfl, rfl, rfl, rfl, rfl, rfl, trivial⟩, hM⟩ ?_
    rintro s16 a w ⟨hE, hM⟩ o19 hs17 hx18
    unfold L0_impl_engine_head at hs17
    refine c_region ?_
    refine s_int hE goes_none (by decide) rfl rfl rfl ?_; intro a hE
    refine c_fin ?_
    refine wp_seq ?_
    refine c_cond hE rfl ?_ ?_
    · intro hb20
      have hs17 := ite_t hs17 hb20
      refine wp_skip ?_
      refine c_nx ?_
      refine wp_seq ?_
      refine wp_block ?_
      refine c_region ?_
      obtain ⟨x21, e22, hs17⟩ := bind_some hs17
      have hi23 := idx_some e22
      refine s_indexS hE goes_none (by decide) rfl rfl Try.underlying28 ty65 (hM.rd hv1_1) hi23.1 ?_; intro a hE
      refine s_loadA (cs := Flat.enc x21) hE goes_none (by decide) rfl ty65 rfl (sl_atF (hM.rd hv1_1) hi23.2) (cat_len (cl1 (n := 1) (m := 33) rfl (cl1 (n := 1) (m := 32) rfl (cl1 (n := 32) (m := 0) (Flat.len _) cl0)))) ?_; intro a hE
      refine s_alloc hE hM goes_none (by decide) ty65 ?_; intro b24 w a hM hE
      refine s_store (seg := cat [[(vI x21.Kind)], [(vI x21.Number)], Flat.enc x21.Tag]) (cs' := cat [[(vI x21.Kind)], [(vI x21.Number)], Flat.enc x21.Tag]) hE hM goes_none rfl rfl rfl ty65 (cat_len (cl1 (n := 1) (m := 33) rfl (cl1 (n := 1) (m := 32) rfl (cl1 (n := 32) (m := 0) (Flat.len _) cl0)))) (Nat.le_of_eq ((Nat.zero_add _).trans (Eq.trans (cat_len (cl1 (n := 1) (m := 33) rfl (cl1 (n := 1) (m := 32) rfl (cl1 (n := 32) (m := 0) (Flat.len _) cl0)))) (Eq.symm (cat_len (cl1 (n := 1) (m := 33) rfl (cl1 (n := 1) (m := 32) rfl (cl1 (n := 32) (m := 0) (Flat.len _) cl0)))))))) (cat_cell (cc1 (Flat.cell (x21.Kind : Int)) (cc1 (Flat.cell (x21.Number : Int)) (cc1 (Flat.cell _) cc0)))) (splice_all (Eq.trans (cat_len (cl1 (n := 1) (m := 33) rfl (cl1 (n := 1) (m := 32) rfl (cl1 (n := 32) (m := 0) (Flat.len _) cl0)))) (Eq.symm (cat_len (cl1 (n := 1) (m := 33) rfl (cl1 (n := 1) (m := 32) rfl (cl1 (n := 32) (m := 0) (Flat.len _) cl0))))))) ?_; intro w a hM hE
      refine c_fin ?_
      obtain ⟨l27, e28, hs17⟩ := bind_some hs17
      have hb29 := slc_arr e28 -- ^
      obtain ⟨r32, e33, hs17⟩ := bind_some hs17
      obtain ⟨l35, e36, hs17⟩ := bind_some hs17
      have hb37 := slc_arr e36 -- ^
      refine c_draw3 (n := 33) (hd := [_, _, _, _, _, _, _, _, _, _, _, _]) (tl := [_, _]) hmix rfl rfl [18, 19, 20, 21, 22, 23, 24, 25, 26, 27, 28, 29] (by decide) (fun D u w => M (Old w0) w0 w ([raw b24 (cat [[(vI x21.Kind)], [(vI x21.Number)], Flat.enc x21.Tag]), raw b11 (Flat.enc s16.1), raw b1 (Flat.enc (Vector.replicate 32 (0 : UInt8)))] ++ qL ([mkO 5 (fun v => osl NoB (([byteI x21.Kind] : List UInt8) : List UInt8) v), mkO 8 (fun v => osl NoB (r32 : List UInt8) v), mkL 11 [5, 8] 4 (fun us => [(sliceV (.slice (some ⟨b11, 0, none⟩) 32 32) ((0 : Int)).toNat ((32 : Int)).toNat 1), (us.getD 0 undef), (us.getD 1 undef), (sliceV (.slice (some ⟨b24, 0 + 2, none⟩) 32 32) ((0 : Int)).toNat ((32 : Int)).toNat 1)])] : Mk) D u) ∧ GOk ([([], fun us v => v = v0_1), ([], fun us v => v = (sliceV (.slice (some ⟨b11, 0, none⟩) 32 32) ((0 : Int)).toNat ((32 : Int)).toNat 1)), ([], fun us v => v = (ptr b24 (0 + 0))), ([], fun us v => v = (vI x21.Kind)), ([], fun us v => v = (vB (byteI x21.Kind))), ([], fun us v => True), ([], fun us v => v = (ptr b24 (0 + 1))), ([], fun us v => v = (vI x21.Number)), ([], fun us v => True), ([], fun us v => v = (ptr b24 (0 + 2))), ([], fun us v => v = (sliceV (.slice (some ⟨b24, 0 + 2, none⟩) 32 32) ((0 : Int)).toNat ((32 : Int)).toNat 1)), ([5, 8], fun us v => True)] : Gs) D u) hE (fun u => ⟨M.qE (M.qE (M.qE (M.q0 hM.drew u) emL) emO) emO, gok0⟩) (steps_of (steps_cons ?_ (steps_cons ?_ (steps_cons ?_ (steps_cons ?_ (steps_cons ?_ (steps_cons ?_ (steps_cons ?_ (steps_cons ?_ (steps_cons ?_ (steps_cons ?_ (steps_cons ?_ (steps_cons ?_ steps_nil))))))))))))) ?_
      · intro a w ux26 D hE hI hD hdc hp
        have hM0 := hI.1
        have hM : M (Old w0) w0 w [raw b24 (cat [[(vI x21.Kind)], [(vI x21.Number)], Flat.enc x21.Tag]), raw b11 (Flat.enc s16.1), raw b1 (Flat.enc (Vector.replicate 32 (0 : UInt8))), opt (D 5) (osl NoB (([byteI x21.Kind] : List UInt8) : List UInt8) (ux26 5)), opt (D 8) (osl NoB (r32 : List UInt8) (ux26 8)), opt (D 11) (litP (ux26 11) 4 [(sliceV (.slice (some ⟨b11, 0, none⟩) 32 32) ((0 : Int)).toNat ((32 : Int)).toNat 1), (ux26 5), (ux26 8), (sliceV (.slice (some ⟨b24, 0 + 2, none⟩) 32 32) ((0 : Int)).toNat ((32 : Int)).toNat 1)])] := hI.1
        refine s_move hE goes_none (by decide) rfl ?_; intro a hE
        exact ⟨_, _, rfl, hE, M.qKeep hM0 rfl, hI.2.put hD rfl allN rfl⟩
      · intro a w ux26 D hE hI hD hdc hp
        have hM0 := hI.1
        have hM : M (Old w0) w0 w [raw b24 (cat [[(vI x21.Kind)], [(vI x21.Number)], Flat.enc x21.Tag]), raw b11 (Flat.enc s16.1), raw b1 (Flat.enc (Vector.replicate 32 (0 : UInt8))), opt (D 5) (osl NoB (([byteI x21.Kind] : List UInt8) : List UInt8) (ux26 5)), opt (D 8) (osl NoB (r32 : List UInt8) (ux26 8)), opt (D 11) (litP (ux26 11) 4 [(sliceV (.slice (some ⟨b11, 0, none⟩) 32 32) ((0 : Int)).toNat ((32 : Int)).toNat 1), (ux26 5), (ux26 8), (sliceV (.slice (some ⟨b24, 0 + 2, none⟩) 32 32) ((0 : Int)).toNat ((32 : Int)).toNat 1)])] := hI.1
        refine s_sliceArr (N := 32) hE goes_none (by decide) rfl rfl rfl rfl rfl Try.underlying25 ty5 hb29 ?_; intro a hE
        exact ⟨_, _, rfl, hE, M.qKeep hM0 rfl, hI.2.put hD rfl allN rfl⟩
      · intro a w ux26 D hE hI hD hdc hp
        have hM0 := hI.1
        have hM : M (Old w0) w0 w [raw b24 (cat [[(vI x21.Kind)], [(vI x21.Number)], Flat.enc x21.Tag]), raw b11 (Flat.enc s16.1), raw b1 (Flat.enc (Vector.replicate 32 (0 : UInt8))), opt (D 5) (osl NoB (([byteI x21.Kind] : List UInt8) : List UInt8) (ux26 5)), opt (D 8) (osl NoB (r32 : List UInt8) (ux26 8)), opt (D 11) (litP (ux26 11) 4 [(sliceV (.slice (some ⟨b11, 0, none⟩) 32 32) ((0 : Int)).toNat ((32 : Int)).toNat 1), (ux26 5), (ux26 8), (sliceV (.slice (some ⟨b24, 0 + 2, none⟩) 32 32) ((0 : Int)).toNat ((32 : Int)).toNat 1)])] := hI.1
        refine s_fieldAddr hE goes_none (by decide) rfl (fd65_0) ?_; intro a hE
        exact ⟨_, _, rfl, hE, M.qKeep hM0 rfl, hI.2.put hD rfl allN rfl⟩
      · intro a w ux26 D hE hI hD hdc hp
        have d2 : D 2 = true := hp 0 _ rfl rfl
        have g2 := hI.2 2 d2 _ rfl
        have f2 : ux26 2 = (ptr b24 (0 + 0)) := g2.2
        have hM0 := hI.1
        have hM : M (Old w0) w0 w [raw b24 (cat [[(vI x21.Kind)], [(vI x21.Number)], Flat.enc x21.Tag]), raw b11 (Flat.enc s16.1), raw b1 (Flat.enc (Vector.replicate 32 (0 : UInt8))), opt (D 5) (osl NoB (([byteI x21.Kind] : List UInt8) : List UInt8) (ux26 5)), opt (D 8) (osl NoB (r32 : List UInt8) (ux26 8)), opt (D 11) (litP (ux26 11) 4 [(sliceV (.slice (some ⟨b11, 0, none⟩) 32 32) ((0 : Int)).toNat ((32 : Int)).toNat 1), (ux26 5), (ux26 8), (sliceV (.slice (some ⟨b24, 0 + 2, none⟩) 32 32) ((0 : Int)).toNat ((32 : Int)).toNat 1)])] := hI.1
        refine s_load (v := (vI x21.Kind)) hE goes_none (by decide) (lk rfl f2) ty2 rfl (At.cat (pre := []) (seg := [(vI x21.Kind)]) (post := [[(vI x21.Number)], Flat.enc x21.Tag]) (hM.rawAt (pre := [])) cl0) ?_; intro a hE
        exact ⟨_, _, rfl, hE, M.qKeep hM0 rfl, hI.2.put hD rfl allN rfl⟩
      · intro a w ux26 D hE hI hD hdc hp
        have d3 : D 3 = true := hp 0 _ rfl rfl
        have g3 := hI.2 3 d3 _ rfl
        have f3 : ux26 3 = (vI x21.Kind) := g3.2
        have hM0 := hI.1
        have hM : M (Old w0) w0 w [raw b24 (cat [[(vI x21.Kind)], [(vI x21.Number)], Flat.enc x21.Tag]), raw b11 (Flat.enc s16.1), raw b1 (Flat.enc (Vector.replicate 32 (0 : UInt8))), opt (D 5) (osl NoB (([byteI x21.Kind] : List UInt8) : List UInt8) (ux26 5)), opt (D 8) (osl NoB (r32 : List UInt8) (ux26 8)), opt (D 11) (litP (ux26 11) 4 [(sliceV (.slice (some ⟨b11, 0, none⟩) 32 32) ((0 : Int)).toNat ((32 : Int)).toNat 1), (ux26 5), (ux26 8), (sliceV (.slice (some ⟨b24, 0 + 2, none⟩) 32 32) ((0 : Int)).toNat ((32 : Int)).toNat 1)])] := hI.1
        refine s_conv hE goes_none (by decide) (lk rfl f3) Try.underlying2 Try.underlying5 ?_; intro a hE
        rw [byteI_val] at hE
        exact ⟨_, _, rfl, hE, M.qKeep hM0 rfl, hI.2.put hD rfl allN rfl⟩
      · intro a w ux26 D hE hI hD hdc hp
        have d4 : D 4 = true := hp 0 _ rfl rfl
        have g4 := hI.2 4 d4 _ rfl
        have f4 : ux26 4 = (vB (byteI x21.Kind)) := g4.2
        have hsL : D 11 = false := Bool.eq_false_iff.2 fun hx => Bool.noConfusion (hD.symm.trans (hdc 11 _ _ rfl (List.mem_of_getElem? (i := 1) rfl) rfl hx))
        have hM0 := hI.1
        have hM : M (Old w0) w0 w [raw b24 (cat [[(vI x21.Kind)], [(vI x21.Number)], Flat.enc x21.Tag]), raw b11 (Flat.enc s16.1), raw b1 (Flat.enc (Vector.replicate 32 (0 : UInt8))), opt (D 5) (osl NoB (([byteI x21.Kind] : List UInt8) : List UInt8) (ux26 5)), opt (D 8) (osl NoB (r32 : List UInt8) (ux26 8)), opt (D 11) (litP (ux26 11) 4 [(sliceV (.slice (some ⟨b11, 0, none⟩) 32 32) ((0 : Int)).toNat ((32 : Int)).toNat 1), (ux26 5), (ux26 8), (sliceV (.slice (some ⟨b24, 0 + 2, none⟩) 32 32) ((0 : Int)).toNat ((32 : Int)).toNat 1)])] := hI.1
        refine s_buildF (xs := [.tmp 22]) (l := ([byteI x21.Kind] : List UInt8)) (vs := [(vB (byteI x21.Kind))]) hE hM goes_none (by decide) (evs_of (evsC (lk rfl f4) evsN)) rfl Try.underlying50 ty5 rfl (by decide) rfl ?_; intro u30 w a hM hE
        have hM := M.litOff (its := _ :: [raw b24 (cat [[(vI x21.Kind)], [(vI x21.Number)], Flat.enc x21.Tag]), raw b11 (Flat.enc s16.1), raw b1 (Flat.enc (Vector.replicate 32 (0 : UInt8)))]) (mk := ([mkO 5 (fun v => osl NoB (([byteI x21.Kind] : List UInt8) : List UInt8) v), mkO 8 (fun v => osl NoB (r32 : List UInt8) v)] : Mk)) (i := 11) (ds := [5, 8]) (m := 4) (f := (fun us => [(sliceV (.slice (some ⟨b11, 0, none⟩) 32 32) ((0 : Int)).toNat ((32 : Int)).toNat 1), (us.getD 0 undef), (us.getD 1 undef), (sliceV (.slice (some ⟨b24, 0 + 2, none⟩) 32 32) ((0 : Int)).toNat ((32 : Int)).toNat 1)])) hM hsL
        exact ⟨_, _, rfl, hE, (M.litOn (its := [raw b24 (cat [[(vI x21.Kind)], [(vI x21.Number)], Flat.enc x21.Tag]), raw b11 (Flat.enc s16.1), raw b1 (Flat.enc (Vector.replicate 32 (0 : UInt8)))]) (mk := ([mkO 5 (fun v => osl NoB (([byteI x21.Kind] : List UInt8) : List UInt8) v), mkO 8 (fun v => osl NoB (r32 : List UInt8) v)] : Mk)) (i := 11) (ds := [5, 8]) (m := 4) (f := (fun us => [(sliceV (.slice (some ⟨b11, 0, none⟩) 32 32) ((0 : Int)).toNat ((32 : Int)).toNat 1), (us.getD 0 undef), (us.getD 1 undef), (sliceV (.slice (some ⟨b24, 0 + 2, none⟩) 32 32) ((0 : Int)).toNat ((32 : Int)).toNat 1)])) (M.qFill (its := [raw b24 (cat [[(vI x21.Kind)], [(vI x21.Number)], Flat.enc x21.Tag]), raw b11 (Flat.enc s16.1), raw b1 (Flat.enc (Vector.replicate 32 (0 : UInt8)))]) (mk1 := []) (mk2 := [_]) (f := (fun v => osl NoB (([byteI x21.Kind] : List UInt8) : List UInt8) v)) hM rfl hD) hsL (by decide)), hI.2.put hD rfl allN trivial⟩
      · intro a w ux26 D hE hI hD hdc hp
        have hM0 := hI.1
        have hM : M (Old w0) w0 w [raw b24 (cat [[(vI x21.Kind)], [(vI x21.Number)], Flat.enc x21.Tag]), raw b11 (Flat.enc s16.1), raw b1 (Flat.enc (Vector.replicate 32 (0 : UInt8))), opt (D 5) (osl NoB (([byteI x21.Kind] : List UInt8) : List UInt8) (ux26 5)), opt (D 8) (osl NoB (r32 : List UInt8) (ux26 8)), opt (D 11) (litP (ux26 11) 4 [(sliceV (.slice (some ⟨b11, 0, none⟩) 32 32) ((0 : Int)).toNat ((32 : Int)).toNat 1), (ux26 5), (ux26 8), (sliceV (.slice (some ⟨b24, 0 + 2, none⟩) 32 32) ((0 : Int)).toNat ((32 : Int)).toNat 1)])] := hI.1
        refine s_fieldAddr hE goes_none (by decide) rfl (fd65_1) ?_; intro a hE
        exact ⟨_, _, rfl, hE, M.qKeep hM0 rfl, hI.2.put hD rfl allN rfl⟩
      · intro a w ux26 D hE hI hD hdc hp
        have d6 : D 6 = true := hp 0 _ rfl rfl
        have g6 := hI.2 6 d6 _ rfl
        have f6 : ux26 6 = (ptr b24 (0 + 1)) := g6.2
        have hM0 := hI.1
        have hM : M (Old w0) w0 w [raw b24 (cat [[(vI x21.Kind)], [(vI x21.Number)], Flat.enc x21.Tag]), raw b11 (Flat.enc s16.1), raw b1 (Flat.enc (Vector.replicate 32 (0 : UInt8))), opt (D 5) (osl NoB (([byteI x21.Kind] : List UInt8) : List UInt8) (ux26 5)), opt (D 8) (osl NoB (r32 : List UInt8) (ux26 8)), opt (D 11) (litP (ux26 11) 4 [(sliceV (.slice (some ⟨b11, 0, none⟩) 32 32) ((0 : Int)).toNat ((32 : Int)).toNat 1), (ux26 5), (ux26 8), (sliceV (.slice (some ⟨b24, 0 + 2, none⟩) 32 32) ((0 : Int)).toNat ((32 : Int)).toNat 1)])] := hI.1
        refine s_load (v := (vI x21.Number)) hE goes_none (by decide) (lk rfl f6) ty2 rfl (At.cat (pre := [[(vI x21.Kind)]]) (seg := [(vI x21.Number)]) (post := [Flat.enc x21.Tag]) (hM.rawAt (pre := [])) (cl1 (n := 1) (m := 0) rfl cl0)) ?_; intro a hE
        exact ⟨_, _, rfl, hE, M.qKeep hM0 rfl, hI.2.put hD rfl allN rfl⟩
      · intro a w ux26 D hE hI hD hdc hp
        have d7 : D 7 = true := hp 0 _ rfl rfl
        have g7 := hI.2 7 d7 _ rfl
        have f7 : ux26 7 = (vI x21.Number) := g7.2
        have hsL : D 11 = false := Bool.eq_false_iff.2 fun hx => Bool.noConfusion (hD.symm.trans (hdc 11 _ _ rfl (List.mem_of_getElem? (i := 2) rfl) rfl hx))
        have hM0 := hI.1
        have hM : M (Old w0) w0 w [raw b24 (cat [[(vI x21.Kind)], [(vI x21.Number)], Flat.enc x21.Tag]), raw b11 (Flat.enc s16.1), raw b1 (Flat.enc (Vector.replicate 32 (0 : UInt8))), opt (D 5) (osl NoB (([byteI x21.Kind] : List UInt8) : List UInt8) (ux26 5)), opt (D 8) (osl NoB (r32 : List UInt8) (ux26 8)), opt (D 11) (litP (ux26 11) 4 [(sliceV (.slice (some ⟨b11, 0, none⟩) 32 32) ((0 : Int)).toNat ((32 : Int)).toNat 1), (ux26 5), (ux26 8), (sliceV (.slice (some ⟨b24, 0 + 2, none⟩) 32 32) ((0 : Int)).toNat ((32 : Int)).toNat 1)])] := hI.1
        refine s_call (vs := [(vI x21.Number), (vI 4)]) hE goes_none (by decide) (evs_of (evsC (lk rfl f7) (evsC rfl evsN))) cb71 (c_impl_bigEndian _ x21.Number 4 r32 e33) ?_
        rintro _ w a ⟨_, rfl, hFr, hK⟩ hE
        have hM := hM0.add hK hFr
        have hM := M.litOff (its := _ :: [raw b24 (cat [[(vI x21.Kind)], [(vI x21.Number)], Flat.enc x21.Tag]), raw b11 (Flat.enc s16.1), raw b1 (Flat.enc (Vector.replicate 32 (0 : UInt8)))]) (mk := ([mkO 5 (fun v => osl NoB (([byteI x21.Kind] : List UInt8) : List UInt8) v), mkO 8 (fun v => osl NoB (r32 : List UInt8) v)] : Mk)) (i := 11) (ds := [5, 8]) (m := 4) (f := (fun us => [(sliceV (.slice (some ⟨b11, 0, none⟩) 32 32) ((0 : Int)).toNat ((32 : Int)).toNat 1), (us.getD 0 undef), (us.getD 1 undef), (sliceV (.slice (some ⟨b24, 0 + 2, none⟩) 32 32) ((0 : Int)).toNat ((32 : Int)).toNat 1)])) hM hsL
        exact ⟨_, _, rfl, hE, (M.litOn (its := [raw b24 (cat [[(vI x21.Kind)], [(vI x21.Number)], Flat.enc x21.Tag]), raw b11 (Flat.enc s16.1), raw b1 (Flat.enc (Vector.replicate 32 (0 : UInt8)))]) (mk := ([mkO 5 (fun v => osl NoB (([byteI x21.Kind] : List UInt8) : List UInt8) v), mkO 8 (fun v => osl NoB (r32 : List UInt8) v)] : Mk)) (i := 11) (ds := [5, 8]) (m := 4) (f := (fun us => [(sliceV (.slice (some ⟨b11, 0, none⟩) 32 32) ((0 : Int)).toNat ((32 : Int)).toNat 1), (us.getD 0 undef), (us.getD 1 undef), (sliceV (.slice (some ⟨b24, 0 + 2, none⟩) 32 32) ((0 : Int)).toNat ((32 : Int)).toNat 1)])) (M.qFill (its := [raw b24 (cat [[(vI x21.Kind)], [(vI x21.Number)], Flat.enc x21.Tag]), raw b11 (Flat.enc s16.1), raw b1 (Flat.enc (Vector.replicate 32 (0 : UInt8)))]) (mk1 := [_]) (mk2 := []) (f := (fun v => osl NoB (r32 : List UInt8) v)) hM rfl hD) hsL (by decide)), hI.2.put hD rfl allN trivial⟩
      · intro a w ux26 D hE hI hD hdc hp
        have hM0 := hI.1
        have hM : M (Old w0) w0 w [raw b24 (cat [[(vI x21.Kind)], [(vI x21.Number)], Flat.enc x21.Tag]), raw b11 (Flat.enc s16.1), raw b1 (Flat.enc (Vector.replicate 32 (0 : UInt8))), opt (D 5) (osl NoB (([byteI x21.Kind] : List UInt8) : List UInt8) (ux26 5)), opt (D 8) (osl NoB (r32 : List UInt8) (ux26 8)), opt (D 11) (litP (ux26 11) 4 [(sliceV (.slice (some ⟨b11, 0, none⟩) 32 32) ((0 : Int)).toNat ((32 : Int)).toNat 1), (ux26 5), (ux26 8), (sliceV (.slice (some ⟨b24, 0 + 2, none⟩) 32 32) ((0 : Int)).toNat ((32 : Int)).toNat 1)])] := hI.1
        refine s_fieldAddr hE goes_none (by decide) rfl (fd65_2) ?_; intro a hE
        exact ⟨_, _, rfl, hE, M.qKeep hM0 rfl, hI.2.put hD rfl allN rfl⟩
      · intro a w ux26 D hE hI hD hdc hp
        have d9 : D 9 = true := hp 0 _ rfl rfl
        have g9 := hI.2 9 d9 _ rfl
        have f9 : ux26 9 = (ptr b24 (0 + 2)) := g9.2
        have hM0 := hI.1
        have hM : M (Old w0) w0 w [raw b24 (cat [[(vI x21.Kind)], [(vI x21.Number)], Flat.enc x21.Tag]), raw b11 (Flat.enc s16.1), raw b1 (Flat.enc (Vector.replicate 32 (0 : UInt8))), opt (D 5) (osl NoB (([byteI x21.Kind] : List UInt8) : List UInt8) (ux26 5)), opt (D 8) (osl NoB (r32 : List UInt8) (ux26 8)), opt (D 11) (litP (ux26 11) 4 [(sliceV (.slice (some ⟨b11, 0, none⟩) 32 32) ((0 : Int)).toNat ((32 : Int)).toNat 1), (ux26 5), (ux26 8), (sliceV (.slice (some ⟨b24, 0 + 2, none⟩) 32 32) ((0 : Int)).toNat ((32 : Int)).toNat 1)])] := hI.1
        refine s_sliceArr (N := 32) hE goes_none (by decide) (lk rfl f9) rfl rfl rfl rfl Try.underlying25 ty5 hb37 ?_; intro a hE
        exact ⟨_, _, rfl, hE, M.qKeep hM0 rfl, hI.2.put hD rfl allN rfl⟩
      · intro a w ux26 D hE hI hD hdc hp
        have d1 : D 1 = true := hp 0 _ rfl rfl
        have g1 := hI.2 1 d1 _ rfl
        have f1 : ux26 1 = (sliceV (.slice (some ⟨b11, 0, none⟩) 32 32) ((0 : Int)).toNat ((32 : Int)).toNat 1) := g1.2
        have d5 : D 5 = true := hp 1 _ rfl rfl
        have g5 := hI.2 5 d5 _ rfl
        have d8 : D 8 = true := hp 2 _ rfl rfl
        have g8 := hI.2 8 d8 _ rfl
        have d10 : D 10 = true := hp 3 _ rfl rfl
        have g10 := hI.2 10 d10 _ rfl
        have f10 : ux26 10 = (sliceV (.slice (some ⟨b24, 0 + 2, none⟩) 32 32) ((0 : Int)).toNat ((32 : Int)).toNat 1) := g10.2
        have hM0 := hI.1
        have hM : M (Old w0) w0 w [raw b24 (cat [[(vI x21.Kind)], [(vI x21.Number)], Flat.enc x21.Tag]), raw b11 (Flat.enc s16.1), raw b1 (Flat.enc (Vector.replicate 32 (0 : UInt8))), opt (D 5) (osl NoB (([byteI x21.Kind] : List UInt8) : List UInt8) (ux26 5)), opt (D 8) (osl NoB (r32 : List UInt8) (ux26 8)), opt (D 11) (litP (ux26 11) 4 [(sliceV (.slice (some ⟨b11, 0, none⟩) 32 32) ((0 : Int)).toNat ((32 : Int)).toNat 1), (ux26 5), (ux26 8), (sliceV (.slice (some ⟨b24, 0 + 2, none⟩) 32 32) ((0 : Int)).toNat ((32 : Int)).toNat 1)])] := hI.1
        have hM := hM.sure (pre := [_, _, _]) d5
        have hM := hM.sure (pre := [_, _, _, _]) d8
        refine s_buildLit (xs := [.tmp 19, .tmp 23, .tmp 26, .tmp 28]) (vs := [(sliceV (.slice (some ⟨b11, 0, none⟩) 32 32) ((0 : Int)).toNat ((32 : Int)).toNat 1), (ux26 5), (ux26 8), (sliceV (.slice (some ⟨b24, 0 + 2, none⟩) 32 32) ((0 : Int)).toNat ((32 : Int)).toNat 1)]) hE hM goes_none (by decide) (evs_of (evsC (lk rfl f1) (evsC rfl (evsC rfl (evsC (lk rfl f10) evsN))))) rfl Try.underlying45 ty50 (by decide) (fa_cons (sl_cells (ro_slice (At.sat (hM.rawAt (pre := [_])) (by simp) (by decide)) e28)) (fa_cons (sl_cells (hM.sl (pre := [_, _, _]) noB)) (fa_cons (sl_cells (hM.sl (pre := [_, _, _, _]) noB)) (fa_cons (sl_cells (ro_slice (At.sat (At.cat (pre := [[(vI x21.Kind)], [(vI x21.Number)]]) (seg := Flat.enc x21.Tag) (post := []) (hM.rawAt (pre := [])) (cl1 (n := 1) (m := 1) rfl (cl1 (n := 1) (m := 0) rfl cl0))) (by simp) (by decide)) e36)) fa_nil)))) ?_; intro b38 w a hM hE
        have hM := hM.unsure (pre := [_, _, _, _, _]) d8
        have hM := hM.unsure (pre := [_, _, _, _]) d5
        exact ⟨_, _, rfl, hE, M.litFill (its := [raw b24 (cat [[(vI x21.Kind)], [(vI x21.Number)], Flat.enc x21.Tag]), raw b11 (Flat.enc s16.1), raw b1 (Flat.enc (Vector.replicate 32 (0 : UInt8)))]) (mk := ([mkO 5 (fun v => osl NoB (([byteI x21.Kind] : List UInt8) : List UInt8) v), mkO 8 (fun v => osl NoB (r32 : List UInt8) v)] : Mk)) (i := 11) (ds := [5, 8]) (m := 4) (f := (fun us => [(sliceV (.slice (some ⟨b11, 0, none⟩) 32 32) ((0 : Int)).toNat ((32 : Int)).toNat 1), (us.getD 0 undef), (us.getD 1 undef), (sliceV (.slice (some ⟨b24, 0 + 2, none⟩) 32 32) ((0 : Int)).toNat ((32 : Int)).toNat 1)])) hM rfl hD (by decide), hI.2.put hD rfl (allC d5 (allC d8 allN)) trivial⟩
      · intro a w ux26 D hE hI hall
        have hM : M (Old w0) w0 w [raw b24 (cat [[(vI x21.Kind)], [(vI x21.Number)], Flat.enc x21.Tag]), raw b11 (Flat.enc s16.1), raw b1 (Flat.enc (Vector.replicate 32 (0 : UInt8))), opt (D 5) (osl NoB (([byteI x21.Kind] : List UInt8) : List UInt8) (ux26 5)), opt (D 8) (osl NoB (r32 : List UInt8) (ux26 8)), opt (D 11) (litP (ux26 11) 4 [(sliceV (.slice (some ⟨b11, 0, none⟩) 32 32) ((0 : Int)).toNat ((32 : Int)).toNat 1), (ux26 5), (ux26 8), (sliceV (.slice (some ⟨b24, 0 + 2, none⟩) 32 32) ((0 : Int)).toNat ((32 : Int)).toNat 1)])] := hI.1
        have d0 : D 0 = true := hall 0 (by decide)
        have d1 : D 1 = true := hall 1 (by decide)
        have d2 : D 2 = true := hall 2 (by decide)
        have d3 : D 3 = true := hall 3 (by decide)
        have d4 : D 4 = true := hall 4 (by decide)
        have d5 : D 5 = true := hall 5 (by decide)
        have d6 : D 6 = true := hall 6 (by decide)
        have d7 : D 7 = true := hall 7 (by decide)
        have d8 : D 8 = true := hall 8 (by decide)
        have d9 : D 9 = true := hall 9 (by decide)
        have d10 : D 10 = true := hall 10 (by decide)
        have d11 : D 11 = true := hall 11 (by decide)
        have f0 : ux26 0 = v0_1 := (hI.2 0 d0 _ rfl).2
        have f1 : ux26 1 = (sliceV (.slice (some ⟨b11, 0, none⟩) 32 32) ((0 : Int)).toNat ((32 : Int)).toNat 1) := (hI.2 1 d1 _ rfl).2
        have f2 : ux26 2 = (ptr b24 (0 + 0)) := (hI.2 2 d2 _ rfl).2
        have f3 : ux26 3 = (vI x21.Kind) := (hI.2 3 d3 _ rfl).2
        have f4 : ux26 4 = (vB (byteI x21.Kind)) := (hI.2 4 d4 _ rfl).2
        have f6 : ux26 6 = (ptr b24 (0 + 1)) := (hI.2 6 d6 _ rfl).2
        have f7 : ux26 7 = (vI x21.Number) := (hI.2 7 d7 _ rfl).2
        have f9 : ux26 9 = (ptr b24 (0 + 2)) := (hI.2 9 d9 _ rfl).2
        have f10 : ux26 10 = (sliceV (.slice (some ⟨b24, 0 + 2, none⟩) 32 32) ((0 : Int)).toNat ((32 : Int)).toNat 1) := (hI.2 10 d10 _ rfl).2
        have hM := hM.sure (pre := [_, _, _]) d5
        have hM := hM.sure (pre := [_, _, _, _]) d8
        have hM := (hM.sure (pre := [_, _, _, _, _]) d11).pull
        obtain ⟨b40, f41, hM⟩ := M.litOpen hM
        have hE := hE.sub (e' := [(18, v0_1), (19, (sliceV (.slice (some ⟨b11, 0, none⟩) 32 32) ((0 : Int)).toNat ((32 : Int)).toNat 1)), (20, (ptr b24 (0 + 0))), (21, (vI x21.Kind)), (22, (vB (byteI x21.Kind))), (23, (ux26 5)), (24, (ptr b24 (0 + 1))), (25, (vI x21.Number)), (26, (ux26 8)), (27, (ptr b24 (0 + 2))), (28, (sliceV (.slice (some ⟨b24, 0 + 2, none⟩) 32 32) ((0 : Int)).toNat ((32 : Int)).toNat 1)), (29, (Value.slice (some ⟨b40, 0, none⟩) 4 4)), (0, v0_1), (4, (ptr b1 0)), (5, (ptr b11 0)), (7, (ptr b24 0)), (12, v1_1), (13, (vI (p1.length : Int))), (14, (vI s16.2)), (15, (vT (decide (s16.2 < (p1.length : Int))))), (16, (ptr (sb v1_1) (so v1_1 + (s16.2).toNat * 34))), (17, (Value.agg (Flat.enc x21).toArray))]) ⟨lk rfl f0, lk rfl f1, lk rfl f2, lk rfl f3, lk rfl f4, rfl, lk rfl f6, lk rfl f7, rfl, lk rfl f9, lk rfl f10, lk rfl f41, rfl, rfl, rfl, rfl, rfl, rfl, rfl, rfl, rfl, rfl, trivial⟩
        obtain ⟨r42, e43, hs17⟩ := bind_some hs17
        refine s_call (vs := [v0_1, (Value.slice (some ⟨b40, 0, none⟩) 4 4)]) hE goes_none (by decide) rfl cb70 (c_impl_engine_digest _ p0 v0_1 (hM.rdo hv0_1) ([l27, ([byteI x21.Kind] : List UInt8), r32, l35] : (List (List UInt8))) (Value.slice (some ⟨b40, 0, none⟩) 4 4) (ro_lit (hM.rawAt (pre := [])) (hM.rawLt (pre := [])) ⟨(ro_slice (At.sat (hM.rawAt (pre := [_, _])) (by simp) (by decide)) e28), (hM.sl (pre := [_, _, _, _]) noB), (hM.sl (pre := [_, _, _, _, _]) noB), (ro_slice (At.sat (At.cat (pre := [[(vI x21.Kind)], [(vI x21.Number)]]) (seg := Flat.enc x21.Tag) (post := []) (hM.rawAt (pre := [_])) (cl1 (n := 1) (m := 1) rfl (cl1 (n := 1) (m := 0) rfl cl0))) (by simp) (by decide)) e36), trivial⟩ rfl) r42 e43) ?_
        rintro v w a ⟨rfl, hK⟩ hE
        have hM := hM.keep hK
        have hM := hM.pull (pre := [_, _])
        refine s_store (seg := Flat.enc r42) (cs' := Flat.enc r42) hE hM goes_none rfl rfl rfl ty25 (Flat.len _) (Nat.le_of_eq ((Nat.zero_add _).trans (Eq.trans (Flat.len _) (Eq.symm (Flat.len _))))) (Flat.cell _) (splice_all (Eq.trans (Flat.len _) (Eq.symm (Flat.len _)))) ?_; intro w a hM hE
        refine c_fin0 ?_
        refine c_nb ?_
        refine c_nx ?_
        refine wp_region_lit ?_
        refine s_int hE goes_none (by decide) rfl rfl rfl ?_; intro a hE
        refine s_move hE goes_none (by decide) rfl ?_; intro a hE
        refine c_fin0 ?_
        refine c_mid ?_
        have hM := hM.pull (pre := [_, _, _])
        have hM := hM.pull (pre := [_])
        have hM := M.fst (l := [_, _]) hM
        exact ⟨_, (Option.some.inj hs17).symm, hE.sub ⟨rfl, rfl, rfl, rfl, rfl, rfl, trivial⟩, hM⟩
    · intro hb20
      have hs17 := ite_f hs17 hb20
      refine wp_exit (e_then (e_then (e_eq ?_)))
      have ht44 := hx18 _ (Option.some.inj hs17).symm
      subst ht44
      refine c_mid ?_
      exact ⟨hE.sub ⟨rfl, rfl, trivial⟩, hM⟩
  · skip
    rintro a w ⟨hE, hM⟩
    refine c_nx ?_
    refine c_region ?_
    refine s_loadA (cs := Flat.enc j13) hE goes_none (by decide) rfl ty25 rfl (hM.rawAt (pre := [])) (Flat.len _) ?_; intro a hE
    have hM := hM.pull (pre := [_])
    refine s_store (seg := Flat.enc j13) (cs' := Flat.enc j13) hE hM goes_none rfl rfl rfl ty25 (Flat.len _) (Nat.le_of_eq ((Nat.zero_add _).trans (Eq.trans (Flat.len _) (Eq.symm (Flat.len _))))) (Flat.cell _) (splice_all (Eq.trans (Flat.len _) (Eq.symm (Flat.len _)))) ?_; intro w a hM hE
    refine c_fin ?_
    have hr := Option.some.inj hF15
    subst hr
    have hq45 : ResIs Try.prog _ _ (.cell 4 25) _ := res_cell hE rfl ty25 rfl (hM.rawAt (pre := [])) (Flat.len _) rfl
    have hM := M.fst (l := []) hM
    exact wp_ret (k_ret1 hE rfl hq45 ⟨_, rfl, rfl, hM.kept⟩)
noncomputable def F_impl_NewVault (p0 : (Vector UInt8 16)) : Option (GVault) :=
  ((F_impl_vaultEngine).bind fun (r13 : (Ref Gengine)) => (F_impl_engine_head r13 ([] : (List GEvent))).bind fun (r16 : (Vector UInt8 32)) => some (([p0] : List (Vector UInt8 16)), 1, r16) : Option ((List (Vector UInt8 16)) × Int × (Vector UInt8 32))).bind fun (j5 : (List (Vector UInt8 16)) × Int × (Vector UInt8 32)) => some (⟨j5.1, j5.2.1, [], [], j5.2.2⟩ : GVault)
set_option maxRecDepth 20000 in
set_option maxHeartbeats 400000 in
theorem c_impl_NewVault (w0 : World) (p0 : (Vector UInt8 16)) (r : GVault) (hF : F_impl_NewVault p0 = some r) :
    Calls Try.prog 14 [(Value.agg (Flat.enc p0).toArray)].toArray w0 (fun en w' => ∃ v, en = .returned v ∧ (∃ (y1 : Value) (y2 : Value) (y3 : Value), v = (Value.agg (cat [[y1], [(vI r.Next)], [y2], [y3], Flat.enc r.Head]).toArray) ∧ Fr w0 w' [osl NoB (r.Keys : List (Vector UInt8 16)) y1, osl NoB (r.Records : List GRecord) y2, osl NoB (r.Events : List GEvent) y3] ∧ Kept (Old w0) w0 w')) := by
  refine c_enter (n := 8) Try.func14 rfl rfl (Nat.le_of_ble_eq_true rfl) rfl ?_
  intro a hE
  have hM := M.start w0
  unfold F_impl_NewVault at hF
  refine c_region ?_
  refine s_box (cs := Flat.enc p0) hE hM goes_none (by decide) rfl rfl ?_; intro b1 w a hM hE
  refine s_alloc hE hM goes_none (by decide) ty37 ?_; intro b3 w a hM hE
  refine c_fin ?_
  obtain ⟨j5, hl6, hF7⟩ := bind_some hF
  refine c_join (fun a w => ∃ (u8 : Value), Env 8 a [(2, (ptr b3 0))] ∧ M (Old w0) w0 w [raw b3 (cat [[u8], [(vI j5.2.1)], [(Value.slice none 0 0)], [(Value.slice none 0 0)], Flat.enc j5.2.2]), osl NoB (j5.1 : List (Vector UInt8 16)) u8]) ?_ ?_
  · skip
    obtain ⟨r13, e14, hl6⟩ := bind_some hl6
    obtain ⟨r16, e17, hl6⟩ := bind_some hl6
    refine c_draw2 (n := 8) (hd := [_, _, _, _]) (tl := [_, _]) (its := [raw b3 (cat [[(Value.slice none 0 0)], [(vI 0)], [(Value.slice none 0 0)], [(Value.slice none 0 0)], Flat.enc (Vector.replicate 32 (0 : UInt8))]), raw b1 (Flat.enc p0)]) hmix rfl rfl [3, 4, 5, 6] (by decide) [(1, fun v => osl NoB (([p0] : List (Vector UInt8 16)) : List (Vector UInt8 16)) v), (2, fun v => own NoB (r13 : (Ref Gengine)) [v])] rfl (fun j => ([fun v => v = (Value.agg (Flat.enc p0).toArray), fun v => True, fun v => True, fun v => v = (Value.agg (Flat.enc r16).toArray)] : List (Value → Prop)).getD j (fun _ => True)) hE hM.drew (steps_of (steps_cons ?_ (steps_cons ?_ (steps_cons ?_ (steps_cons ?_ steps_nil))))) ?_
    · intro a w ux10 D hE hM hD hp
      have hM0 := hM
      have hM : M (Old w0) w0 w [raw b3 (cat [[(Value.slice none 0 0)], [(vI 0)], [(Value.slice none 0 0)], [(Value.slice none 0 0)], Flat.enc (Vector.replicate 32 (0 : UInt8))]), raw b1 (Flat.enc p0), opt (D 1) (osl NoB (([p0] : List (Vector UInt8 16)) : List (Vector UInt8 16)) (ux10 1)), opt (D 2) (own NoB (r13 : (Ref Gengine)) [(ux10 2)])] := hM
      refine s_loadA (cs := Flat.enc p0) hE goes_none (by decide) rfl ty39 rfl (hM.rawAt (pre := [_])) (Flat.len _) ?_; intro a hE
      exact ⟨_, _, rfl, hE, rfl, hM0.optKeep rfl⟩
    · intro a w ux10 D hE hM hD hp
      have f0 : ux10 0 = (Value.agg (Flat.enc p0).toArray) := (hp 0 _ rfl rfl).2
      have hM0 := hM
      have hM : M (Old w0) w0 w [raw b3 (cat [[(Value.slice none 0 0)], [(vI 0)], [(Value.slice none 0 0)], [(Value.slice none 0 0)], Flat.enc (Vector.replicate 32 (0 : UInt8))]), raw b1 (Flat.enc p0), opt (D 1) (osl NoB (([p0] : List (Vector UInt8 16)) : List (Vector UInt8 16)) (ux10 1)), opt (D 2) (own NoB (r13 : (Ref Gengine)) [(ux10 2)])] := hM
      refine s_buildF (xs := [.tmp 3]) (l := ([p0] : List (Vector UInt8 16))) (vs := [(Value.agg (Flat.enc p0).toArray)]) hE hM goes_none (by decide) (evs_of (evsC (lk rfl f0) evsN)) rfl Try.underlying34 ty39 rfl (by decide) rfl ?_; intro u11 w a hM hE
      exact ⟨_, _, rfl, hE, trivial, M.optFill (mk1 := []) (mk2 := [_]) (f := (fun v => osl NoB (([p0] : List (Vector UInt8 16)) : List (Vector UInt8 16)) v)) hM rfl hD⟩
    · intro a w ux10 D hE hM hD hp
      have hM0 := hM
      have hM : M (Old w0) w0 w [raw b3 (cat [[(Value.slice none 0 0)], [(vI 0)], [(Value.slice none 0 0)], [(Value.slice none 0 0)], Flat.enc (Vector.replicate 32 (0 : UInt8))]), raw b1 (Flat.enc p0), opt (D 1) (osl NoB (([p0] : List (Vector UInt8 16)) : List (Vector UInt8 16)) (ux10 1)), opt (D 2) (own NoB (r13 : (Ref Gengine)) [(ux10 2)])] := hM
      refine s_call (vs := []) hE goes_none (by decide) rfl cb34 (c_impl_vaultEngine _  r13 e14) ?_
      rintro _ w a ⟨_, rfl, hFr, hK⟩ hE
      have hM := hM0.add hK hFr
      exact ⟨_, _, rfl, hE, trivial, M.optFill (mk1 := [_]) (mk2 := []) (f := (fun v => own NoB (r13 : (Ref Gengine)) [v])) hM rfl hD⟩
    · intro a w ux10 D hE hM hD hp
      have d2 := (hp 0 _ rfl rfl).1
      have hM0 := hM
      have hM : M (Old w0) w0 w [raw b3 (cat [[(Value.slice none 0 0)], [(vI 0)], [(Value.slice none 0 0)], [(Value.slice none 0 0)], Flat.enc (Vector.replicate 32 (0 : UInt8))]), raw b1 (Flat.enc p0), opt (D 1) (osl NoB (([p0] : List (Vector UInt8 16)) : List (Vector UInt8 16)) (ux10 1)), opt (D 2) (own NoB (r13 : (Ref Gengine)) [(ux10 2)])] := hM
      have hM := hM.sure (pre := [_, _, _]) d2
      refine s_call (vs := [(ux10 2), (Value.slice none 0 0)]) hE goes_none (by decide) rfl cb35 (c_impl_engine_head _ r13 (ux10 2) (hM.ro (pre := [_, _, _]) noB) ([] : (List GEvent)) (Value.slice none 0 0) ro_nil r16 e17) ?_
      rintro v w a ⟨rfl, hK⟩ hE
      exact ⟨_, _, rfl, hE, rfl, (hM0.keep hK).optKeep rfl⟩
    · intro a w ux10 hE hM hg
      have f0 : ux10 0 = (Value.agg (Flat.enc p0).toArray) := hg 0 (by decide)
      have f3 : ux10 3 = (Value.agg (Flat.enc r16).toArray) := hg 3 (by decide)
      have hM : M (Old w0) w0 w [raw b3 (cat [[(Value.slice none 0 0)], [(vI 0)], [(Value.slice none 0 0)], [(Value.slice none 0 0)], Flat.enc (Vector.replicate 32 (0 : UInt8))]), raw b1 (Flat.enc p0), osl NoB (([p0] : List (Vector UInt8 16)) : List (Vector UInt8 16)) (ux10 1), own NoB (r13 : (Ref Gengine)) [(ux10 2)]] := hM
      have hE := hE.sub (e' := [(3, (Value.agg (Flat.enc p0).toArray)), (4, (ux10 1)), (5, (ux10 2)), (6, (Value.agg (Flat.enc r16).toArray)), (0, (Value.agg (Flat.enc p0).toArray)), (1, (ptr b1 0)), (2, (ptr b3 0))]) ⟨lk rfl f0, rfl, rfl, lk rfl f3, rfl, rfl, rfl, trivial⟩
      refine s_buildStr (parts := [(0, .tmp 4), (1, .const (vI 1)), (4, .tmp 6)]) (vs := [(0, (ux10 1)), (1, (vI 1)), (4, (Value.agg (Flat.enc r16).toArray))]) (cs := cat [[(ux10 1)], [(vI 1)], [(Value.slice none 0 0)], [(Value.slice none 0 0)], Flat.enc r16]) hE goes_none (by decide) rfl rfl ty37 pl37 (fill_step (pre := []) (seg := [(Value.slice none 0 0)]) (seg' := [(ux10 1)]) (post := [[(vI 0)], [(Value.slice none 0 0)], [(Value.slice none 0 0)], Flat.enc (Vector.replicate 32 (0 : UInt8))]) rfl cl0 rfl rfl (sl_cells (hM.sl (pre := [_, _]) noB)) (fill_step (pre := [[(ux10 1)]]) (seg := [(vI 0)]) (seg' := [(vI 1)]) (post := [[(Value.slice none 0 0)], [(Value.slice none 0 0)], Flat.enc (Vector.replicate 32 (0 : UInt8))]) rfl (cl1 (n := 1) (m := 0) rfl cl0) rfl rfl rfl (fill_step (pre := [[(ux10 1)], [(vI 1)], [(Value.slice none 0 0)], [(Value.slice none 0 0)]]) (seg := Flat.enc (Vector.replicate 32 (0 : UInt8))) (seg' := Flat.enc r16) (post := []) rfl (cl1 (n := 1) (m := 3) rfl (cl1 (n := 1) (m := 2) rfl (cl1 (n := 1) (m := 1) rfl (cl1 (n := 1) (m := 0) rfl cl0)))) (Flat.len _) (Flat.len _) rfl fill_nil))) ?_; intro a hE
      refine s_store (seg := cat [[(ux10 1)], [(vI 1)], [(Value.slice none 0 0)], [(Value.slice none 0 0)], Flat.enc r16]) (cs' := cat [[(ux10 1)], [(vI 1)], [(Value.slice none 0 0)], [(Value.slice none 0 0)], Flat.enc r16]) hE hM goes_none rfl rfl rfl ty37 (cat_len (cl1 (n := 1) (m := 35) rfl (cl1 (n := 1) (m := 34) rfl (cl1 (n := 1) (m := 33) rfl (cl1 (n := 1) (m := 32) rfl (cl1 (n := 32) (m := 0) (Flat.len _) cl0)))))) (Nat.le_of_eq ((Nat.zero_add _).trans (Eq.trans (cat_len (cl1 (n := 1) (m := 35) rfl (cl1 (n := 1) (m := 34) rfl (cl1 (n := 1) (m := 33) rfl (cl1 (n := 1) (m := 32) rfl (cl1 (n := 32) (m := 0) (Flat.len _) cl0)))))) (Eq.symm (cat_len (cl1 (n := 1) (m := 35) rfl (cl1 (n := 1) (m := 34) rfl (cl1 (n := 1) (m := 33) rfl (cl1 (n := 1) (m := 32) rfl (cl1 (n := 32) (m := 0) (Flat.len _) cl0)))))))))) (cat_cell (cc1 (Rep.cell (hM.sl (pre := [_, _]) noB)) (cc1 (Flat.cell (1 : Int)) (cc1 cellNil (cc1 cellNil (cc1 (Flat.cell _) cc0)))))) (splice_all (Eq.trans (cat_len (cl1 (n := 1) (m := 35) rfl (cl1 (n := 1) (m := 34) rfl (cl1 (n := 1) (m := 33) rfl (cl1 (n := 1) (m := 32) rfl (cl1 (n := 32) (m := 0) (Flat.len _) cl0)))))) (Eq.symm (cat_len (cl1 (n := 1) (m := 35) rfl (cl1 (n := 1) (m := 34) rfl (cl1 (n := 1) (m := 33) rfl (cl1 (n := 1) (m := 32) rfl (cl1 (n := 32) (m := 0) (Flat.len _) cl0))))))))) ?_; intro w a hM hE
      refine c_fin0 ?_
      have ht18 := Option.some.inj hl6
      subst ht18
      refine c_mid ?_
      have hM := hM.pull (pre := [_, _])
      have hM := hM.pull (pre := [_])
      have hM := M.fst (l := [_, _]) hM
      exact ⟨(ux10 1), hE.sub ⟨rfl, trivial⟩, hM⟩
  · skip
    rintro a w ⟨u8, hE, hM⟩
    have hM := M.nilS (α := GRecord) NoB noB hM
    have hM := M.nilS (α := GEvent) NoB noB hM
    have hr := Option.some.inj hF7
    subst hr
    have hq21 : ResIs Try.prog _ _ (.cell 2 37) _ := res_cell hE rfl ty37 rfl (hM.rawAt (pre := [_, _])) (cat_len (cl1 (n := 1) (m := 35) rfl (cl1 (n := 1) (m := 34) rfl (cl1 (n := 1) (m := 33) rfl (cl1 (n := 1) (m := 32) rfl (cl1 (n := 32) (m := 0) (Flat.len _) cl0)))))) rfl
    have hM := hM.pull (pre := [_])
    have hM := hM.pull (pre := [_, _, _])
    have hM := M.fst (l := [_, _, _]) hM
    exact wp_ret (k_ret1 hE rfl hq21 ⟨_, rfl, u8, (Value.slice none 0 0), (Value.slice none 0 0), rfl, hM.outF (locN1 (locN1 (locN1 locN0))), hM.kept⟩)
noncomputable def L0_laws_eqBlock (p0 : (Vector UInt8 16)) (p1 : (Vector UInt8 16)) (s9 : Int) : Option (Fl Int (Fl Unit Bool)) :=
  if (decide (s9 < 16)) = true then (((vidx p0 s9).bind fun (x19 : UInt8) => (vidx p1 s9).bind fun (x22 : UInt8) => some (x19 != x22) : Option (Bool)).bind fun (j14 : Bool) => if j14 = true then (some (Fl.ex (Fl.ex false))) else (some (Fl.nx (wr (s9 + 1))))) else (some (Fl.ex (Fl.nx ())))
noncomputable def F_laws_eqBlock (p0 : (Vector UInt8 16)) (p1 : (Vector UInt8 16)) : Option (Bool) :=
  (iter (L0_laws_eqBlock p0 p1) 0 : Option (Fl Unit Bool)).bind fun (j5 : Fl Unit Bool) => j5.el (fun (s8 : Unit) => some true) (fun r => some r)
set_option maxRecDepth 20000 in
set_option maxHeartbeats 400000 in
theorem c_laws_eqBlock (w0 : World) (p0 : (Vector UInt8 16)) (p1 : (Vector UInt8 16)) (r : Bool) (hF : F_laws_eqBlock p0 p1 = some r) :
    Calls Try.prog 72 [(Value.agg (Flat.enc p0).toArray), (Value.agg (Flat.enc p1).toArray)].toArray w0 (fun en w' => ∃ v, en = .returned v ∧ (v = (vT r) ∧ Kept (Old w0) w0 w')) := by
  refine c_enter (n := 17) Try.func72 rfl rfl (Nat.le_of_ble_eq_true rfl) rfl ?_
  intro a hE
  have hM := M.start w0
  unfold F_laws_eqBlock at hF
  refine c_region ?_
  refine s_box (cs := Flat.enc p0) hE hM goes_none (by decide) rfl rfl ?_; intro b1 w a hM hE
  refine s_box (cs := Flat.enc p1) hE hM goes_none (by decide) rfl rfl ?_; intro b3 w a hM hE
  refine s_assign hE goes_none (by decide) rfl ?_; intro a hE
  refine c_fin ?_
  refine wp_seq ?_
  refine c_region ?_
  refine s_assign hE goes_none (by decide) rfl ?_; intro a hE
  refine c_fin ?_
  obtain ⟨j5, hl6, hF7⟩ := bind_some hF
  refine c_cut (fun a w => ∃ s8 : Unit, j5 = Fl.nx s8 ∧ Env 17 a [] ∧ M (Old w0) w0 w []) ?_ ?_
  · skip
    refine wp_block ?_
    refine c_loop (fun (s9 : Int) a w => Env 17 a [(2, (ptr b1 0)), (3, (ptr b3 0)), (5, (vI s9))] ∧ M (Old w0) w0 w [raw b3 (Flat.enc p1), raw b1 (Flat.enc p0)]) hl6 ⟨hE.sub ⟨rfl, rfl, rfl, trivial⟩, hM⟩ ?_
    rintro s9 a w ⟨hE, hM⟩ o12 hs10 hx11
    unfold L0_laws_eqBlock at hs10
    refine wp_seq ?_
    refine c_region ?_
    refine s_move hE goes_none (by decide) rfl ?_; intro a hE
    refine s_int hE goes_none (by decide) rfl rfl rfl ?_; intro a hE
    refine c_fin ?_
    refine c_cond hE rfl ?_ ?_
    · intro hb13
      have hs10 := ite_t hs10 hb13
      refine wp_skip ?_
      refine c_nx ?_
      refine wp_seq ?_
      refine wp_block ?_
      obtain ⟨j14, hl15, hF16⟩ := bind_some hs10
      refine c_join (fun a w => Env 17 a [(2, (ptr b1 0)), (3, (ptr b3 0)), (5, (vI s9)), (16, (vT j14))] ∧ M (Old w0) w0 w [raw b3 (Flat.enc p1), raw b1 (Flat.enc p0)]) ?_ ?_
      · skip
        obtain ⟨x19, e20, hl15⟩ := bind_some hl15
        have hi18 := vidx_some e20
        obtain ⟨x22, e23, hl15⟩ := bind_some hl15
        have hi21 := vidx_some e23
        refine c_draw (n := 17) (hd := [_, _, _, _, _, _, _]) (tl := []) hmix rfl rfl [10, 11, 12, 13, 14, 15, 16] (by decide) (fun w => M (Old w0) w0 w [raw b3 (Flat.enc p1), raw b1 (Flat.enc p0)]) (fun j => ([fun v _ => v = (vI s9), fun v _ => v = (ptr b1 (0 + (s9).toNat * 1)), fun v _ => v = (vB x19), fun v _ => v = (vI s9), fun v _ => v = (ptr b3 (0 + (s9).toNat * 1)), fun v _ => v = (vB x22), fun v _ => v = (vT (x19 != x22))] : List (Value → World → Prop)).getD j (fun _ _ => True)) (fun _ _ h hk => h.keep hk) (gup (gupE (gupE (gupE (gupE (gupE (gupE (gupE gupN)))))))) hE hM.drew (steps_of (steps_cons ?_ (steps_cons ?_ (steps_cons ?_ (steps_cons ?_ (steps_cons ?_ (steps_cons ?_ (steps_cons ?_ steps_nil)))))))) ?_
        · intro a w ux17 hE hM hp
          refine s_move hE goes_none (by decide) rfl ?_; intro a hE
          exact ⟨Kept.refl _ _, _, _, rfl, hE, rfl⟩
        · intro a w ux17 hE hM hp
          have f0 : ux17 0 = (vI s9) := hp 0 _ rfl rfl
          refine s_indexA hE goes_none (by decide) rfl (lk rfl f0) Try.underlying39 ty5 hi18.1 ?_; intro a hE
          exact ⟨Kept.refl _ _, _, _, rfl, hE, rfl⟩
        · intro a w ux17 hE hM hp
          have f1 : ux17 1 = (ptr b1 (0 + (s9).toNat * 1)) := hp 0 _ rfl rfl
          refine s_load (v := (vB x19)) hE goes_none (by decide) (lk rfl f1) ty5 rfl (At.vec (hM.rawAt (pre := [_])) hi18.2) ?_; intro a hE
          exact ⟨Kept.refl _ _, _, _, rfl, hE, rfl⟩
        · intro a w ux17 hE hM hp
          refine s_move hE goes_none (by decide) rfl ?_; intro a hE
          exact ⟨Kept.refl _ _, _, _, rfl, hE, rfl⟩
        · intro a w ux17 hE hM hp
          have f3 : ux17 3 = (vI s9) := hp 0 _ rfl rfl
          refine s_indexA hE goes_none (by decide) rfl (lk rfl f3) Try.underlying39 ty5 hi21.1 ?_; intro a hE
          exact ⟨Kept.refl _ _, _, _, rfl, hE, rfl⟩
        · intro a w ux17 hE hM hp
          have f4 : ux17 4 = (ptr b3 (0 + (s9).toNat * 1)) := hp 0 _ rfl rfl
          refine s_load (v := (vB x22)) hE goes_none (by decide) (lk rfl f4) ty5 rfl (At.vec (hM.rawAt (pre := [])) hi21.2) ?_; intro a hE
          exact ⟨Kept.refl _ _, _, _, rfl, hE, rfl⟩
        · intro a w ux17 hE hM hp
          have f2 : ux17 2 = (vB x19) := hp 0 _ rfl rfl
          have f5 : ux17 5 = (vB x22) := hp 1 _ rfl rfl
          refine s_int hE goes_none (by decide) (lk rfl f2) (lk rfl f5) (bB_neq x19 x22) ?_; intro a hE
          exact ⟨Kept.refl _ _, _, _, rfl, hE, rfl⟩
        · intro a w ux17 hE hM hg
          have f0 : ux17 0 = (vI s9) := hg 0 (by decide)
          have f1 : ux17 1 = (ptr b1 (0 + (s9).toNat * 1)) := hg 1 (by decide)
          have f2 : ux17 2 = (vB x19) := hg 2 (by decide)
          have f3 : ux17 3 = (vI s9) := hg 3 (by decide)
          have f4 : ux17 4 = (ptr b3 (0 + (s9).toNat * 1)) := hg 4 (by decide)
          have f5 : ux17 5 = (vB x22) := hg 5 (by decide)
          have f6 : ux17 6 = (vT (x19 != x22)) := hg 6 (by decide)
          have hE := hE.sub (e' := [(10, (vI s9)), (11, (ptr b1 (0 + (s9).toNat * 1))), (12, (vB x19)), (13, (vI s9)), (14, (ptr b3 (0 + (s9).toNat * 1))), (15, (vB x22)), (16, (vT (x19 != x22))), (2, (ptr b1 0)), (3, (ptr b3 0)), (5, (vI s9)), (6, (vI s9)), (7, (vT (decide (s9 < 16))))]) ⟨lk rfl f0, lk rfl f1, lk rfl f2, lk rfl f3, lk rfl f4, lk rfl f5, lk rfl f6, rfl, rfl, rfl, rfl, rfl, trivial⟩
          refine c_fin0 ?_
          have ht24 := Option.some.inj hl15
          subst ht24
          refine c_mid ?_
          exact ⟨hE.sub ⟨rfl, rfl, rfl, rfl, trivial⟩, hM⟩
      · skip
        rintro a w ⟨hE, hM⟩
        refine c_cond hE rfl ?_ ?_
        · intro hb25
          have hF16 := ite_t hF16 hb25
          refine c_region ?_
          refine s_assign hE goes_none (by decide) rfl ?_; intro a hE
          refine c_fin ?_
          have ht26 := hx11 _ (Option.some.inj hF16).symm
          subst ht26
          have hr := Option.some.inj hF7
          subst hr
          have hM := M.fst (l := []) hM
          exact wp_ret (r_inb (r_then (r_then (r_inb (r_then (r_then (k_ret1 hE rfl (res_tmp hE rfl) ⟨_, rfl, rfl, hM.kept⟩)))))))
        · intro hb25
          have hF16 := ite_f hF16 hb25
          refine wp_skip ?_
          refine c_nb ?_
          refine c_nx ?_
          refine wp_region_lit ?_
          refine s_move hE goes_none (by decide) rfl ?_; intro a hE
          refine s_int hE goes_none (by decide) rfl rfl rfl ?_; intro a hE
          refine s_assign hE goes_none (by decide) rfl ?_; intro a hE
          refine c_fin0 ?_
          refine c_mid ?_
          exact ⟨_, (Option.some.inj hF16).symm, hE.sub ⟨rfl, rfl, rfl, trivial⟩, hM⟩
    · intro hb13
      have hs10 := ite_f hs10 hb13
      refine wp_exit (e_then (e_then (e_eq ?_)))
      have ht27 := hx11 _ (Option.some.inj hs10).symm
      subst ht27
      refine c_mid ?_
      have hM := M.fst (l := []) hM
      exact ⟨(), rfl, hE.sub trivial, hM⟩
  · skip
    rintro a w ⟨s8, ht, hE, hM⟩
    subst ht
    have hF7 := el_nx hF7
    refine c_nx ?_
    refine c_region ?_
    refine s_assign hE goes_none (by decide) rfl ?_; intro a hE
    refine c_fin ?_
    have hr := Option.some.inj hF7
    subst hr
    exact wp_ret (k_ret1 hE rfl (res_tmp hE rfl) ⟨_, rfl, rfl, hM.kept⟩)
noncomputable def L0_laws_eqBlockS (p0 : (List (Vector UInt8 16))) (p1 : (List (Vector UInt8 16))) (s6 : Int) : Option (Fl Int (Fl Unit Bool)) :=
  if (decide (s6 < (p0.length : Int))) = true then (((idx p0 s6).bind fun (x15 : (Vector UInt8 16)) => (idx p1 s6).bind fun (x18 : (Vector UInt8 16)) => (F_laws_eqBlock x15 x18).bind fun (r21 : Bool) => some (!r21) : Option (Bool)).bind fun (j11 : Bool) => if j11 = true then (some (Fl.ex (Fl.ex false))) else (some (Fl.nx (wr (s6 + 1))))) else (some (Fl.ex (Fl.nx ())))
noncomputable def F_laws_eqBlockS (p0 : (List (Vector UInt8 16))) (p1 : (List (Vector UInt8 16))) : Option (Bool) :=
  if ((p0.length : Int) != (p1.length : Int)) = true then (some false) else ((iter (L0_laws_eqBlockS p0 p1) 0 : Option (Fl Unit Bool)).bind fun (j2 : Fl Unit Bool) => j2.el (fun (s5 : Unit) => some true) (fun r => some r))
set_option maxRecDepth 20000 in
set_option maxHeartbeats 400000 in
theorem c_laws_eqBlockS (w0 : World) (p0 : (List (Vector UInt8 16))) (v0_1 : Value) (hv0_1 : Ro w0 p0 [v0_1]) (p1 : (List (Vector UInt8 16))) (v1_1 : Value) (hv1_1 : Ro w0 p1 [v1_1]) (r : Bool) (hF : F_laws_eqBlockS p0 p1 = some r) :
    Calls Try.prog 37 [v0_1, v1_1].toArray w0 (fun en w' => ∃ v, en = .returned v ∧ (v = (vT r) ∧ Kept (Old w0) w0 w')) := by
  refine c_enter (n := 27) Try.func37 rfl rfl (Nat.le_of_ble_eq_true rfl) rfl ?_
  intro a hE
  have hM := M.start w0
  unfold F_laws_eqBlockS at hF
  refine c_region ?_
  refine s_assign hE goes_none (by decide) rfl ?_; intro a hE
  refine c_fin ?_
  refine wp_seq ?_
  refine c_region ?_
  refine s_move hE goes_none (by decide) rfl ?_; intro a hE
  refine s_len hE goes_none (by decide) rfl Try.underlying34 (hM.rd hv0_1) ?_; intro a hE
  refine s_move hE goes_none (by decide) rfl ?_; intro a hE
  refine s_len hE goes_none (by decide) rfl Try.underlying34 (hM.rd hv1_1) ?_; intro a hE
  refine s_int hE goes_none (by decide) rfl rfl rfl ?_; intro a hE
  refine c_fin ?_
  refine c_cond hE rfl ?_ ?_
  · intro hb1
    have hF := ite_t hF hb1
    refine c_region ?_
    refine s_assign hE goes_none (by decide) rfl ?_; intro a hE
    refine c_fin ?_
    have hr := Option.some.inj hF
    subst hr
    exact wp_ret (r_then (k_ret1 hE rfl (res_tmp hE rfl) ⟨_, rfl, rfl, hM.kept⟩))
  · intro hb1
    have hF := ite_f hF hb1
    refine wp_skip ?_
    refine c_nx ?_
    refine wp_seq ?_
    refine c_region ?_
    refine s_assign hE goes_none (by decide) rfl ?_; intro a hE
    refine c_fin ?_
    obtain ⟨j2, hl3, hF4⟩ := bind_some hF
    refine c_cut (fun a w => ∃ s5 : Unit, j2 = Fl.nx s5 ∧ Env 27 a [] ∧ M (Old w0) w0 w []) ?_ ?_
    · skip
      refine wp_block ?_
      refine c_loop (fun (s6 : Int) a w => Env 27 a [(0, v0_1), (1, v1_1), (5, (vI s6))] ∧ M (Old w0) w0 w []) hl3 ⟨hE.sub ⟨rfl, rfl, rfl, trivial⟩, hM⟩ ?_
      rintro s6 a w ⟨hE, hM⟩ o9 hs7 hx8
      unfold L0_laws_eqBlockS at hs7
      refine wp_seq ?_
      refine c_region ?_
      refine s_move hE goes_none (by decide) rfl ?_; intro a hE
      refine s_move hE goes_none (by decide) rfl ?_; intro a hE
      refine s_len hE goes_none (by decide) rfl Try.underlying34 (hM.rd hv0_1) ?_; intro a hE
      refine s_int hE goes_none (by decide) rfl rfl rfl ?_; intro a hE
      refine c_fin ?_
      refine c_cond hE rfl ?_ ?_
      · intro hb10
        have hs7 := ite_t hs7 hb10
        refine wp_skip ?_
        refine c_nx ?_
        refine wp_seq ?_
        refine wp_block ?_
        obtain ⟨j11, hl12, hF13⟩ := bind_some hs7
        refine c_join (fun a w => Env 27 a [(0, v0_1), (1, v1_1), (5, (vI s6)), (26, (vT j11))] ∧ M (Old w0) w0 w []) ?_ ?_
        · skip
          obtain ⟨x15, e16, hl12⟩ := bind_some hl12
          have hi17 := idx_some e16
          obtain ⟨x18, e19, hl12⟩ := bind_some hl12
          have hi20 := idx_some e19
          obtain ⟨r21, e22, hl12⟩ := bind_some hl12
          refine c_draw (n := 27) (hd := [_, _, _, _, _, _, _, _, _, _]) (tl := []) hmix rfl rfl [17, 18, 19, 20, 21, 22, 23, 24, 25, 26] (by decide) (fun w => M (Old w0) w0 w []) (fun j => ([fun v _ => v = v0_1, fun v _ => v = (vI s6), fun v _ => v = (ptr (sb v0_1) (so v0_1 + (s6).toNat * 16)), fun v _ => v = (Value.agg (Flat.enc x15).toArray), fun v _ => v = v1_1, fun v _ => v = (vI s6), fun v _ => v = (ptr (sb v1_1) (so v1_1 + (s6).toNat * 16)), fun v _ => v = (Value.agg (Flat.enc x18).toArray), fun v _ => v = (vT r21), fun v _ => v = (vT (!r21))] : List (Value → World → Prop)).getD j (fun _ _ => True)) (fun _ _ h hk => h.keep hk) (gup (gupE (gupE (gupE (gupE (gupE (gupE (gupE (gupE (gupE (gupE gupN))))))))))) hE hM.drew (steps_of (steps_cons ?_ (steps_cons ?_ (steps_cons ?_ (steps_cons ?_ (steps_cons ?_ (steps_cons ?_ (steps_cons ?_ (steps_cons ?_ (steps_cons ?_ (steps_cons ?_ steps_nil))))))))))) ?_
          · intro a w ux14 hE hM hp
            refine s_move hE goes_none (by decide) rfl ?_; intro a hE
            exact ⟨Kept.refl _ _, _, _, rfl, hE, rfl⟩
          · intro a w ux14 hE hM hp
            refine s_move hE goes_none (by decide) rfl ?_; intro a hE
            exact ⟨Kept.refl _ _, _, _, rfl, hE, rfl⟩
          · intro a w ux14 hE hM hp
            have f0 : ux14 0 = v0_1 := hp 0 _ rfl rfl
            have f1 : ux14 1 = (vI s6) := hp 1 _ rfl rfl
            refine s_indexS hE goes_none (by decide) (lk rfl f0) (lk rfl f1) Try.underlying34 ty39 (hM.rd hv0_1) hi17.1 ?_; intro a hE
            exact ⟨Kept.refl _ _, _, _, rfl, hE, rfl⟩
          · intro a w ux14 hE hM hp
            have f2 : ux14 2 = (ptr (sb v0_1) (so v0_1 + (s6).toNat * 16)) := hp 0 _ rfl rfl
            refine s_loadA (cs := Flat.enc x15) hE goes_none (by decide) (lk rfl f2) ty39 rfl (sl_atF (hM.rd hv0_1) hi17.2) (Flat.len _) ?_; intro a hE
            exact ⟨Kept.refl _ _, _, _, rfl, hE, rfl⟩
          · intro a w ux14 hE hM hp
            refine s_move hE goes_none (by decide) rfl ?_; intro a hE
            exact ⟨Kept.refl _ _, _, _, rfl, hE, rfl⟩
          · intro a w ux14 hE hM hp
            refine s_move hE goes_none (by decide) rfl ?_; intro a hE
            exact ⟨Kept.refl _ _, _, _, rfl, hE, rfl⟩
          · intro a w ux14 hE hM hp
            have f4 : ux14 4 = v1_1 := hp 0 _ rfl rfl
            have f5 : ux14 5 = (vI s6) := hp 1 _ rfl rfl
            refine s_indexS hE goes_none (by decide) (lk rfl f4) (lk rfl f5) Try.underlying34 ty39 (hM.rd hv1_1) hi20.1 ?_; intro a hE
            exact ⟨Kept.refl _ _, _, _, rfl, hE, rfl⟩
          · intro a w ux14 hE hM hp
            have f6 : ux14 6 = (ptr (sb v1_1) (so v1_1 + (s6).toNat * 16)) := hp 0 _ rfl rfl
            refine s_loadA (cs := Flat.enc x18) hE goes_none (by decide) (lk rfl f6) ty39 rfl (sl_atF (hM.rd hv1_1) hi20.2) (Flat.len _) ?_; intro a hE
            exact ⟨Kept.refl _ _, _, _, rfl, hE, rfl⟩
          · intro a w ux14 hE hM hp
            have f3 : ux14 3 = (Value.agg (Flat.enc x15).toArray) := hp 0 _ rfl rfl
            have f7 : ux14 7 = (Value.agg (Flat.enc x18).toArray) := hp 1 _ rfl rfl
            refine s_call (vs := [(Value.agg (Flat.enc x15).toArray), (Value.agg (Flat.enc x18).toArray)]) hE goes_none (by decide) (evs_of (evsC (lk rfl f3) (evsC (lk rfl f7) evsN))) cb72 (c_laws_eqBlock _ x15 x18 r21 e22) ?_
            rintro v w a ⟨rfl, hK⟩ hE
            exact ⟨hK, _, _, rfl, hE, rfl⟩
          · intro a w ux14 hE hM hp
            have f8 : ux14 8 = (vT r21) := hp 0 _ rfl rfl
            refine s_not hE goes_none (by decide) (lk rfl f8) ?_; intro a hE
            exact ⟨Kept.refl _ _, _, _, rfl, hE, rfl⟩
          · intro a w ux14 hE hM hg
            have f0 : ux14 0 = v0_1 := hg 0 (by decide)
            have f1 : ux14 1 = (vI s6) := hg 1 (by decide)
            have f2 : ux14 2 = (ptr (sb v0_1) (so v0_1 + (s6).toNat * 16)) := hg 2 (by decide)
            have f3 : ux14 3 = (Value.agg (Flat.enc x15).toArray) := hg 3 (by decide)
            have f4 : ux14 4 = v1_1 := hg 4 (by decide)
            have f5 : ux14 5 = (vI s6) := hg 5 (by decide)
            have f6 : ux14 6 = (ptr (sb v1_1) (so v1_1 + (s6).toNat * 16)) := hg 6 (by decide)
            have f7 : ux14 7 = (Value.agg (Flat.enc x18).toArray) := hg 7 (by decide)
            have f8 : ux14 8 = (vT r21) := hg 8 (by decide)
            have f9 : ux14 9 = (vT (!r21)) := hg 9 (by decide)
            have hE := hE.sub (e' := [(17, v0_1), (18, (vI s6)), (19, (ptr (sb v0_1) (so v0_1 + (s6).toNat * 16))), (20, (Value.agg (Flat.enc x15).toArray)), (21, v1_1), (22, (vI s6)), (23, (ptr (sb v1_1) (so v1_1 + (s6).toNat * 16))), (24, (Value.agg (Flat.enc x18).toArray)), (25, (vT r21)), (26, (vT (!r21))), (0, v0_1), (1, v1_1), (5, (vI s6)), (11, (vI s6)), (12, v0_1), (13, (vI (p0.length : Int))), (14, (vT (decide (s6 < (p0.length : Int)))))]) ⟨lk rfl f0, lk rfl f1, lk rfl f2, lk rfl f3, lk rfl f4, lk rfl f5, lk rfl f6, lk rfl f7, lk rfl f8, lk rfl f9, rfl, rfl, rfl, rfl, rfl, rfl, rfl, trivial⟩
            refine c_fin0 ?_
            have ht23 := Option.some.inj hl12
            subst ht23
            refine c_mid ?_
            exact ⟨hE.sub ⟨rfl, rfl, rfl, rfl, trivial⟩, hM⟩
        · skip
          rintro a w ⟨hE, hM⟩
          refine c_cond hE rfl ?_ ?_
          · intro hb24
            have hF13 := ite_t hF13 hb24
            refine c_region ?_
            refine s_assign hE goes_none (by decide) rfl ?_; intro a hE
            refine c_fin ?_
            have ht25 := hx8 _ (Option.some.inj hF13).symm
            subst ht25
            have hr := Option.some.inj hF4
            subst hr
            exact wp_ret (r_inb (r_then (r_then (r_inb (r_then (r_then (k_ret1 hE rfl (res_tmp hE rfl) ⟨_, rfl, rfl, hM.kept⟩)))))))
          · intro hb24
            have hF13 := ite_f hF13 hb24
            refine wp_skip ?_
            refine c_nb ?_
            refine c_nx ?_
            refine wp_region_lit ?_
            refine s_move hE goes_none (by decide) rfl ?_; intro a hE
            refine s_int hE goes_none (by decide) rfl rfl rfl ?_; intro a hE
            refine s_assign hE goes_none (by decide) rfl ?_; intro a hE
            refine c_fin0 ?_
            refine c_mid ?_
            exact ⟨_, (Option.some.inj hF13).symm, hE.sub ⟨rfl, rfl, rfl, trivial⟩, hM⟩
      · intro hb10
        have hs7 := ite_f hs7 hb10
        refine wp_exit (e_then (e_then (e_eq ?_)))
        have ht26 := hx8 _ (Option.some.inj hs7).symm
        subst ht26
        refine c_mid ?_
        exact ⟨(), rfl, hE.sub trivial, hM⟩
    · skip
      rintro a w ⟨s5, ht, hE, hM⟩
      subst ht
      have hF4 := el_nx hF4
      refine c_nx ?_
      refine c_region ?_
      refine s_assign hE goes_none (by decide) rfl ?_; intro a hE
      refine c_fin ?_
      have hr := Option.some.inj hF4
      subst hr
      exact wp_ret (k_ret1 hE rfl (res_tmp hE rfl) ⟨_, rfl, rfl, hM.kept⟩)
noncomputable def L0_laws_eqByteS (p0 : (List UInt8)) (p1 : (List UInt8)) (s6 : Int) : Option (Fl Int (Fl Unit Bool)) :=
  if (decide (s6 < (p0.length : Int))) = true then (((idx p0 s6).bind fun (x15 : UInt8) => (idx p1 s6).bind fun (x18 : UInt8) => some (x15 != x18) : Option (Bool)).bind fun (j11 : Bool) => if j11 = true then (some (Fl.ex (Fl.ex false))) else (some (Fl.nx (wr (s6 + 1))))) else (some (Fl.ex (Fl.nx ())))
noncomputable def F_laws_eqByteS (p0 : (List UInt8)) (p1 : (List UInt8)) : Option (Bool) :=
  if ((p0.length : Int) != (p1.length : Int)) = true then (some false) else ((iter (L0_laws_eqByteS p0 p1) 0 : Option (Fl Unit Bool)).bind fun (j2 : Fl Unit Bool) => j2.el (fun (s5 : Unit) => some true) (fun r => some r))
set_option maxRecDepth 20000 in
set_option maxHeartbeats 400000 in
theorem c_laws_eqByteS (w0 : World) (p0 : (List UInt8)) (v0_1 : Value) (hv0_1 : Ro w0 p0 [v0_1]) (p1 : (List UInt8)) (v1_1 : Value) (hv1_1 : Ro w0 p1 [v1_1]) (r : Bool) (hF : F_laws_eqByteS p0 p1 = some r) :
    Calls Try.prog 23 [v0_1, v1_1].toArray w0 (fun en w' => ∃ v, en = .returned v ∧ (v = (vT r) ∧ Kept (Old w0) w0 w')) := by
  refine c_enter (n := 26) Try.func23 rfl rfl (Nat.le_of_ble_eq_true rfl) rfl ?_
  intro a hE
  have hM := M.start w0
  unfold F_laws_eqByteS at hF
  refine c_region ?_
  refine s_assign hE goes_none (by decide) rfl ?_; intro a hE
  refine c_fin ?_
  refine wp_seq ?_
  refine c_region ?_
  refine s_move hE goes_none (by decide) rfl ?_; intro a hE
  refine s_len hE goes_none (by decide) rfl Try.underlying50 (hM.rd hv0_1) ?_; intro a hE
  refine s_move hE goes_none (by decide) rfl ?_; intro a hE
  refine s_len hE goes_none (by decide) rfl Try.underlying50 (hM.rd hv1_1) ?_; intro a hE
  refine s_int hE goes_none (by decide) rfl rfl rfl ?_; intro a hE
  refine c_fin ?_
  refine c_cond hE rfl ?_ ?_
  · intro hb1
    have hF := ite_t hF hb1
    refine c_region ?_
    refine s_assign hE goes_none (by decide) rfl ?_; intro a hE
    refine c_fin ?_
    have hr := Option.some.inj hF
    subst hr
    exact wp_ret (r_then (k_ret1 hE rfl (res_tmp hE rfl) ⟨_, rfl, rfl, hM.kept⟩))
  · intro hb1
    have hF := ite_f hF hb1
    refine wp_skip ?_
    refine c_nx ?_
    refine wp_seq ?_
    refine c_region ?_
    refine s_assign hE goes_none (by decide) rfl ?_; intro a hE
    refine c_fin ?_
    obtain ⟨j2, hl3, hF4⟩ := bind_some hF
    refine c_cut (fun a w => ∃ s5 : Unit, j2 = Fl.nx s5 ∧ Env 26 a [] ∧ M (Old w0) w0 w []) ?_ ?_
    · skip
      refine wp_block ?_
      refine c_loop (fun (s6 : Int) a w => Env 26 a [(0, v0_1), (1, v1_1), (5, (vI s6))] ∧ M (Old w0) w0 w []) hl3 ⟨hE.sub ⟨rfl, rfl, rfl, trivial⟩, hM⟩ ?_
      rintro s6 a w ⟨hE, hM⟩ o9 hs7 hx8
      unfold L0_laws_eqByteS at hs7
      refine wp_seq ?_
      refine c_region ?_
      refine s_move hE goes_none (by decide) rfl ?_; intro a hE
      refine s_move hE goes_none (by decide) rfl ?_; intro a hE
      refine s_len hE goes_none (by decide) rfl Try.underlying50 (hM.rd hv0_1) ?_; intro a hE
      refine s_int hE goes_none (by decide) rfl rfl rfl ?_; intro a hE
      refine c_fin ?_
      refine c_cond hE rfl ?_ ?_
      · intro hb10
        have hs7 := ite_t hs7 hb10
        refine wp_skip ?_
        refine c_nx ?_
        refine wp_seq ?_
        refine wp_block ?_
        obtain ⟨j11, hl12, hF13⟩ := bind_some hs7
        refine c_join (fun a w => Env 26 a [(0, v0_1), (1, v1_1), (5, (vI s6)), (25, (vT j11))] ∧ M (Old w0) w0 w []) ?_ ?_
        · skip
          obtain ⟨x15, e16, hl12⟩ := bind_some hl12
          have hi17 := idx_some e16
          obtain ⟨x18, e19, hl12⟩ := bind_some hl12
          have hi20 := idx_some e19
          refine c_draw (n := 26) (hd := [_, _, _, _, _, _, _, _, _]) (tl := []) hmix rfl rfl [17, 18, 19, 20, 21, 22, 23, 24, 25] (by decide) (fun w => M (Old w0) w0 w []) (fun j => ([fun v _ => v = v0_1, fun v _ => v = (vI s6), fun v _ => v = (ptr (sb v0_1) (so v0_1 + (s6).toNat * 1)), fun v _ => v = (vB x15), fun v _ => v = v1_1, fun v _ => v = (vI s6), fun v _ => v = (ptr (sb v1_1) (so v1_1 + (s6).toNat * 1)), fun v _ => v = (vB x18), fun v _ => v = (vT (x15 != x18))] : List (Value → World → Prop)).getD j (fun _ _ => True)) (fun _ _ h hk => h.keep hk) (gup (gupE (gupE (gupE (gupE (gupE (gupE (gupE (gupE (gupE gupN)))))))))) hE hM.drew (steps_of (steps_cons ?_ (steps_cons ?_ (steps_cons ?_ (steps_cons ?_ (steps_cons ?_ (steps_cons ?_ (steps_cons ?_ (steps_cons ?_ (steps_cons ?_ steps_nil)))))))))) ?_
          · intro a w ux14 hE hM hp
            refine s_move hE goes_none (by decide) rfl ?_; intro a hE
            exact ⟨Kept.refl _ _, _, _, rfl, hE, rfl⟩
          · intro a w ux14 hE hM hp
            refine s_move hE goes_none (by decide) rfl ?_; intro a hE
            exact ⟨Kept.refl _ _, _, _, rfl, hE, rfl⟩
          · intro a w ux14 hE hM hp
            have f0 : ux14 0 = v0_1 := hp 0 _ rfl rfl
            have f1 : ux14 1 = (vI s6) := hp 1 _ rfl rfl
            refine s_indexS hE goes_none (by decide) (lk rfl f0) (lk rfl f1) Try.underlying50 ty5 (hM.rd hv0_1) hi17.1 ?_; intro a hE
            exact ⟨Kept.refl _ _, _, _, rfl, hE, rfl⟩
          · intro a w ux14 hE hM hp
            have f2 : ux14 2 = (ptr (sb v0_1) (so v0_1 + (s6).toNat * 1)) := hp 0 _ rfl rfl
            refine s_load (v := (vB x15)) hE goes_none (by decide) (lk rfl f2) ty5 rfl (sl_atF (hM.rd hv0_1) hi17.2) ?_; intro a hE
            exact ⟨Kept.refl _ _, _, _, rfl, hE, rfl⟩
          · intro a w ux14 hE hM hp
            refine s_move hE goes_none (by decide) rfl ?_; intro a hE
            exact ⟨Kept.refl _ _, _, _, rfl, hE, rfl⟩
          · intro a w ux14 hE hM hp
            refine s_move hE goes_none (by decide) rfl ?_; intro a hE
            exact ⟨Kept.refl _ _, _, _, rfl, hE, rfl⟩
          · intro a w ux14 hE hM hp
            have f4 : ux14 4 = v1_1 := hp 0 _ rfl rfl
            have f5 : ux14 5 = (vI s6) := hp 1 _ rfl rfl
            refine s_indexS hE goes_none (by decide) (lk rfl f4) (lk rfl f5) Try.underlying50 ty5 (hM.rd hv1_1) hi20.1 ?_; intro a hE
            exact ⟨Kept.refl _ _, _, _, rfl, hE, rfl⟩
          · intro a w ux14 hE hM hp
            have f6 : ux14 6 = (ptr (sb v1_1) (so v1_1 + (s6).toNat * 1)) := hp 0 _ rfl rfl
            refine s_load (v := (vB x18)) hE goes_none (by decide) (lk rfl f6) ty5 rfl (sl_atF (hM.rd hv1_1) hi20.2) ?_; intro a hE
            exact ⟨Kept.refl _ _, _, _, rfl, hE, rfl⟩
          · intro a w ux14 hE hM hp
            have f3 : ux14 3 = (vB x15) := hp 0 _ rfl rfl
            have f7 : ux14 7 = (vB x18) := hp 1 _ rfl rfl
            refine s_int hE goes_none (by decide) (lk rfl f3) (lk rfl f7) (bB_neq x15 x18) ?_; intro a hE
            exact ⟨Kept.refl _ _, _, _, rfl, hE, rfl⟩
          · intro a w ux14 hE hM hg
            have f0 : ux14 0 = v0_1 := hg 0 (by decide)
            have f1 : ux14 1 = (vI s6) := hg 1 (by decide)
            have f2 : ux14 2 = (ptr (sb v0_1) (so v0_1 + (s6).toNat * 1)) := hg 2 (by decide)
            have f3 : ux14 3 = (vB x15) := hg 3 (by decide)
            have f4 : ux14 4 = v1_1 := hg 4 (by decide)
            have f5 : ux14 5 = (vI s6) := hg 5 (by decide)
            have f6 : ux14 6 = (ptr (sb v1_1) (so v1_1 + (s6).toNat * 1)) := hg 6 (by decide)
            have f7 : ux14 7 = (vB x18) := hg 7 (by decide)
            have f8 : ux14 8 = (vT (x15 != x18)) := hg 8 (by decide)
            have hE := hE.sub (e' := [(17, v0_1), (18, (vI s6)), (19, (ptr (sb v0_1) (so v0_1 + (s6).toNat * 1))), (20, (vB x15)), (21, v1_1), (22, (vI s6)), (23, (ptr (sb v1_1) (so v1_1 + (s6).toNat * 1))), (24, (vB x18)), (25, (vT (x15 != x18))), (0, v0_1), (1, v1_1), (5, (vI s6)), (11, (vI s6)), (12, v0_1), (13, (vI (p0.length : Int))), (14, (vT (decide (s6 < (p0.length : Int)))))]) ⟨lk rfl f0, lk rfl f1, lk rfl f2, lk rfl f3, lk rfl f4, lk rfl f5, lk rfl f6, lk rfl f7, lk rfl f8, rfl, rfl, rfl, rfl, rfl, rfl, rfl, trivial⟩
            refine c_fin0 ?_
            have ht21 := Option.some.inj hl12
            subst ht21
            refine c_mid ?_
            exact ⟨hE.sub ⟨rfl, rfl, rfl, rfl, trivial⟩, hM⟩
        · skip
          rintro a w ⟨hE, hM⟩
          refine c_cond hE rfl ?_ ?_
          · intro hb22
            have hF13 := ite_t hF13 hb22
            refine c_region ?_
            refine s_assign hE goes_none (by decide) rfl ?_; intro a hE
            refine c_fin ?_
            have ht23 := hx8 _ (Option.some.inj hF13).symm
            subst ht23
            have hr := Option.some.inj hF4
            subst hr
            exact wp_ret (r_inb (r_then (r_then (r_inb (r_then (r_then (k_ret1 hE rfl (res_tmp hE rfl) ⟨_, rfl, rfl, hM.kept⟩)))))))
          · intro hb22
            have hF13 := ite_f hF13 hb22
            refine wp_skip ?_
            refine c_nb ?_
            refine c_nx ?_
            refine wp_region_lit ?_
            refine s_move hE goes_none (by decide) rfl ?_; intro a hE
            refine s_int hE goes_none (by decide) rfl rfl rfl ?_; intro a hE
            refine s_assign hE goes_none (by decide) rfl ?_; intro a hE
            refine c_fin0 ?_
            refine c_mid ?_
            exact ⟨_, (Option.some.inj hF13).symm, hE.sub ⟨rfl, rfl, rfl, trivial⟩, hM⟩
      · intro hb10
        have hs7 := ite_f hs7 hb10
        refine wp_exit (e_then (e_then (e_eq ?_)))
        have ht24 := hx8 _ (Option.some.inj hs7).symm
        subst ht24
        refine c_mid ?_
        exact ⟨(), rfl, hE.sub trivial, hM⟩
    · skip
      rintro a w ⟨s5, ht, hE, hM⟩
      subst ht
      have hF4 := el_nx hF4
      refine c_nx ?_
      refine c_region ?_
      refine s_assign hE goes_none (by decide) rfl ?_; intro a hE
      refine c_fin ?_
      have hr := Option.some.inj hF4
      subst hr
      exact wp_ret (k_ret1 hE rfl (res_tmp hE rfl) ⟨_, rfl, rfl, hM.kept⟩)
noncomputable def L0_laws_eqDigest (p0 : (Vector UInt8 32)) (p1 : (Vector UInt8 32)) (s9 : Int) : Option (Fl Int (Fl Unit Bool)) :=
  if (decide (s9 < 32)) = true then (((vidx p0 s9).bind fun (x19 : UInt8) => (vidx p1 s9).bind fun (x22 : UInt8) => some (x19 != x22) : Option (Bool)).bind fun (j14 : Bool) => if j14 = true then (some (Fl.ex (Fl.ex false))) else (some (Fl.nx (wr (s9 + 1))))) else (some (Fl.ex (Fl.nx ())))
noncomputable def F_laws_eqDigest (p0 : (Vector UInt8 32)) (p1 : (Vector UInt8 32)) : Option (Bool) :=
  (iter (L0_laws_eqDigest p0 p1) 0 : Option (Fl Unit Bool)).bind fun (j5 : Fl Unit Bool) => j5.el (fun (s8 : Unit) => some true) (fun r => some r)
set_option maxRecDepth 20000 in
set_option maxHeartbeats 400000 in
theorem c_laws_eqDigest (w0 : World) (p0 : (Vector UInt8 32)) (p1 : (Vector UInt8 32)) (r : Bool) (hF : F_laws_eqDigest p0 p1 = some r) :
    Calls Try.prog 10 [(Value.agg (Flat.enc p0).toArray), (Value.agg (Flat.enc p1).toArray)].toArray w0 (fun en w' => ∃ v, en = .returned v ∧ (v = (vT r) ∧ Kept (Old w0) w0 w')) := by
  refine c_enter (n := 17) Try.func10 rfl rfl (Nat.le_of_ble_eq_true rfl) rfl ?_
  intro a hE
  have hM := M.start w0
  unfold F_laws_eqDigest at hF
  refine c_region ?_
  refine s_box (cs := Flat.enc p0) hE hM goes_none (by decide) rfl rfl ?_; intro b1 w a hM hE
  refine s_box (cs := Flat.enc p1) hE hM goes_none (by decide) rfl rfl ?_; intro b3 w a hM hE
  refine s_assign hE goes_none (by decide) rfl ?_; intro a hE
  refine c_fin ?_
  refine wp_seq ?_
  refine c_region ?_
  refine s_assign hE goes_none (by decide) rfl ?_; intro a hE
  refine c_fin ?_
  obtain ⟨j5, hl6, hF7⟩ := bind_some hF
  refine c_cut (fun a w => ∃ s8 : Unit, j5 = Fl.nx s8 ∧ Env 17 a [] ∧ M (Old w0) w0 w []) ?_ ?_
  · skip
    refine wp_block ?_
    refine c_loop (fun (s9 : Int) a w => Env 17 a [(2, (ptr b1 0)), (3, (ptr b3 0)), (5, (vI s9))] ∧ M (Old w0) w0 w [raw b3 (Flat.enc p1), raw b1 (Flat.enc p0)]) hl6 ⟨hE.sub ⟨rfl, rfl, rfl, trivial⟩, hM⟩ ?_
    rintro s9 a w ⟨hE, hM⟩ o12 hs10 hx11
    unfold L0_laws_eqDigest at hs10
    refine wp_seq ?_
    refine c_region ?_
    refine s_move hE goes_none (by decide) rfl ?_; intro a hE
    refine s_int hE goes_none (by decide) rfl rfl rfl ?_; intro a hE
    refine c_fin ?_
    refine c_cond hE rfl ?_ ?_
    · intro hb13
      have hs10 := ite_t hs10 hb13
      refine wp_skip ?_
      refine c_nx ?_
      refine wp_seq ?_
      refine wp_block ?_
      obtain ⟨j14, hl15, hF16⟩ := bind_some hs10
      refine c_join (fun a w => Env 17 a [(2, (ptr b1 0)), (3, (ptr b3 0)), (5, (vI s9)), (16, (vT j14))] ∧ M (Old w0) w0 w [raw b3 (Flat.enc p1), raw b1 (Flat.enc p0)]) ?_ ?_
      · skip
        obtain ⟨x19, e20, hl15⟩ := bind_some hl15
        have hi18 := vidx_some e20
        obtain ⟨x22, e23, hl15⟩ := bind_some hl15
        have hi21 := vidx_some e23
        refine c_draw (n := 17) (hd := [_, _, _, _, _, _, _]) (tl := []) hmix rfl rfl [10, 11, 12, 13, 14, 15, 16] (by decide) (fun w => M (Old w0) w0 w [raw b3 (Flat.enc p1), raw b1 (Flat.enc p0)]) (fun j => ([fun v _ => v = (vI s9), fun v _ => v = (ptr b1 (0 + (s9).toNat * 1)), fun v _ => v = (vB x19), fun v _ => v = (vI s9), fun v _ => v = (ptr b3 (0 + (s9).toNat * 1)), fun v _ => v = (vB x22), fun v _ => v = (vT (x19 != x22))] : List (Value → World → Prop)).getD j (fun _ _ => True)) (fun _ _ h hk => h.keep hk) (gup (gupE (gupE (gupE (gupE (gupE (gupE (gupE gupN)))))))) hE hM.drew (steps_of (steps_cons ?_ (steps_cons ?_ (steps_cons ?_ (steps_cons ?_ (steps_cons ?_ (steps_cons ?_ (steps_cons ?_ steps_nil)))))))) ?_
        · intro a w ux17 hE hM hp
          refine s_move hE goes_none (by decide) rfl ?_; intro a hE
          exact ⟨Kept.refl _ _, _, _, rfl, hE, rfl⟩
        · intro a w ux17 hE hM hp
          have f0 : ux17 0 = (vI s9) := hp 0 _ rfl rfl
          refine s_indexA hE goes_none (by decide) rfl (lk rfl f0) Try.underlying25 ty5 hi18.1 ?_; intro a hE
          exact ⟨Kept.refl _ _, _, _, rfl, hE, rfl⟩
        · intro a w ux17 hE hM hp
          have f1 : ux17 1 = (ptr b1 (0 + (s9).toNat * 1)) := hp 0 _ rfl rfl
          refine s_load (v := (vB x19)) hE goes_none (by decide) (lk rfl f1) ty5 rfl (At.vec (hM.rawAt (pre := [_])) hi18.2) ?_; intro a hE
          exact ⟨Kept.refl _ _, _, _, rfl, hE, rfl⟩
        · intro a w ux17 hE hM hp
          refine s_move hE goes_none (by decide) rfl ?_; intro a hE
          exact ⟨Kept.refl _ _, _, _, rfl, hE, rfl⟩
        · intro a w ux17 hE hM hp
          have f3 : ux17 3 = (vI s9) := hp 0 _ rfl rfl
          refine s_indexA hE goes_none (by decide) rfl (lk rfl f3) Try.underlying25 ty5 hi21.1 ?_; intro a hE
          exact ⟨Kept.refl _ _, _, _, rfl, hE, rfl⟩
        · intro a w ux17 hE hM hp
          have f4 : ux17 4 = (ptr b3 (0 + (s9).toNat * 1)) := hp 0 _ rfl rfl
          refine s_load (v := (vB x22)) hE goes_none (by decide) (lk rfl f4) ty5 rfl (At.vec (hM.rawAt (pre := [])) hi21.2) ?_; intro a hE
          exact ⟨Kept.refl _ _, _, _, rfl, hE, rfl⟩
        · intro a w ux17 hE hM hp
          have f2 : ux17 2 = (vB x19) := hp 0 _ rfl rfl
          have f5 : ux17 5 = (vB x22) := hp 1 _ rfl rfl
          refine s_int hE goes_none (by decide) (lk rfl f2) (lk rfl f5) (bB_neq x19 x22) ?_; intro a hE
          exact ⟨Kept.refl _ _, _, _, rfl, hE, rfl⟩
        · intro a w ux17 hE hM hg
          have f0 : ux17 0 = (vI s9) := hg 0 (by decide)
          have f1 : ux17 1 = (ptr b1 (0 + (s9).toNat * 1)) := hg 1 (by decide)
          have f2 : ux17 2 = (vB x19) := hg 2 (by decide)
          have f3 : ux17 3 = (vI s9) := hg 3 (by decide)
          have f4 : ux17 4 = (ptr b3 (0 + (s9).toNat * 1)) := hg 4 (by decide)
          have f5 : ux17 5 = (vB x22) := hg 5 (by decide)
          have f6 : ux17 6 = (vT (x19 != x22)) := hg 6 (by decide)
          have hE := hE.sub (e' := [(10, (vI s9)), (11, (ptr b1 (0 + (s9).toNat * 1))), (12, (vB x19)), (13, (vI s9)), (14, (ptr b3 (0 + (s9).toNat * 1))), (15, (vB x22)), (16, (vT (x19 != x22))), (2, (ptr b1 0)), (3, (ptr b3 0)), (5, (vI s9)), (6, (vI s9)), (7, (vT (decide (s9 < 32))))]) ⟨lk rfl f0, lk rfl f1, lk rfl f2, lk rfl f3, lk rfl f4, lk rfl f5, lk rfl f6, rfl, rfl, rfl, rfl, rfl, trivial⟩
          refine c_fin0 ?_
          have ht24 := Option.some.inj hl15
          subst ht24
          refine c_mid ?_
          exact ⟨hE.sub ⟨rfl, rfl, rfl, rfl, trivial⟩, hM⟩
      · skip
        rintro a w ⟨hE, hM⟩
        refine c_cond hE rfl ?_ ?_
        · intro hb25
          have hF16 := ite_t hF16 hb25
          refine c_region ?_
          refine s_assign hE goes_none (by decide) rfl ?_; intro a hE
          refine c_fin ?_
          have ht26 := hx11 _ (Option.some.inj hF16).symm
          subst ht26
          have hr := Option.some.inj hF7
          subst hr
          have hM := M.fst (l := []) hM
          exact wp_ret (r_inb (r_then (r_then (r_inb (r_then (r_then (k_ret1 hE rfl (res_tmp hE rfl) ⟨_, rfl, rfl, hM.kept⟩)))))))
        · intro hb25
          have hF16 := ite_f hF16 hb25
          refine wp_skip ?_
          refine c_nb ?_
          refine c_nx ?_
          refine wp_region_lit ?_
          refine s_move hE goes_none (by decide) rfl ?_; intro a hE
          refine s_int hE goes_none (by decide) rfl rfl rfl ?_; intro a hE
          refine s_assign hE goes_none (by decide) rfl ?_; intro a hE
          refine c_fin0 ?_
          refine c_mid ?_
          exact ⟨_, (Option.some.inj hF16).symm, hE.sub ⟨rfl, rfl, rfl, trivial⟩, hM⟩
    · intro hb13
      have hs10 := ite_f hs10 hb13
      refine wp_exit (e_then (e_then (e_eq ?_)))
      have ht27 := hx11 _ (Option.some.inj hs10).symm
      subst ht27
      refine c_mid ?_
      have hM := M.fst (l := []) hM
      exact ⟨(), rfl, hE.sub trivial, hM⟩
  · skip
    rintro a w ⟨s8, ht, hE, hM⟩
    subst ht
    have hF7 := el_nx hF7
    refine c_nx ?_
    refine c_region ?_
    refine s_assign hE goes_none (by decide) rfl ?_; intro a hE
    refine c_fin ?_
    have hr := Option.some.inj hF7
    subst hr
    exact wp_ret (k_ret1 hE rfl (res_tmp hE rfl) ⟨_, rfl, rfl, hM.kept⟩)
noncomputable def F_laws_eqRecord (p0 : GRecord) (p1 : GRecord) : Option (Bool) :=
  if (p0.Number != p1.Number) = true then (some false) else (if (p0.Version != p1.Version) = true then (some false) else ((F_laws_eqBlock p0.Nonce p1.Nonce).bind fun (r7 : Bool) => if (!r7) = true then (some false) else ((F_laws_eqByteS p0.Label p1.Label).bind fun (r10 : Bool) => if (!r10) = true then (some false) else ((F_laws_eqByteS p0.Body p1.Body).bind fun (r13 : Bool) => if (!r13) = true then (some false) else ((F_laws_eqDigest p0.Tag p1.Tag).bind fun (r16 : Bool) => if (!r16) = true then (some false) else (some true))))))
set_option maxRecDepth 20000 in
set_option maxHeartbeats 400000 in
theorem c_laws_eqRecord (w0 : World) (p0 : GRecord) (v0_1 : Value) (hv0_1 : Ro w0 p0.Label [v0_1]) (v0_2 : Value) (hv0_2 : Ro w0 p0.Body [v0_2]) (p1 : GRecord) (v1_1 : Value) (hv1_1 : Ro w0 p1.Label [v1_1]) (v1_2 : Value) (hv1_2 : Ro w0 p1.Body [v1_2]) (r : Bool) (hF : F_laws_eqRecord p0 p1 = some r) :
    Calls Try.prog 73 [(Value.agg (cat [[(vI p0.Number)], [(vI p0.Version)], Flat.enc p0.Nonce, [v0_1], [v0_2], Flat.enc p0.Tag]).toArray), (Value.agg (cat [[(vI p1.Number)], [(vI p1.Version)], Flat.enc p1.Nonce, [v1_1], [v1_2], Flat.enc p1.Tag]).toArray)].toArray w0 (fun en w' => ∃ v, en = .returned v ∧ (v = (vT r) ∧ Kept (Old w0) w0 w')) := by
  refine c_enter (n := 39) Try.func73 rfl rfl (Nat.le_of_ble_eq_true rfl) rfl ?_
  intro a hE
  have hM := M.start w0
  unfold F_laws_eqRecord at hF
  refine c_region ?_
  refine s_box (cs := cat [[(vI p0.Number)], [(vI p0.Version)], Flat.enc p0.Nonce, [v0_1], [v0_2], Flat.enc p0.Tag]) hE hM goes_none (by decide) rfl rfl ?_; intro b1 w a hM hE
  refine s_box (cs := cat [[(vI p1.Number)], [(vI p1.Version)], Flat.enc p1.Nonce, [v1_1], [v1_2], Flat.enc p1.Tag]) hE hM goes_none (by decide) rfl rfl ?_; intro b3 w a hM hE
  refine s_assign hE goes_none (by decide) rfl ?_; intro a hE
  refine c_fin ?_
  refine wp_seq ?_
  refine c_region ?_
  refine s_fieldAddr hE goes_none (by decide) rfl (fd114_0) ?_; intro a hE
  refine s_load (v := (vI p0.Number)) hE goes_none (by decide) rfl ty2 rfl (At.cat (pre := []) (seg := [(vI p0.Number)]) (post := [[(vI p0.Version)], Flat.enc p0.Nonce, [v0_1], [v0_2], Flat.enc p0.Tag]) (hM.rawAt (pre := [_])) cl0) ?_; intro a hE
  refine s_fieldAddr hE goes_none (by decide) rfl (fd114_0) ?_; intro a hE
  refine s_load (v := (vI p1.Number)) hE goes_none (by decide) rfl ty2 rfl (At.cat (pre := []) (seg := [(vI p1.Number)]) (post := [[(vI p1.Version)], Flat.enc p1.Nonce, [v1_1], [v1_2], Flat.enc p1.Tag]) (hM.rawAt (pre := [])) cl0) ?_; intro a hE
  refine s_int hE goes_none (by decide) rfl rfl rfl ?_; intro a hE
  refine c_fin ?_
  refine c_cond hE rfl ?_ ?_
  · intro hb5
    have hF := ite_t hF hb5
    refine c_region ?_
    refine s_assign hE goes_none (by decide) rfl ?_; intro a hE
    refine c_fin ?_
    have hr := Option.some.inj hF
    subst hr
    have hM := M.fst (l := []) hM
    exact wp_ret (r_then (k_ret1 hE rfl (res_tmp hE rfl) ⟨_, rfl, rfl, hM.kept⟩))
  · intro hb5
    have hF := ite_f hF hb5
    refine wp_skip ?_
    refine c_nx ?_
    refine wp_seq ?_
    refine c_region ?_
    refine s_fieldAddr hE goes_none (by decide) rfl (fd114_1) ?_; intro a hE
    refine s_load (v := (vI p0.Version)) hE goes_none (by decide) rfl ty2 rfl (At.cat (pre := [[(vI p0.Number)]]) (seg := [(vI p0.Version)]) (post := [Flat.enc p0.Nonce, [v0_1], [v0_2], Flat.enc p0.Tag]) (hM.rawAt (pre := [_])) (cl1 (n := 1) (m := 0) rfl cl0)) ?_; intro a hE
    refine s_fieldAddr hE goes_none (by decide) rfl (fd114_1) ?_; intro a hE
    refine s_load (v := (vI p1.Version)) hE goes_none (by decide) rfl ty2 rfl (At.cat (pre := [[(vI p1.Number)]]) (seg := [(vI p1.Version)]) (post := [Flat.enc p1.Nonce, [v1_1], [v1_2], Flat.enc p1.Tag]) (hM.rawAt (pre := [])) (cl1 (n := 1) (m := 0) rfl cl0)) ?_; intro a hE
    refine s_int hE goes_none (by decide) rfl rfl rfl ?_; intro a hE
    refine c_fin ?_
    refine c_cond hE rfl ?_ ?_
    · intro hb6
      have hF := ite_t hF hb6
      refine c_region ?_
      refine s_assign hE goes_none (by decide) rfl ?_; intro a hE
      refine c_fin ?_
      have hr := Option.some.inj hF
      subst hr
      have hM := M.fst (l := []) hM
      exact wp_ret (r_then (k_ret1 hE rfl (res_tmp hE rfl) ⟨_, rfl, rfl, hM.kept⟩))
    · intro hb6
      have hF := ite_f hF hb6
      refine wp_skip ?_
      refine c_nx ?_
      refine wp_seq ?_
      refine c_region ?_
      refine s_fieldAddr hE goes_none (by decide) rfl (fd114_2) ?_; intro a hE
      refine s_loadA (cs := Flat.enc p0.Nonce) hE goes_none (by decide) rfl ty39 rfl (At.cat (pre := [[(vI p0.Number)], [(vI p0.Version)]]) (seg := Flat.enc p0.Nonce) (post := [[v0_1], [v0_2], Flat.enc p0.Tag]) (hM.rawAt (pre := [_])) (cl1 (n := 1) (m := 1) rfl (cl1 (n := 1) (m := 0) rfl cl0))) (Flat.len _) ?_; intro a hE
      refine s_fieldAddr hE goes_none (by decide) rfl (fd114_2) ?_; intro a hE
      refine s_loadA (cs := Flat.enc p1.Nonce) hE goes_none (by decide) rfl ty39 rfl (At.cat (pre := [[(vI p1.Number)], [(vI p1.Version)]]) (seg := Flat.enc p1.Nonce) (post := [[v1_1], [v1_2], Flat.enc p1.Tag]) (hM.rawAt (pre := [])) (cl1 (n := 1) (m := 1) rfl (cl1 (n := 1) (m := 0) rfl cl0))) (Flat.len _) ?_; intro a hE
      obtain ⟨r7, e8, hF⟩ := bind_some hF
      refine s_call (vs := [(Value.agg (Flat.enc p0.Nonce).toArray), (Value.agg (Flat.enc p1.Nonce).toArray)]) hE goes_none (by decide) rfl cb72 (c_laws_eqBlock _ p0.Nonce p1.Nonce r7 e8) ?_
      rintro v w a ⟨rfl, hK⟩ hE
      have hM := hM.keep hK
      refine s_not hE goes_none (by decide) rfl ?_; intro a hE
      refine c_fin ?_
      refine c_cond hE rfl ?_ ?_
      · intro hb9
        have hF := ite_t hF hb9
        refine c_region ?_
        refine s_assign hE goes_none (by decide) rfl ?_; intro a hE
        refine c_fin ?_
        have hr := Option.some.inj hF
        subst hr
        have hM := M.fst (l := []) hM
        exact wp_ret (r_then (k_ret1 hE rfl (res_tmp hE rfl) ⟨_, rfl, rfl, hM.kept⟩))
      · intro hb9
        have hF := ite_f hF hb9
        refine wp_skip ?_
        refine c_nx ?_
        refine wp_seq ?_
        refine c_region ?_
        refine s_fieldAddr hE goes_none (by decide) rfl (fd114_3) ?_; intro a hE
        refine s_load (v := v0_1) hE goes_none (by decide) rfl ty50 rfl (At.cat (pre := [[(vI p0.Number)], [(vI p0.Version)], Flat.enc p0.Nonce]) (seg := [v0_1]) (post := [[v0_2], Flat.enc p0.Tag]) (hM.rawAt (pre := [_])) (cl1 (n := 1) (m := 17) rfl (cl1 (n := 1) (m := 16) rfl (cl1 (n := 16) (m := 0) (Flat.len _) cl0)))) ?_; intro a hE
        refine s_fieldAddr hE goes_none (by decide) rfl (fd114_3) ?_; intro a hE
        refine s_load (v := v1_1) hE goes_none (by decide) rfl ty50 rfl (At.cat (pre := [[(vI p1.Number)], [(vI p1.Version)], Flat.enc p1.Nonce]) (seg := [v1_1]) (post := [[v1_2], Flat.enc p1.Tag]) (hM.rawAt (pre := [])) (cl1 (n := 1) (m := 17) rfl (cl1 (n := 1) (m := 16) rfl (cl1 (n := 16) (m := 0) (Flat.len _) cl0)))) ?_; intro a hE
        obtain ⟨r10, e11, hF⟩ := bind_some hF
        refine s_call (vs := [v0_1, v1_1]) hE goes_none (by decide) rfl cb23 (c_laws_eqByteS _ p0.Label v0_1 (hM.rdo hv0_1) p1.Label v1_1 (hM.rdo hv1_1) r10 e11) ?_
        rintro v w a ⟨rfl, hK⟩ hE
        have hM := hM.keep hK
        refine s_not hE goes_none (by decide) rfl ?_; intro a hE
        refine c_fin ?_
        refine c_cond hE rfl ?_ ?_
        · intro hb12
          have hF := ite_t hF hb12
          refine c_region ?_
          refine s_assign hE goes_none (by decide) rfl ?_; intro a hE
          refine c_fin ?_
          have hr := Option.some.inj hF
          subst hr
          have hM := M.fst (l := []) hM
          exact wp_ret (r_then (k_ret1 hE rfl (res_tmp hE rfl) ⟨_, rfl, rfl, hM.kept⟩))
        · intro hb12
          have hF := ite_f hF hb12
          refine wp_skip ?_
          refine c_nx ?_
          refine wp_seq ?_
          refine c_region ?_
          refine s_fieldAddr hE goes_none (by decide) rfl (fd114_4) ?_; intro a hE
          refine s_load (v := v0_2) hE goes_none (by decide) rfl ty50 rfl (At.cat (pre := [[(vI p0.Number)], [(vI p0.Version)], Flat.enc p0.Nonce, [v0_1]]) (seg := [v0_2]) (post := [Flat.enc p0.Tag]) (hM.rawAt (pre := [_])) (cl1 (n := 1) (m := 18) rfl (cl1 (n := 1) (m := 17) rfl (cl1 (n := 16) (m := 1) (Flat.len _) (cl1 (n := 1) (m := 0) rfl cl0))))) ?_; intro a hE
          refine s_fieldAddr hE goes_none (by decide) rfl (fd114_4) ?_; intro a hE
          refine s_load (v := v1_2) hE goes_none (by decide) rfl ty50 rfl (At.cat (pre := [[(vI p1.Number)], [(vI p1.Version)], Flat.enc p1.Nonce, [v1_1]]) (seg := [v1_2]) (post := [Flat.enc p1.Tag]) (hM.rawAt (pre := [])) (cl1 (n := 1) (m := 18) rfl (cl1 (n := 1) (m := 17) rfl (cl1 (n := 16) (m := 1) (Flat.len _) (cl1 (n := 1) (m := 0) rfl cl0))))) ?_; intro a hE
          obtain ⟨r13, e14, hF⟩ := bind_some hF
          refine s_call (vs := [v0_2, v1_2]) hE goes_none (by decide) rfl cb23 (c_laws_eqByteS _ p0.Body v0_2 (hM.rdo hv0_2) p1.Body v1_2 (hM.rdo hv1_2) r13 e14) ?_
          rintro v w a ⟨rfl, hK⟩ hE
          have hM := hM.keep hK
          refine s_not hE goes_none (by decide) rfl ?_; intro a hE
          refine c_fin ?_
          refine c_cond hE rfl ?_ ?_
          · intro hb15
            have hF := ite_t hF hb15
            refine c_region ?_
            refine s_assign hE goes_none (by decide) rfl ?_; intro a hE
            refine c_fin ?_
            have hr := Option.some.inj hF
            subst hr
            have hM := M.fst (l := []) hM
            exact wp_ret (r_then (k_ret1 hE rfl (res_tmp hE rfl) ⟨_, rfl, rfl, hM.kept⟩))
          · intro hb15
            have hF := ite_f hF hb15
            refine wp_skip ?_
            refine c_nx ?_
            refine wp_seq ?_
            refine c_region ?_
            refine s_fieldAddr hE goes_none (by decide) rfl (fd114_5) ?_; intro a hE
            refine s_loadA (cs := Flat.enc p0.Tag) hE goes_none (by decide) rfl ty25 rfl (At.cat (pre := [[(vI p0.Number)], [(vI p0.Version)], Flat.enc p0.Nonce, [v0_1], [v0_2]]) (seg := Flat.enc p0.Tag) (post := []) (hM.rawAt (pre := [_])) (cl1 (n := 1) (m := 19) rfl (cl1 (n := 1) (m := 18) rfl (cl1 (n := 16) (m := 2) (Flat.len _) (cl1 (n := 1) (m := 1) rfl (cl1 (n := 1) (m := 0) rfl cl0)))))) (Flat.len _) ?_; intro a hE
            refine s_fieldAddr hE goes_none (by decide) rfl (fd114_5) ?_; intro a hE
            refine s_loadA (cs := Flat.enc p1.Tag) hE goes_none (by decide) rfl ty25 rfl (At.cat (pre := [[(vI p1.Number)], [(vI p1.Version)], Flat.enc p1.Nonce, [v1_1], [v1_2]]) (seg := Flat.enc p1.Tag) (post := []) (hM.rawAt (pre := [])) (cl1 (n := 1) (m := 19) rfl (cl1 (n := 1) (m := 18) rfl (cl1 (n := 16) (m := 2) (Flat.len _) (cl1 (n := 1) (m := 1) rfl (cl1 (n := 1) (m := 0) rfl cl0)))))) (Flat.len _) ?_; intro a hE
            obtain ⟨r16, e17, hF⟩ := bind_some hF
            refine s_call (vs := [(Value.agg (Flat.enc p0.Tag).toArray), (Value.agg (Flat.enc p1.Tag).toArray)]) hE goes_none (by decide) rfl cb10 (c_laws_eqDigest _ p0.Tag p1.Tag r16 e17) ?_
            rintro v w a ⟨rfl, hK⟩ hE
            have hM := hM.keep hK
            refine s_not hE goes_none (by decide) rfl ?_; intro a hE
            refine c_fin ?_
            refine c_cond hE rfl ?_ ?_
            · intro hb18
              have hF := ite_t hF hb18
              refine c_region ?_
              refine s_assign hE goes_none (by decide) rfl ?_; intro a hE
              refine c_fin ?_
              have hr := Option.some.inj hF
              subst hr
              have hM := M.fst (l := []) hM
              exact wp_ret (r_then (k_ret1 hE rfl (res_tmp hE rfl) ⟨_, rfl, rfl, hM.kept⟩))
            · intro hb18
              have hF := ite_f hF hb18
              refine wp_skip ?_
              refine c_nx ?_
              refine c_region ?_
              refine s_assign hE goes_none (by decide) rfl ?_; intro a hE
              refine c_fin ?_
              have hr := Option.some.inj hF
              subst hr
              have hM := M.fst (l := []) hM
              exact wp_ret (k_ret1 hE rfl (res_tmp hE rfl) ⟨_, rfl, rfl, hM.kept⟩)
noncomputable def L0_laws_eqRecordS (p0 : (List GRecord)) (p1 : (List GRecord)) (s6 : Int) : Option (Fl Int (Fl Unit Bool)) :=
  if (decide (s6 < (p0.length : Int))) = true then (((idx p0 s6).bind fun (x15 : GRecord) => (idx p1 s6).bind fun (x25 : GRecord) => (F_laws_eqRecord x15 x25).bind fun (r35 : Bool) => some (!r35) : Option (Bool)).bind fun (j11 : Bool) => if j11 = true then (some (Fl.ex (Fl.ex false))) else (some (Fl.nx (wr (s6 + 1))))) else (some (Fl.ex (Fl.nx ())))
noncomputable def F_laws_eqRecordS (p0 : (List GRecord)) (p1 : (List GRecord)) : Option (Bool) :=
  if ((p0.length : Int) != (p1.length : Int)) = true then (some false) else ((iter (L0_laws_eqRecordS p0 p1) 0 : Option (Fl Unit Bool)).bind fun (j2 : Fl Unit Bool) => j2.el (fun (s5 : Unit) => some true) (fun r => some r))
set_option maxRecDepth 20000 in
set_option maxHeartbeats 400000 in
theorem c_laws_eqRecordS (w0 : World) (p0 : (List GRecord)) (v0_1 : Value) (hv0_1 : Ro w0 p0 [v0_1]) (p1 : (List GRecord)) (v1_1 : Value) (hv1_1 : Ro w0 p1 [v1_1]) (r : Bool) (hF : F_laws_eqRecordS p0 p1 = some r) :
    Calls Try.prog 38 [v0_1, v1_1].toArray w0 (fun en w' => ∃ v, en = .returned v ∧ (v = (vT r) ∧ Kept (Old w0) w0 w')) := by
  refine c_enter (n := 27) Try.func38 rfl rfl (Nat.le_of_ble_eq_true rfl) rfl ?_
  intro a hE
  have hM := M.start w0
  unfold F_laws_eqRecordS at hF
  refine c_region ?_
  refine s_assign hE goes_none (by decide) rfl ?_; intro a hE
  refine c_fin ?_
  refine wp_seq ?_
  refine c_region ?_
  refine s_move hE goes_none (by decide) rfl ?_; intro a hE
  refine s_len hE goes_none (by decide) rfl Try.underlying35 (hM.rd hv0_1) ?_; intro a hE
  refine s_move hE goes_none (by decide) rfl ?_; intro a hE
  refine s_len hE goes_none (by decide) rfl Try.underlying35 (hM.rd hv1_1) ?_; intro a hE
  refine s_int hE goes_none (by decide) rfl rfl rfl ?_; intro a hE
  refine c_fin ?_
  refine c_cond hE rfl ?_ ?_
  · intro hb1
    have hF := ite_t hF hb1
    refine c_region ?_
    refine s_assign hE goes_none (by decide) rfl ?_; intro a hE
    refine c_fin ?_
    have hr := Option.some.inj hF
    subst hr
    exact wp_ret (r_then (k_ret1 hE rfl (res_tmp hE rfl) ⟨_, rfl, rfl, hM.kept⟩))
  · intro hb1
    have hF := ite_f hF hb1
    refine wp_skip ?_
    refine c_nx ?_
    refine wp_seq ?_
    refine c_region ?_
    refine s_assign hE goes_none (by decide) rfl ?_; intro a hE
    refine c_fin ?_
    obtain ⟨j2, hl3, hF4⟩ := bind_some hF
    refine c_cut (fun a w => ∃ s5 : Unit, j2 = Fl.nx s5 ∧ Env 27 a [] ∧ M (Old w0) w0 w []) ?_ ?_
    · skip
      refine wp_block ?_
      refine c_loop (fun (s6 : Int) a w => Env 27 a [(0, v0_1), (1, v1_1), (5, (vI s6))] ∧ M (Old w0) w0 w []) hl3 ⟨hE.sub ⟨rfl, rfl, rfl, trivial⟩, hM⟩ ?_
      rintro s6 a w ⟨hE, hM⟩ o9 hs7 hx8
      unfold L0_laws_eqRecordS at hs7
      refine wp_seq ?_
      refine c_region ?_
      refine s_move hE goes_none (by decide) rfl ?_; intro a hE
      refine s_move hE goes_none (by decide) rfl ?_; intro a hE
      refine s_len hE goes_none (by decide) rfl Try.underlying35 (hM.rd hv0_1) ?_; intro a hE
      refine s_int hE goes_none (by decide) rfl rfl rfl ?_; intro a hE
      refine c_fin ?_
      refine c_cond hE rfl ?_ ?_
      · intro hb10
        have hs7 := ite_t hs7 hb10
        refine wp_skip ?_
        refine c_nx ?_
        refine wp_seq ?_
        refine wp_block ?_
        obtain ⟨j11, hl12, hF13⟩ := bind_some hs7
        refine c_join (fun a w => Env 27 a [(0, v0_1), (1, v1_1), (5, (vI s6)), (26, (vT j11))] ∧ M (Old w0) w0 w []) ?_ ?_
        · skip
          obtain ⟨x15, e16, hl12⟩ := bind_some hl12
          have hi17 := idx_some e16
          obtain ⟨cs18, hs19, hA20⟩ := sl_atRo hv0_1 hi17.2 -- ^
          obtain ⟨u21, u23, rfl, h22, h24⟩ := un_GRecord hs19 -- ^
          obtain ⟨x25, e26, hl12⟩ := bind_some hl12
          have hi27 := idx_some e26
          obtain ⟨cs28, hs29, hA30⟩ := sl_atRo hv1_1 hi27.2 -- ^
          obtain ⟨u31, u33, rfl, h32, h34⟩ := un_GRecord hs29 -- ^
          obtain ⟨r35, e36, hl12⟩ := bind_some hl12
          refine c_draw (n := 27) (hd := [_, _, _, _, _, _, _, _, _, _]) (tl := []) hmix rfl rfl [17, 18, 19, 20, 21, 22, 23, 24, 25, 26] (by decide) (fun w => M (Old w0) w0 w []) (fun j => ([fun v _ => v = v0_1, fun v _ => v = (vI s6), fun v _ => v = (ptr (sb v0_1) (so v0_1 + (s6).toNat * 52)), fun v _ => v = (Value.agg (cat [[(vI x15.Number)], [(vI x15.Version)], Flat.enc x15.Nonce, [u21], [u23], Flat.enc x15.Tag]).toArray), fun v _ => v = v1_1, fun v _ => v = (vI s6), fun v _ => v = (ptr (sb v1_1) (so v1_1 + (s6).toNat * 52)), fun v _ => v = (Value.agg (cat [[(vI x25.Number)], [(vI x25.Version)], Flat.enc x25.Nonce, [u31], [u33], Flat.enc x25.Tag]).toArray), fun v _ => v = (vT r35), fun v _ => v = (vT (!r35))] : List (Value → World → Prop)).getD j (fun _ _ => True)) (fun _ _ h hk => h.keep hk) (gup (gupE (gupE (gupE (gupE (gupE (gupE (gupE (gupE (gupE (gupE gupN))))))))))) hE hM.drew (steps_of (steps_cons ?_ (steps_cons ?_ (steps_cons ?_ (steps_cons ?_ (steps_cons ?_ (steps_cons ?_ (steps_cons ?_ (steps_cons ?_ (steps_cons ?_ (steps_cons ?_ steps_nil))))))))))) ?_
          · intro a w ux14 hE hM hp
            refine s_move hE goes_none (by decide) rfl ?_; intro a hE
            exact ⟨Kept.refl _ _, _, _, rfl, hE, rfl⟩
          · intro a w ux14 hE hM hp
            refine s_move hE goes_none (by decide) rfl ?_; intro a hE
            exact ⟨Kept.refl _ _, _, _, rfl, hE, rfl⟩
          · intro a w ux14 hE hM hp
            have f0 : ux14 0 = v0_1 := hp 0 _ rfl rfl
            have f1 : ux14 1 = (vI s6) := hp 1 _ rfl rfl
            refine s_indexS hE goes_none (by decide) (lk rfl f0) (lk rfl f1) Try.underlying35 ty114 (hM.rd hv0_1) hi17.1 ?_; intro a hE
            exact ⟨Kept.refl _ _, _, _, rfl, hE, rfl⟩
          · intro a w ux14 hE hM hp
            have f2 : ux14 2 = (ptr (sb v0_1) (so v0_1 + (s6).toNat * 52)) := hp 0 _ rfl rfl
            refine s_loadA (cs := cat [[(vI x15.Number)], [(vI x15.Version)], Flat.enc x15.Nonce, [u21], [u23], Flat.enc x15.Tag]) hE goes_none (by decide) (lk rfl f2) ty114 rfl (hM.atk hA20 (sl_blk hv0_1 hi17.2)) (cat_len (cl1 (n := 1) (m := 51) rfl (cl1 (n := 1) (m := 50) rfl (cl1 (n := 16) (m := 34) (Flat.len _) (cl1 (n := 1) (m := 33) rfl (cl1 (n := 1) (m := 32) rfl (cl1 (n := 32) (m := 0) (Flat.len _) cl0))))))) ?_; intro a hE
            exact ⟨Kept.refl _ _, _, _, rfl, hE, rfl⟩
          · intro a w ux14 hE hM hp
            refine s_move hE goes_none (by decide) rfl ?_; intro a hE
            exact ⟨Kept.refl _ _, _, _, rfl, hE, rfl⟩
          · intro a w ux14 hE hM hp
            refine s_move hE goes_none (by decide) rfl ?_; intro a hE
            exact ⟨Kept.refl _ _, _, _, rfl, hE, rfl⟩
          · intro a w ux14 hE hM hp
            have f4 : ux14 4 = v1_1 := hp 0 _ rfl rfl
            have f5 : ux14 5 = (vI s6) := hp 1 _ rfl rfl
            refine s_indexS hE goes_none (by decide) (lk rfl f4) (lk rfl f5) Try.underlying35 ty114 (hM.rd hv1_1) hi27.1 ?_; intro a hE
            exact ⟨Kept.refl _ _, _, _, rfl, hE, rfl⟩
          · intro a w ux14 hE hM hp
            have f6 : ux14 6 = (ptr (sb v1_1) (so v1_1 + (s6).toNat * 52)) := hp 0 _ rfl rfl
            refine s_loadA (cs := cat [[(vI x25.Number)], [(vI x25.Version)], Flat.enc x25.Nonce, [u31], [u33], Flat.enc x25.Tag]) hE goes_none (by decide) (lk rfl f6) ty114 rfl (hM.atk hA30 (sl_blk hv1_1 hi27.2)) (cat_len (cl1 (n := 1) (m := 51) rfl (cl1 (n := 1) (m := 50) rfl (cl1 (n := 16) (m := 34) (Flat.len _) (cl1 (n := 1) (m := 33) rfl (cl1 (n := 1) (m := 32) rfl (cl1 (n := 32) (m := 0) (Flat.len _) cl0))))))) ?_; intro a hE
            exact ⟨Kept.refl _ _, _, _, rfl, hE, rfl⟩
          · intro a w ux14 hE hM hp
            have f3 : ux14 3 = (Value.agg (cat [[(vI x15.Number)], [(vI x15.Version)], Flat.enc x15.Nonce, [u21], [u23], Flat.enc x15.Tag]).toArray) := hp 0 _ rfl rfl
            have f7 : ux14 7 = (Value.agg (cat [[(vI x25.Number)], [(vI x25.Version)], Flat.enc x25.Nonce, [u31], [u33], Flat.enc x25.Tag]).toArray) := hp 1 _ rfl rfl
            refine s_call (vs := [(Value.agg (cat [[(vI x15.Number)], [(vI x15.Version)], Flat.enc x15.Nonce, [u21], [u23], Flat.enc x15.Tag]).toArray), (Value.agg (cat [[(vI x25.Number)], [(vI x25.Version)], Flat.enc x25.Nonce, [u31], [u33], Flat.enc x25.Tag]).toArray)]) hE goes_none (by decide) (evs_of (evsC (lk rfl f3) (evsC (lk rfl f7) evsN))) cb73 (c_laws_eqRecord _ x15 u21 (hM.rdo h22) u23 (hM.rdo h24) x25 u31 (hM.rdo h32) u33 (hM.rdo h34) r35 e36) ?_
            rintro v w a ⟨rfl, hK⟩ hE
            exact ⟨hK, _, _, rfl, hE, rfl⟩
          · intro a w ux14 hE hM hp
            have f8 : ux14 8 = (vT r35) := hp 0 _ rfl rfl
            refine s_not hE goes_none (by decide) (lk rfl f8) ?_; intro a hE
            exact ⟨Kept.refl _ _, _, _, rfl, hE, rfl⟩
          · intro a w ux14 hE hM hg
            have f0 : ux14 0 = v0_1 := hg 0 (by decide)
            have f1 : ux14 1 = (vI s6) := hg 1 (by decide)
            have f2 : ux14 2 = (ptr (sb v0_1) (so v0_1 + (s6).toNat * 52)) := hg 2 (by decide)
            have f3 : ux14 3 = (Value.agg (cat [[(vI x15.Number)], [(vI x15.Version)], Flat.enc x15.Nonce, [u21], [u23], Flat.enc x15.Tag]).toArray) := hg 3 (by decide)
            have f4 : ux14 4 = v1_1 := hg 4 (by decide)
            have f5 : ux14 5 = (vI s6) := hg 5 (by decide)
            have f6 : ux14 6 = (ptr (sb v1_1) (so v1_1 + (s6).toNat * 52)) := hg 6 (by decide)
            have f7 : ux14 7 = (Value.agg (cat [[(vI x25.Number)], [(vI x25.Version)], Flat.enc x25.Nonce, [u31], [u33], Flat.enc x25.Tag]).toArray) := hg 7 (by decide)
            have f8 : ux14 8 = (vT r35) := hg 8 (by decide)
            have f9 : ux14 9 = (vT (!r35)) := hg 9 (by decide)
            have hE := hE.sub (e' := [(17, v0_1), (18, (vI s6)), (19, (ptr (sb v0_1) (so v0_1 + (s6).toNat * 52))), (20, (Value.agg (cat [[(vI x15.Number)], [(vI x15.Version)], Flat.enc x15.Nonce, [u21], [u23], Flat.enc x15.Tag]).toArray)), (21, v1_1), (22, (vI s6)), (23, (ptr (sb v1_1) (so v1_1 + (s6).toNat * 52))), (24, (Value.agg (cat [[(vI x25.Number)], [(vI x25.Version)], Flat.enc x25.Nonce, [u31], [u33], Flat.enc x25.Tag]).toArray)), (25, (vT r35)), (26, (vT (!r35))), (0, v0_1), (1, v1_1), (5, (vI s6)), (11, (vI s6)), (12, v0_1), (13, (vI (p0.length : Int))), (14, (vT (decide (s6 < (p0.length : Int)))))]) ⟨lk rfl f0, lk rfl f1, lk rfl f2, lk rfl f3, lk rfl f4, lk rfl f5, lk rfl f6, lk rfl f7, lk rfl f8, lk rfl f9, rfl, rfl, rfl, rfl, rfl, rfl, rfl, trivial⟩
            refine c_fin0 ?_
            have ht37 := Option.some.inj hl12
            subst ht37
            refine c_mid ?_
            exact ⟨hE.sub ⟨rfl, rfl, rfl, rfl, trivial⟩, hM⟩
        · skip
          rintro a w ⟨hE, hM⟩
          refine c_cond hE rfl ?_ ?_
          · intro hb38
            have hF13 := ite_t hF13 hb38
            refine c_region ?_
            refine s_assign hE goes_none (by decide) rfl ?_; intro a hE
            refine c_fin ?_
            have ht39 := hx8 _ (Option.some.inj hF13).symm
            subst ht39
            have hr := Option.some.inj hF4
            subst hr
            exact wp_ret (r_inb (r_then (r_then (r_inb (r_then (r_then (k_ret1 hE rfl (res_tmp hE rfl) ⟨_, rfl, rfl, hM.kept⟩)))))))
          · intro hb38
            have hF13 := ite_f hF13 hb38
            refine wp_skip ?_
            refine c_nb ?_
            refine c_nx ?_
            refine wp_region_lit ?_
            refine s_move hE goes_none (by decide) rfl ?_; intro a hE
            refine s_int hE goes_none (by decide) rfl rfl rfl ?_; intro a hE
            refine s_assign hE goes_none (by decide) rfl ?_; intro a hE
            refine c_fin0 ?_
            refine c_mid ?_
            exact ⟨_, (Option.some.inj hF13).symm, hE.sub ⟨rfl, rfl, rfl, trivial⟩, hM⟩
      · intro hb10
        have hs7 := ite_f hs7 hb10
        refine wp_exit (e_then (e_then (e_eq ?_)))
        have ht40 := hx8 _ (Option.some.inj hs7).symm
        subst ht40
        refine c_mid ?_
        exact ⟨(), rfl, hE.sub trivial, hM⟩
    · skip
      rintro a w ⟨s5, ht, hE, hM⟩
      subst ht
      have hF4 := el_nx hF4
      refine c_nx ?_
      refine c_region ?_
      refine s_assign hE goes_none (by decide) rfl ?_; intro a hE
      refine c_fin ?_
      have hr := Option.some.inj hF4
      subst hr
      exact wp_ret (k_ret1 hE rfl (res_tmp hE rfl) ⟨_, rfl, rfl, hM.kept⟩)
noncomputable def F_laws_eqEvent (p0 : GEvent) (p1 : GEvent) : Option (Bool) :=
  if (p0.Kind != p1.Kind) = true then (some false) else (if (p0.Number != p1.Number) = true then (some false) else ((F_laws_eqDigest p0.Tag p1.Tag).bind fun (r7 : Bool) => if (!r7) = true then (some false) else (some true)))
set_option maxRecDepth 20000 in
set_option maxHeartbeats 400000 in
theorem c_laws_eqEvent (w0 : World) (p0 : GEvent) (p1 : GEvent) (r : Bool) (hF : F_laws_eqEvent p0 p1 = some r) :
    Calls Try.prog 36 [(Value.agg (Flat.enc p0).toArray), (Value.agg (Flat.enc p1).toArray)].toArray w0 (fun en w' => ∃ v, en = .returned v ∧ (v = (vT r) ∧ Kept (Old w0) w0 w')) := by
  refine c_enter (n := 21) Try.func36 rfl rfl (Nat.le_of_ble_eq_true rfl) rfl ?_
  intro a hE
  have hM := M.start w0
  unfold F_laws_eqEvent at hF
  refine c_region ?_
  refine s_box (cs := cat [[(vI p0.Kind)], [(vI p0.Number)], Flat.enc p0.Tag]) hE hM goes_none (by decide) rfl rfl ?_; intro b1 w a hM hE
  refine s_box (cs := cat [[(vI p1.Kind)], [(vI p1.Number)], Flat.enc p1.Tag]) hE hM goes_none (by decide) rfl rfl ?_; intro b3 w a hM hE
  refine s_assign hE goes_none (by decide) rfl ?_; intro a hE
  refine c_fin ?_
  refine wp_seq ?_
  refine c_region ?_
  refine s_fieldAddr hE goes_none (by decide) rfl (fd65_0) ?_; intro a hE
  refine s_load (v := (vI p0.Kind)) hE goes_none (by decide) rfl ty2 rfl (At.cat (pre := []) (seg := [(vI p0.Kind)]) (post := [[(vI p0.Number)], Flat.enc p0.Tag]) (hM.rawAt (pre := [_])) cl0) ?_; intro a hE
  refine s_fieldAddr hE goes_none (by decide) rfl (fd65_0) ?_; intro a hE
  refine s_load (v := (vI p1.Kind)) hE goes_none (by decide) rfl ty2 rfl (At.cat (pre := []) (seg := [(vI p1.Kind)]) (post := [[(vI p1.Number)], Flat.enc p1.Tag]) (hM.rawAt (pre := [])) cl0) ?_; intro a hE
  refine s_int hE goes_none (by decide) rfl rfl rfl ?_; intro a hE
  refine c_fin ?_
  refine c_cond hE rfl ?_ ?_
  · intro hb5
    have hF := ite_t hF hb5
    refine c_region ?_
    refine s_assign hE goes_none (by decide) rfl ?_; intro a hE
    refine c_fin ?_
    have hr := Option.some.inj hF
    subst hr
    have hM := M.fst (l := []) hM
    exact wp_ret (r_then (k_ret1 hE rfl (res_tmp hE rfl) ⟨_, rfl, rfl, hM.kept⟩))
  · intro hb5
    have hF := ite_f hF hb5
    refine wp_skip ?_
    refine c_nx ?_
    refine wp_seq ?_
    refine c_region ?_
    refine s_fieldAddr hE goes_none (by decide) rfl (fd65_1) ?_; intro a hE
    refine s_load (v := (vI p0.Number)) hE goes_none (by decide) rfl ty2 rfl (At.cat (pre := [[(vI p0.Kind)]]) (seg := [(vI p0.Number)]) (post := [Flat.enc p0.Tag]) (hM.rawAt (pre := [_])) (cl1 (n := 1) (m := 0) rfl cl0)) ?_; intro a hE
    refine s_fieldAddr hE goes_none (by decide) rfl (fd65_1) ?_; intro a hE
    refine s_load (v := (vI p1.Number)) hE goes_none (by decide) rfl ty2 rfl (At.cat (pre := [[(vI p1.Kind)]]) (seg := [(vI p1.Number)]) (post := [Flat.enc p1.Tag]) (hM.rawAt (pre := [])) (cl1 (n := 1) (m := 0) rfl cl0)) ?_; intro a hE
    refine s_int hE goes_none (by decide) rfl rfl rfl ?_; intro a hE
    refine c_fin ?_
    refine c_cond hE rfl ?_ ?_
    · intro hb6
      have hF := ite_t hF hb6
      refine c_region ?_
      refine s_assign hE goes_none (by decide) rfl ?_; intro a hE
      refine c_fin ?_
      have hr := Option.some.inj hF
      subst hr
      have hM := M.fst (l := []) hM
      exact wp_ret (r_then (k_ret1 hE rfl (res_tmp hE rfl) ⟨_, rfl, rfl, hM.kept⟩))
    · intro hb6
      have hF := ite_f hF hb6
      refine wp_skip ?_
      refine c_nx ?_
      refine wp_seq ?_
      refine c_region ?_
      refine s_fieldAddr hE goes_none (by decide) rfl (fd65_2) ?_; intro a hE
      refine s_loadA (cs := Flat.enc p0.Tag) hE goes_none (by decide) rfl ty25 rfl (At.cat (pre := [[(vI p0.Kind)], [(vI p0.Number)]]) (seg := Flat.enc p0.Tag) (post := []) (hM.rawAt (pre := [_])) (cl1 (n := 1) (m := 1) rfl (cl1 (n := 1) (m := 0) rfl cl0))) (Flat.len _) ?_; intro a hE
      refine s_fieldAddr hE goes_none (by decide) rfl (fd65_2) ?_; intro a hE
      refine s_loadA (cs := Flat.enc p1.Tag) hE goes_none (by decide) rfl ty25 rfl (At.cat (pre := [[(vI p1.Kind)], [(vI p1.Number)]]) (seg := Flat.enc p1.Tag) (post := []) (hM.rawAt (pre := [])) (cl1 (n := 1) (m := 1) rfl (cl1 (n := 1) (m := 0) rfl cl0))) (Flat.len _) ?_; intro a hE
      obtain ⟨r7, e8, hF⟩ := bind_some hF
      refine s_call (vs := [(Value.agg (Flat.enc p0.Tag).toArray), (Value.agg (Flat.enc p1.Tag).toArray)]) hE goes_none (by decide) rfl cb10 (c_laws_eqDigest _ p0.Tag p1.Tag r7 e8) ?_
      rintro v w a ⟨rfl, hK⟩ hE
      have hM := hM.keep hK
      refine s_not hE goes_none (by decide) rfl ?_; intro a hE
      refine c_fin ?_
      refine c_cond hE rfl ?_ ?_
      · intro hb9
        have hF := ite_t hF hb9
        refine c_region ?_
        refine s_assign hE goes_none (by decide) rfl ?_; intro a hE
        refine c_fin ?_
        have hr := Option.some.inj hF
        subst hr
        have hM := M.fst (l := []) hM
        exact wp_ret (r_then (k_ret1 hE rfl (res_tmp hE rfl) ⟨_, rfl, rfl, hM.kept⟩))
      · intro hb9
        have hF := ite_f hF hb9
        refine wp_skip ?_
        refine c_nx ?_
        refine c_region ?_
        refine s_assign hE goes_none (by decide) rfl ?_; intro a hE
        refine c_fin ?_
        have hr := Option.some.inj hF
        subst hr
        have hM := M.fst (l := []) hM
        exact wp_ret (k_ret1 hE rfl (res_tmp hE rfl) ⟨_, rfl, rfl, hM.kept⟩)
noncomputable def L0_laws_eqEventS (p0 : (List GEvent)) (p1 : (List GEvent)) (s6 : Int) : Option (Fl Int (Fl Unit Bool)) :=
  if (decide (s6 < (p0.length : Int))) = true then (((idx p0 s6).bind fun (x15 : GEvent) => (idx p1 s6).bind fun (x18 : GEvent) => (F_laws_eqEvent x15 x18).bind fun (r21 : Bool) => some (!r21) : Option (Bool)).bind fun (j11 : Bool) => if j11 = true then (some (Fl.ex (Fl.ex false))) else (some (Fl.nx (wr (s6 + 1))))) else (some (Fl.ex (Fl.nx ())))
noncomputable def F_laws_eqEventS (p0 : (List GEvent)) (p1 : (List GEvent)) : Option (Bool) :=
  if ((p0.length : Int) != (p1.length : Int)) = true then (some false) else ((iter (L0_laws_eqEventS p0 p1) 0 : Option (Fl Unit Bool)).bind fun (j2 : Fl Unit Bool) => j2.el (fun (s5 : Unit) => some true) (fun r => some r))
set_option maxRecDepth 20000 in
set_option maxHeartbeats 400000 in
theorem c_laws_eqEventS (w0 : World) (p0 : (List GEvent)) (v0_1 : Value) (hv0_1 : Ro w0 p0 [v0_1]) (p1 : (List GEvent)) (v1_1 : Value) (hv1_1 : Ro w0 p1 [v1_1]) (r : Bool) (hF : F_laws_eqEventS p0 p1 = some r) :
    Calls Try.prog 11 [v0_1, v1_1].toArray w0 (fun en w' => ∃ v, en = .returned v ∧ (v = (vT r) ∧ Kept (Old w0) w0 w')) := by
  refine c_enter (n := 27) Try.func11 rfl rfl (Nat.le_of_ble_eq_true rfl) rfl ?_
  intro a hE
  have hM := M.start w0
  unfold F_laws_eqEventS at hF
  refine c_region ?_
  refine s_assign hE goes_none (by decide) rfl ?_; intro a hE
  refine c_fin ?_
  refine wp_seq ?_
  refine c_region ?_
  refine s_move hE goes_none (by decide) rfl ?_; intro a hE
  refine s_len hE goes_none (by decide) rfl Try.underlying28 (hM.rd hv0_1) ?_; intro a hE
  refine s_move hE goes_none (by decide) rfl ?_; intro a hE
  refine s_len hE goes_none (by decide) rfl Try.underlying28 (hM.rd hv1_1) ?_; intro a hE
  refine s_int hE goes_none (by decide) rfl rfl rfl ?_; intro a hE
  refine c_fin ?_
  refine c_cond hE rfl ?_ ?_
  · intro hb1
    have hF := ite_t hF hb1
    refine c_region ?_
    refine s_assign hE goes_none (by decide) rfl ?_; intro a hE
    refine c_fin ?_
    have hr := Option.some.inj hF
    subst hr
    exact wp_ret (r_then (k_ret1 hE rfl (res_tmp hE rfl) ⟨_, rfl, rfl, hM.kept⟩))
  · intro hb1
    have hF := ite_f hF hb1
    refine wp_skip ?_
    refine c_nx ?_
    refine wp_seq ?_
    refine c_region ?_
    refine s_assign hE goes_none (by decide) rfl ?_; intro a hE
    refine c_fin ?_
    obtain ⟨j2, hl3, hF4⟩ := bind_some hF
    refine c_cut (fun a w => ∃ s5 : Unit, j2 = Fl.nx s5 ∧ Env 27 a [] ∧ M (Old w0) w0 w []) ?_ ?_
    · skip
      refine wp_block ?_
      refine c_loop (fun (s6 : Int) a w => Env 27 a [(0, v0_1), (1, v1_1), (5, (vI s6))] ∧ M (Old w0) w0 w []) hl3 ⟨hE.sub ⟨rfl, rfl, rfl, trivial⟩, hM⟩ ?_
      rintro s6 a w ⟨hE, hM⟩ o9 hs7 hx8
      unfold L0_laws_eqEventS at hs7
      refine wp_seq ?_
      refine c_region ?_
      refine s_move hE goes_none (by decide) rfl ?_; intro a hE
      refine s_move hE goes_none (by decide) rfl ?_; intro a hE
      refine s_len hE goes_none (by decide) rfl Try.underlying28 (hM.rd hv0_1) ?_; intro a hE
      refine s_int hE goes_none (by decide) rfl rfl rfl ?_; intro a hE
      refine c_fin ?_
      refine c_cond hE rfl ?_ ?_
      · intro hb10
        have hs7 := ite_t hs7 hb10
        refine wp_skip ?_
        refine c_nx ?_
        refine wp_seq ?_
        refine wp_block ?_
        obtain ⟨j11, hl12, hF13⟩ := bind_some hs7
        refine c_join (fun a w => Env 27 a [(0, v0_1), (1, v1_1), (5, (vI s6)), (26, (vT j11))] ∧ M (Old w0) w0 w []) ?_ ?_
        · skip
          obtain ⟨x15, e16, hl12⟩ := bind_some hl12
          have hi17 := idx_some e16
          obtain ⟨x18, e19, hl12⟩ := bind_some hl12
          have hi20 := idx_some e19
          obtain ⟨r21, e22, hl12⟩ := bind_some hl12
          refine c_draw (n := 27) (hd := [_, _, _, _, _, _, _, _, _, _]) (tl := []) hmix rfl rfl [17, 18, 19, 20, 21, 22, 23, 24, 25, 26] (by decide) (fun w => M (Old w0) w0 w []) (fun j => ([fun v _ => v = v0_1, fun v _ => v = (vI s6), fun v _ => v = (ptr (sb v0_1) (so v0_1 + (s6).toNat * 34)), fun v _ => v = (Value.agg (Flat.enc x15).toArray), fun v _ => v = v1_1, fun v _ => v = (vI s6), fun v _ => v = (ptr (sb v1_1) (so v1_1 + (s6).toNat * 34)), fun v _ => v = (Value.agg (Flat.enc x18).toArray), fun v _ => v = (vT r21), fun v _ => v = (vT (!r21))] : List (Value → World → Prop)).getD j (fun _ _ => True)) (fun _ _ h hk => h.keep hk) (gup (gupE (gupE (gupE (gupE (gupE (gupE (gupE (gupE (gupE (gupE gupN))))))))))) hE hM.drew (steps_of (steps_cons ?_ (steps_cons ?_ (steps_cons ?_ (steps_cons ?_ (steps_cons ?_ (steps_cons ?_ (steps_cons ?_ (steps_cons ?_ (steps_cons ?_ (steps_cons ?_ steps_nil))))))))))) ?_
          · intro a w ux14 hE hM hp
            refine s_move hE goes_none (by decide) rfl ?_; intro a hE
            exact ⟨Kept.refl _ _, _, _, rfl, hE, rfl⟩
          · intro a w ux14 hE hM hp
            refine s_move hE goes_none (by decide) rfl ?_; intro a hE
            exact ⟨Kept.refl _ _, _, _, rfl, hE, rfl⟩
          · intro a w ux14 hE hM hp
            have f0 : ux14 0 = v0_1 := hp 0 _ rfl rfl
            have f1 : ux14 1 = (vI s6) := hp 1 _ rfl rfl
            refine s_indexS hE goes_none (by decide) (lk rfl f0) (lk rfl f1) Try.underlying28 ty65 (hM.rd hv0_1) hi17.1 ?_; intro a hE
            exact ⟨Kept.refl _ _, _, _, rfl, hE, rfl⟩
          · intro a w ux14 hE hM hp
            have f2 : ux14 2 = (ptr (sb v0_1) (so v0_1 + (s6).toNat * 34)) := hp 0 _ rfl rfl
            refine s_loadA (cs := Flat.enc x15) hE goes_none (by decide) (lk rfl f2) ty65 rfl (sl_atF (hM.rd hv0_1) hi17.2) (cat_len (cl1 (n := 1) (m := 33) rfl (cl1 (n := 1) (m := 32) rfl (cl1 (n := 32) (m := 0) (Flat.len _) cl0)))) ?_; intro a hE
            exact ⟨Kept.refl _ _, _, _, rfl, hE, rfl⟩
          · intro a w ux14 hE hM hp
            refine s_move hE goes_none (by decide) rfl ?_; intro a hE
            exact ⟨Kept.refl _ _, _, _, rfl, hE, rfl⟩
          · intro a w ux14 hE hM hp
            refine s_move hE goes_none (by decide) rfl ?_; intro a hE
            exact ⟨Kept.refl _ _, _, _, rfl, hE, rfl⟩
          · intro a w ux14 hE hM hp
            have f4 : ux14 4 = v1_1 := hp 0 _ rfl rfl
            have f5 : ux14 5 = (vI s6) := hp 1 _ rfl rfl
            refine s_indexS hE goes_none (by decide) (lk rfl f4) (lk rfl f5) Try.underlying28 ty65 (hM.rd hv1_1) hi20.1 ?_; intro a hE
            exact ⟨Kept.refl _ _, _, _, rfl, hE, rfl⟩
          · intro a w ux14 hE hM hp
            have f6 : ux14 6 = (ptr (sb v1_1) (so v1_1 + (s6).toNat * 34)) := hp 0 _ rfl rfl
            refine s_loadA (cs := Flat.enc x18) hE goes_none (by decide) (lk rfl f6) ty65 rfl (sl_atF (hM.rd hv1_1) hi20.2) (cat_len (cl1 (n := 1) (m := 33) rfl (cl1 (n := 1) (m := 32) rfl (cl1 (n := 32) (m := 0) (Flat.len _) cl0)))) ?_; intro a hE
            exact ⟨Kept.refl _ _, _, _, rfl, hE, rfl⟩
          · intro a w ux14 hE hM hp
            have f3 : ux14 3 = (Value.agg (Flat.enc x15).toArray) := hp 0 _ rfl rfl
            have f7 : ux14 7 = (Value.agg (Flat.enc x18).toArray) := hp 1 _ rfl rfl
            refine s_call (vs := [(Value.agg (Flat.enc x15).toArray), (Value.agg (Flat.enc x18).toArray)]) hE goes_none (by decide) (evs_of (evsC (lk rfl f3) (evsC (lk rfl f7) evsN))) cb36 (c_laws_eqEvent _ x15 x18 r21 e22) ?_
            rintro v w a ⟨rfl, hK⟩ hE
            exact ⟨hK, _, _, rfl, hE, rfl⟩
          · intro a w ux14 hE hM hp
            have f8 : ux14 8 = (vT r21) := hp 0 _ rfl rfl
            refine s_not hE goes_none (by decide) (lk rfl f8) ?_; intro a hE
            exact ⟨Kept.refl _ _, _, _, rfl, hE, rfl⟩
          · intro a w ux14 hE hM hg
            have f0 : ux14 0 = v0_1 := hg 0 (by decide)
            have f1 : ux14 1 = (vI s6) := hg 1 (by decide)
            have f2 : ux14 2 = (ptr (sb v0_1) (so v0_1 + (s6).toNat * 34)) := hg 2 (by decide)
            have f3 : ux14 3 = (Value.agg (Flat.enc x15).toArray) := hg 3 (by decide)
            have f4 : ux14 4 = v1_1 := hg 4 (by decide)
            have f5 : ux14 5 = (vI s6) := hg 5 (by decide)
            have f6 : ux14 6 = (ptr (sb v1_1) (so v1_1 + (s6).toNat * 34)) := hg 6 (by decide)
            have f7 : ux14 7 = (Value.agg (Flat.enc x18).toArray) := hg 7 (by decide)
            have f8 : ux14 8 = (vT r21) := hg 8 (by decide)
            have f9 : ux14 9 = (vT (!r21)) := hg 9 (by decide)
            have hE := hE.sub (e' := [(17, v0_1), (18, (vI s6)), (19, (ptr (sb v0_1) (so v0_1 + (s6).toNat * 34))), (20, (Value.agg (Flat.enc x15).toArray)), (21, v1_1), (22, (vI s6)), (23, (ptr (sb v1_1) (so v1_1 + (s6).toNat * 34))), (24, (Value.agg (Flat.enc x18).toArray)), (25, (vT r21)), (26, (vT (!r21))), (0, v0_1), (1, v1_1), (5, (vI s6)), (11, (vI s6)), (12, v0_1), (13, (vI (p0.length : Int))), (14, (vT (decide (s6 < (p0.length : Int)))))]) ⟨lk rfl f0, lk rfl f1, lk rfl f2, lk rfl f3, lk rfl f4, lk rfl f5, lk rfl f6, lk rfl f7, lk rfl f8, lk rfl f9, rfl, rfl, rfl, rfl, rfl, rfl, rfl, trivial⟩
            refine c_fin0 ?_
            have ht23 := Option.some.inj hl12
            subst ht23
            refine c_mid ?_
            exact ⟨hE.sub ⟨rfl, rfl, rfl, rfl, trivial⟩, hM⟩
        · skip
          rintro a w ⟨hE, hM⟩
          refine c_cond hE rfl ?_ ?_
          · intro hb24
            have hF13 := ite_t hF13 hb24
            refine c_region ?_
            refine s_assign hE goes_none (by decide) rfl ?_; intro a hE
            refine c_fin ?_
            have ht25 := hx8 _ (Option.some.inj hF13).symm
            subst ht25
            have hr := Option.some.inj hF4
            subst hr
            exact wp_ret (r_inb (r_then (r_then (r_inb (r_then (r_then (k_ret1 hE rfl (res_tmp hE rfl) ⟨_, rfl, rfl, hM.kept⟩)))))))
          · intro hb24
            have hF13 := ite_f hF13 hb24
            refine wp_skip ?_
            refine c_nb ?_
            refine c_nx ?_
            refine wp_region_lit ?_
            refine s_move hE goes_none (by decide) rfl ?_; intro a hE
            refine s_int hE goes_none (by decide) rfl rfl rfl ?_; intro a hE
            refine s_assign hE goes_none (by decide) rfl ?_; intro a hE
            refine c_fin0 ?_
            refine c_mid ?_
            exact ⟨_, (Option.some.inj hF13).symm, hE.sub ⟨rfl, rfl, rfl, trivial⟩, hM⟩
      · intro hb10
        have hs7 := ite_f hs7 hb10
        refine wp_exit (e_then (e_then (e_eq ?_)))
        have ht26 := hx8 _ (Option.some.inj hs7).symm
        subst ht26
        refine c_mid ?_
        exact ⟨(), rfl, hE.sub trivial, hM⟩
    · skip
      rintro a w ⟨s5, ht, hE, hM⟩
      subst ht
      have hF4 := el_nx hF4
      refine c_nx ?_
      refine c_region ?_
      refine s_assign hE goes_none (by decide) rfl ?_; intro a hE
      refine c_fin ?_
      have hr := Option.some.inj hF4
      subst hr
      exact wp_ret (k_ret1 hE rfl (res_tmp hE rfl) ⟨_, rfl, rfl, hM.kept⟩)
noncomputable def F_laws_eqVault (p0 : GVault) (p1 : GVault) : Option (Bool) :=
  (F_laws_eqBlockS p0.Keys p1.Keys).bind fun (r5 : Bool) => if (!r5) = true then (some false) else (if (p0.Next != p1.Next) = true then (some false) else ((F_laws_eqRecordS p0.Records p1.Records).bind fun (r9 : Bool) => if (!r9) = true then (some false) else ((F_laws_eqEventS p0.Events p1.Events).bind fun (r12 : Bool) => if (!r12) = true then (some false) else ((F_laws_eqDigest p0.Head p1.Head).bind fun (r15 : Bool) => if (!r15) = true then (some false) else (some true)))))
set_option maxRecDepth 20000 in
set_option maxHeartbeats 400000 in
theorem c_laws_eqVault (w0 : World) (p0 : GVault) (v0_1 : Value) (hv0_1 : Ro w0 p0.Keys [v0_1]) (v0_2 : Value) (hv0_2 : Ro w0 p0.Records [v0_2]) (v0_3 : Value) (hv0_3 : Ro w0 p0.Events [v0_3]) (p1 : GVault) (v1_1 : Value) (hv1_1 : Ro w0 p1.Keys [v1_1]) (v1_2 : Value) (hv1_2 : Ro w0 p1.Records [v1_2]) (v1_3 : Value) (hv1_3 : Ro w0 p1.Events [v1_3]) (r : Bool) (hF : F_laws_eqVault p0 p1 = some r) :
    Calls Try.prog 15 [(Value.agg (cat [[v0_1], [(vI p0.Next)], [v0_2], [v0_3], Flat.enc p0.Head]).toArray), (Value.agg (cat [[v1_1], [(vI p1.Next)], [v1_2], [v1_3], Flat.enc p1.Head]).toArray)].toArray w0 (fun en w' => ∃ v, en = .returned v ∧ (v = (vT r) ∧ Kept (Old w0) w0 w')) := by
  refine c_enter (n := 34) Try.func15 rfl rfl (Nat.le_of_ble_eq_true rfl) rfl ?_
  intro a hE
  have hM := M.start w0
  unfold F_laws_eqVault at hF
  refine c_region ?_
  refine s_box (cs := cat [[v0_1], [(vI p0.Next)], [v0_2], [v0_3], Flat.enc p0.Head]) hE hM goes_none (by decide) rfl rfl ?_; intro b1 w a hM hE
  refine s_box (cs := cat [[v1_1], [(vI p1.Next)], [v1_2], [v1_3], Flat.enc p1.Head]) hE hM goes_none (by decide) rfl rfl ?_; intro b3 w a hM hE
  refine s_assign hE goes_none (by decide) rfl ?_; intro a hE
  refine c_fin ?_
  refine wp_seq ?_
  refine c_region ?_
  refine s_fieldAddr hE goes_none (by decide) rfl (fd37_0) ?_; intro a hE
  refine s_load (v := v0_1) hE goes_none (by decide) rfl ty34 rfl (At.cat (pre := []) (seg := [v0_1]) (post := [[(vI p0.Next)], [v0_2], [v0_3], Flat.enc p0.Head]) (hM.rawAt (pre := [_])) cl0) ?_; intro a hE
  refine s_fieldAddr hE goes_none (by decide) rfl (fd37_0) ?_; intro a hE
  refine s_load (v := v1_1) hE goes_none (by decide) rfl ty34 rfl (At.cat (pre := []) (seg := [v1_1]) (post := [[(vI p1.Next)], [v1_2], [v1_3], Flat.enc p1.Head]) (hM.rawAt (pre := [])) cl0) ?_; intro a hE
  obtain ⟨r5, e6, hF⟩ := bind_some hF
  refine s_call (vs := [v0_1, v1_1]) hE goes_none (by decide) rfl cb37 (c_laws_eqBlockS _ p0.Keys v0_1 (hM.rdo hv0_1) p1.Keys v1_1 (hM.rdo hv1_1) r5 e6) ?_
  rintro v w a ⟨rfl, hK⟩ hE
  have hM := hM.keep hK
  refine s_not hE goes_none (by decide) rfl ?_; intro a hE
  refine c_fin ?_
  refine c_cond hE rfl ?_ ?_
  · intro hb7
    have hF := ite_t hF hb7
    refine c_region ?_
    refine s_assign hE goes_none (by decide) rfl ?_; intro a hE
    refine c_fin ?_
    have hr := Option.some.inj hF
    subst hr
    have hM := M.fst (l := []) hM
    exact wp_ret (r_then (k_ret1 hE rfl (res_tmp hE rfl) ⟨_, rfl, rfl, hM.kept⟩))
  · intro hb7
    have hF := ite_f hF hb7
    refine wp_skip ?_
    refine c_nx ?_
    refine wp_seq ?_
    refine c_region ?_
    refine s_fieldAddr hE goes_none (by decide) rfl (fd37_1) ?_; intro a hE
    refine s_load (v := (vI p0.Next)) hE goes_none (by decide) rfl ty2 rfl (At.cat (pre := [[v0_1]]) (seg := [(vI p0.Next)]) (post := [[v0_2], [v0_3], Flat.enc p0.Head]) (hM.rawAt (pre := [_])) (cl1 (n := 1) (m := 0) rfl cl0)) ?_; intro a hE
    refine s_fieldAddr hE goes_none (by decide) rfl (fd37_1) ?_; intro a hE
    refine s_load (v := (vI p1.Next)) hE goes_none (by decide) rfl ty2 rfl (At.cat (pre := [[v1_1]]) (seg := [(vI p1.Next)]) (post := [[v1_2], [v1_3], Flat.enc p1.Head]) (hM.rawAt (pre := [])) (cl1 (n := 1) (m := 0) rfl cl0)) ?_; intro a hE
    refine s_int hE goes_none (by decide) rfl rfl rfl ?_; intro a hE
    refine c_fin ?_
    refine c_cond hE rfl ?_ ?_
    · intro hb8
      have hF := ite_t hF hb8
      refine c_region ?_
      refine s_assign hE goes_none (by decide) rfl ?_; intro a hE
      refine c_fin ?_
      have hr := Option.some.inj hF
      subst hr
      have hM := M.fst (l := []) hM
      exact wp_ret (r_then (k_ret1 hE rfl (res_tmp hE rfl) ⟨_, rfl, rfl, hM.kept⟩))
    · intro hb8
      have hF := ite_f hF hb8
      refine wp_skip ?_
      refine c_nx ?_
      refine wp_seq ?_
      refine c_region ?_
      refine s_fieldAddr hE goes_none (by decide) rfl (fd37_2) ?_; intro a hE
      refine s_load (v := v0_2) hE goes_none (by decide) rfl ty35 rfl (At.cat (pre := [[v0_1], [(vI p0.Next)]]) (seg := [v0_2]) (post := [[v0_3], Flat.enc p0.Head]) (hM.rawAt (pre := [_])) (cl1 (n := 1) (m := 1) rfl (cl1 (n := 1) (m := 0) rfl cl0))) ?_; intro a hE
      refine s_fieldAddr hE goes_none (by decide) rfl (fd37_2) ?_; intro a hE
      refine s_load (v := v1_2) hE goes_none (by decide) rfl ty35 rfl (At.cat (pre := [[v1_1], [(vI p1.Next)]]) (seg := [v1_2]) (post := [[v1_3], Flat.enc p1.Head]) (hM.rawAt (pre := [])) (cl1 (n := 1) (m := 1) rfl (cl1 (n := 1) (m := 0) rfl cl0))) ?_; intro a hE
      obtain ⟨r9, e10, hF⟩ := bind_some hF
      refine s_call (vs := [v0_2, v1_2]) hE goes_none (by decide) rfl cb38 (c_laws_eqRecordS _ p0.Records v0_2 (hM.rdo hv0_2) p1.Records v1_2 (hM.rdo hv1_2) r9 e10) ?_
      rintro v w a ⟨rfl, hK⟩ hE
      have hM := hM.keep hK
      refine s_not hE goes_none (by decide) rfl ?_; intro a hE
      refine c_fin ?_
      refine c_cond hE rfl ?_ ?_
      · intro hb11
        have hF := ite_t hF hb11
        refine c_region ?_
        refine s_assign hE goes_none (by decide) rfl ?_; intro a hE
        refine c_fin ?_
        have hr := Option.some.inj hF
        subst hr
        have hM := M.fst (l := []) hM
        exact wp_ret (r_then (k_ret1 hE rfl (res_tmp hE rfl) ⟨_, rfl, rfl, hM.kept⟩))
      · intro hb11
        have hF := ite_f hF hb11
        refine wp_skip ?_
        refine c_nx ?_
        refine wp_seq ?_
        refine c_region ?_
        refine s_fieldAddr hE goes_none (by decide) rfl (fd37_3) ?_; intro a hE
        refine s_load (v := v0_3) hE goes_none (by decide) rfl ty28 rfl (At.cat (pre := [[v0_1], [(vI p0.Next)], [v0_2]]) (seg := [v0_3]) (post := [Flat.enc p0.Head]) (hM.rawAt (pre := [_])) (cl1 (n := 1) (m := 2) rfl (cl1 (n := 1) (m := 1) rfl (cl1 (n := 1) (m := 0) rfl cl0)))) ?_; intro a hE
        refine s_fieldAddr hE goes_none (by decide) rfl (fd37_3) ?_; intro a hE
        refine s_load (v := v1_3) hE goes_none (by decide) rfl ty28 rfl (At.cat (pre := [[v1_1], [(vI p1.Next)], [v1_2]]) (seg := [v1_3]) (post := [Flat.enc p1.Head]) (hM.rawAt (pre := [])) (cl1 (n := 1) (m := 2) rfl (cl1 (n := 1) (m := 1) rfl (cl1 (n := 1) (m := 0) rfl cl0)))) ?_; intro a hE
        obtain ⟨r12, e13, hF⟩ := bind_some hF
        refine s_call (vs := [v0_3, v1_3]) hE goes_none (by decide) rfl cb11 (c_laws_eqEventS _ p0.Events v0_3 (hM.rdo hv0_3) p1.Events v1_3 (hM.rdo hv1_3) r12 e13) ?_
        rintro v w a ⟨rfl, hK⟩ hE
        have hM := hM.keep hK
        refine s_not hE goes_none (by decide) rfl ?_; intro a hE
        refine c_fin ?_
        refine c_cond hE rfl ?_ ?_
        · intro hb14
          have hF := ite_t hF hb14
          refine c_region ?_
          refine s_assign hE goes_none (by decide) rfl ?_; intro a hE
          refine c_fin ?_
          have hr := Option.some.inj hF
          subst hr
          have hM := M.fst (l := []) hM
          exact wp_ret (r_then (k_ret1 hE rfl (res_tmp hE rfl) ⟨_, rfl, rfl, hM.kept⟩))
        · intro hb14
          have hF := ite_f hF hb14
          refine wp_skip ?_
          refine c_nx ?_
          refine wp_seq ?_
          refine c_region ?_
          refine s_fieldAddr hE goes_none (by decide) rfl (fd37_4) ?_; intro a hE
          refine s_loadA (cs := Flat.enc p0.Head) hE goes_none (by decide) rfl ty25 rfl (At.cat (pre := [[v0_1], [(vI p0.Next)], [v0_2], [v0_3]]) (seg := Flat.enc p0.Head) (post := []) (hM.rawAt (pre := [_])) (cl1 (n := 1) (m := 3) rfl (cl1 (n := 1) (m := 2) rfl (cl1 (n := 1) (m := 1) rfl (cl1 (n := 1) (m := 0) rfl cl0))))) (Flat.len _) ?_; intro a hE
          refine s_fieldAddr hE goes_none (by decide) rfl (fd37_4) ?_; intro a hE
          refine s_loadA (cs := Flat.enc p1.Head) hE goes_none (by decide) rfl ty25 rfl (At.cat (pre := [[v1_1], [(vI p1.Next)], [v1_2], [v1_3]]) (seg := Flat.enc p1.Head) (post := []) (hM.rawAt (pre := [])) (cl1 (n := 1) (m := 3) rfl (cl1 (n := 1) (m := 2) rfl (cl1 (n := 1) (m := 1) rfl (cl1 (n := 1) (m := 0) rfl cl0))))) (Flat.len _) ?_; intro a hE
          obtain ⟨r15, e16, hF⟩ := bind_some hF
          refine s_call (vs := [(Value.agg (Flat.enc p0.Head).toArray), (Value.agg (Flat.enc p1.Head).toArray)]) hE goes_none (by decide) rfl cb10 (c_laws_eqDigest _ p0.Head p1.Head r15 e16) ?_
          rintro v w a ⟨rfl, hK⟩ hE
          have hM := hM.keep hK
          refine s_not hE goes_none (by decide) rfl ?_; intro a hE
          refine c_fin ?_
          refine c_cond hE rfl ?_ ?_
          · intro hb17
            have hF := ite_t hF hb17
            refine c_region ?_
            refine s_assign hE goes_none (by decide) rfl ?_; intro a hE
            refine c_fin ?_
            have hr := Option.some.inj hF
            subst hr
            have hM := M.fst (l := []) hM
            exact wp_ret (r_then (k_ret1 hE rfl (res_tmp hE rfl) ⟨_, rfl, rfl, hM.kept⟩))
          · intro hb17
            have hF := ite_f hF hb17
            refine wp_skip ?_
            refine c_nx ?_
            refine c_region ?_
            refine s_assign hE goes_none (by decide) rfl ?_; intro a hE
            refine c_fin ?_
            have hr := Option.some.inj hF
            subst hr
            have hM := M.fst (l := []) hM
            exact wp_ret (k_ret1 hE rfl (res_tmp hE rfl) ⟨_, rfl, rfl, hM.kept⟩)
noncomputable def L1_laws_markBlockS (s4 : (List (Vector UInt8 16)) × Int × Int) (s12 : (List (Vector UInt8 16)) × Int × Int) : Option (Fl ((List (Vector UInt8 16)) × Int × Int) ((List (Vector UInt8 16)) × Int)) :=
  if (decide (s12.2.2 < 16)) = true then ((idx s12.1 s4.2.2).bind fun (x17 : (Vector UInt8 16)) => (vidx x17 s12.2.2).bind fun (x21 : UInt8) => some (Fl.nx ((s12.1.set (s4.2.2).toNat (x17.setIfInBounds (s12.2.2).toNat (byteI s12.2.1))), wr (s12.2.1 + 1), wr (s12.2.2 + 1)))) else (some (Fl.ex (s12.1, s12.2.1)))
noncomputable def L0_laws_markBlockS (s4 : (List (Vector UInt8 16)) × Int × Int) : Option (Fl ((List (Vector UInt8 16)) × Int × Int) ((List (Vector UInt8 16)) × Int)) :=
  if (decide (s4.2.2 < (s4.1.length : Int))) = true then ((iter (L1_laws_markBlockS s4) (s4.1, s4.2.1, 0) : Option ((List (Vector UInt8 16)) × Int)).bind fun (j9 : (List (Vector UInt8 16)) × Int) => some (Fl.nx (j9.1, j9.2, wr (s4.2.2 + 1)))) else (some (Fl.ex (s4.1, s4.2.1)))
noncomputable def F_laws_markBlockS (p0 : (List (Vector UInt8 16))) (p1 : Int) : Option ((List (Vector UInt8 16)) × Int) :=
  (iter (L0_laws_markBlockS) (p0, p1, 0) : Option ((List (Vector UInt8 16)) × Int)).bind fun (j1 : (List (Vector UInt8 16)) × Int) => some (j1.1, j1.2)
set_option maxRecDepth 20000 in
set_option maxHeartbeats 400000 in
theorem c_laws_markBlockS (St : Nat → Prop) (W w0 : World) (its : List Item) (p0 : (List (Vector UInt8 16))) (v0_1 : Value) (p1 : Int) (hM : M St W w0 (own NoB (p0 : (List (Vector UInt8 16))) [v0_1] :: its)) (r : (List (Vector UInt8 16)) × Int) (hF : F_laws_markBlockS p0 p1 = some r) :
    Calls Try.prog 39 [v0_1, (vI p1)].toArray w0 (fun en w' => ∃ v, en = .returned v ∧ (v = (vI r.2) ∧ M St W w' (own NoB (r.1 : (List (Vector UInt8 16))) [v0_1] :: its))) := by
  refine c_enter (n := 27) Try.func39 rfl rfl (Nat.le_of_ble_eq_true rfl) rfl ?_
  intro a hE
  unfold F_laws_markBlockS at hF
  refine c_region ?_
  refine s_assign hE goes_none (by decide) rfl ?_; intro a hE
  refine c_fin ?_
  refine wp_seq ?_
  refine c_region ?_
  refine s_assign hE goes_none (by decide) rfl ?_; intro a hE
  refine c_fin ?_
  obtain ⟨j1, hl2, hF3⟩ := bind_some hF
  refine c_cut (fun a w => Env 27 a [(0, v0_1), (1, (vI j1.2))] ∧ M St W w (own NoB (j1.1 : (List (Vector UInt8 16))) [v0_1] :: its)) ?_ ?_
  · skip
    refine wp_block ?_
    refine c_loop (fun (s4 : (List (Vector UInt8 16)) × Int × Int) a w => Env 27 a [(0, v0_1), (1, (vI s4.2.1)), (5, (vI s4.2.2))] ∧ M St W w (own NoB (s4.1 : (List (Vector UInt8 16))) [v0_1] :: its)) hl2 ⟨hE.sub ⟨rfl, rfl, rfl, trivial⟩, hM⟩ ?_
    rintro s4 a w ⟨hE, hM⟩ o7 hs5 hx6
    unfold L0_laws_markBlockS at hs5
    refine wp_seq ?_
    refine c_region ?_
    refine s_move hE goes_none (by decide) rfl ?_; intro a hE
    refine s_move hE goes_none (by decide) rfl ?_; intro a hE
    refine s_len hE goes_none (by decide) rfl Try.underlying34 (hM.ro (pre := []) noB) ?_; intro a hE
    refine s_int hE goes_none (by decide) rfl rfl rfl ?_; intro a hE
    refine c_fin ?_
    refine c_cond hE rfl ?_ ?_
    · intro hb8
      have hs5 := ite_t hs5 hb8
      refine wp_skip ?_
      refine c_nx ?_
      refine wp_seq ?_
      refine wp_block ?_
      refine c_region ?_
      refine s_assign hE goes_none (by decide) rfl ?_; intro a hE
      refine c_fin ?_
      obtain ⟨j9, hl10, hF11⟩ := bind_some hs5
      refine c_cut (fun a w => Env 27 a [(0, v0_1), (1, (vI j9.2)), (5, (vI s4.2.2))] ∧ M St W w (own NoB (j9.1 : (List (Vector UInt8 16))) [v0_1] :: its)) ?_ ?_
      · skip
        refine wp_block ?_
        refine c_loop (fun (s12 : (List (Vector UInt8 16)) × Int × Int) a w => Env 27 a [(0, v0_1), (1, (vI s12.2.1)), (5, (vI s4.2.2)), (6, (vI s12.2.2))] ∧ M St W w (own NoB (s12.1 : (List (Vector UInt8 16))) [v0_1] :: its)) hl10 ⟨hE.sub ⟨rfl, rfl, rfl, rfl, trivial⟩, hM⟩ ?_
        rintro s12 a w ⟨hE, hM⟩ o15 hs13 hx14
        unfold L1_laws_markBlockS at hs13
        refine wp_seq ?_
        refine c_region ?_
        refine s_move hE goes_none (by decide) rfl ?_; intro a hE
        refine s_int hE goes_none (by decide) rfl rfl rfl ?_; intro a hE
        refine c_fin ?_
        refine c_cond hE rfl ?_ ?_
        · intro hb16
          have hs13 := ite_t hs13 hb16
          refine wp_skip ?_
          refine c_nx ?_
          refine wp_seq ?_
          refine wp_block ?_
          refine c_region ?_
          refine s_move hE goes_none (by decide) rfl ?_; intro a hE
          refine s_move hE goes_none (by decide) rfl ?_; intro a hE
          refine s_move hE goes_none (by decide) rfl ?_; intro a hE
          refine s_move hE goes_none (by decide) rfl ?_; intro a hE
          refine s_conv hE goes_none (by decide) rfl Try.underlying3 Try.underlying5 ?_; intro a hE
          rw [byteI_val] at hE
          obtain ⟨x17, e18, hs13⟩ := bind_some hs13
          have hi19 := idx_some e18
          refine s_indexS hE goes_none (by decide) rfl rfl Try.underlying34 ty39 (hM.ro (pre := []) noB) hi19.1 ?_; intro a hE
          obtain ⟨x21, e22, hs13⟩ := bind_some hs13
          have hi20 := vidx_some e22
          refine s_indexA hE goes_none (by decide) rfl rfl Try.underlying39 ty5 hi20.1 ?_; intro a hE
          have hM := hM.toOsl (List.getElem?_eq_some_iff.1 hi19.2).1
          refine s_storeS (i := (s4.2.2).toNat) (k0 := 0 + (s12.2.2).toNat * 1) (seg := [(vB (byteI s12.2.1))]) (xo := x17) (xn := (x17.setIfInBounds (s12.2.2).toNat (byteI s12.2.1))) hE hM goes_none (opv_off rfl (by show _ = _ + _ * 16 + _; omega)) rfl rfl ty5 rfl (Flat.cell (byteI s12.2.1 : UInt8)) hi19.2 (fit_vec1 (x := byteI s12.2.1) hi20.1) (splice_vec0 (v := x17) (x := byteI s12.2.1) hi20.1) ?_; intro w a hM hE
          have hM := hM.toOwn noB
          refine c_fin ?_
          refine wp_region_lit ?_
          refine s_move hE goes_none (by decide) rfl ?_; intro a hE
          refine s_int hE goes_none (by decide) rfl rfl rfl ?_; intro a hE
          refine s_assign hE goes_none (by decide) rfl ?_; intro a hE
          refine c_fin0 ?_
          refine c_nb ?_
          refine c_nx ?_
          refine wp_region_lit ?_
          refine s_move hE goes_none (by decide) rfl ?_; intro a hE
          refine s_int hE goes_none (by decide) rfl rfl rfl ?_; intro a hE
          refine s_assign hE goes_none (by decide) rfl ?_; intro a hE
          refine c_fin0 ?_
          refine c_mid ?_
          exact ⟨_, (Option.some.inj hs13).symm, hE.sub ⟨rfl, rfl, rfl, rfl, trivial⟩, hM⟩
        · intro hb16
          have hs13 := ite_f hs13 hb16
          refine wp_exit (e_then (e_then (e_eq ?_)))
          have ht23 := hx14 _ (Option.some.inj hs13).symm
          subst ht23
          refine c_mid ?_
          exact ⟨hE.sub ⟨rfl, rfl, rfl, trivial⟩, hM⟩
      · skip
        rintro a w ⟨hE, hM⟩
        refine c_nb ?_
        refine c_nx ?_
        refine wp_region_lit ?_
        refine s_move hE goes_none (by decide) rfl ?_; intro a hE
        refine s_int hE goes_none (by decide) rfl rfl rfl ?_; intro a hE
        refine s_assign hE goes_none (by decide) rfl ?_; intro a hE
        refine c_fin0 ?_
        refine c_mid ?_
        exact ⟨_, (Option.some.inj hF11).symm, hE.sub ⟨rfl, rfl, rfl, trivial⟩, hM⟩
    · intro hb8
      have hs5 := ite_f hs5 hb8
      refine wp_exit (e_then (e_then (e_eq ?_)))
      have ht24 := hx6 _ (Option.some.inj hs5).symm
      subst ht24
      refine c_mid ?_
      exact ⟨hE.sub ⟨rfl, rfl, trivial⟩, hM⟩
  · skip
    rintro a w ⟨hE, hM⟩
    refine c_nx ?_
    refine c_region ?_
    refine s_move hE goes_none (by decide) rfl ?_; intro a hE
    refine s_assign hE goes_none (by decide) rfl ?_; intro a hE
    refine c_fin ?_
    have hr := Option.some.inj hF3
    subst hr
    exact wp_ret (k_ret1 hE (by rfl) (res_tmp hE rfl) ⟨_, rfl, rfl, hM⟩)
noncomputable def L0_laws_markByteS (s4 : (List UInt8) × Int × Int) : Option (Fl ((List UInt8) × Int × Int) ((List UInt8) × Int)) :=
  if (decide (s4.2.2 < (s4.1.length : Int))) = true then ((idx s4.1 s4.2.2).bind fun (x9 : UInt8) => some (Fl.nx ((s4.1.set (s4.2.2).toNat (byteI s4.2.1)), wr (s4.2.1 + 1), wr (s4.2.2 + 1)))) else (some (Fl.ex (s4.1, s4.2.1)))
noncomputable def F_laws_markByteS (p0 : (List UInt8)) (p1 : Int) : Option ((List UInt8) × Int) :=
  (iter (L0_laws_markByteS) (p0, p1, 0) : Option ((List UInt8) × Int)).bind fun (j1 : (List UInt8) × Int) => some (j1.1, j1.2)
set_option maxRecDepth 20000 in
set_option maxHeartbeats 400000 in
theorem c_laws_markByteS (St : Nat → Prop) (W w0 : World) (its : List Item) (p0 : (List UInt8)) (v0_1 : Value) (p1 : Int) (hM : M St W w0 (own NoB (p0 : (List UInt8)) [v0_1] :: its)) (r : (List UInt8) × Int) (hF : F_laws_markByteS p0 p1 = some r) :
    Calls Try.prog 26 [v0_1, (vI p1)].toArray w0 (fun en w' => ∃ v, en = .returned v ∧ (v = (vI r.2) ∧ M St W w' (own NoB (r.1 : (List UInt8)) [v0_1] :: its))) := by
  refine c_enter (n := 20) Try.func26 rfl rfl (Nat.le_of_ble_eq_true rfl) rfl ?_
  intro a hE
  unfold F_laws_markByteS at hF
  refine c_region ?_
  refine s_assign hE goes_none (by decide) rfl ?_; intro a hE
  refine c_fin ?_
  refine wp_seq ?_
  refine c_region ?_
  refine s_assign hE goes_none (by decide) rfl ?_; intro a hE
  refine c_fin ?_
  obtain ⟨j1, hl2, hF3⟩ := bind_some hF
  refine c_cut (fun a w => Env 20 a [(0, v0_1), (1, (vI j1.2))] ∧ M St W w (own NoB (j1.1 : (List UInt8)) [v0_1] :: its)) ?_ ?_
  · skip
    refine wp_block ?_
    refine c_loop (fun (s4 : (List UInt8) × Int × Int) a w => Env 20 a [(0, v0_1), (1, (vI s4.2.1)), (5, (vI s4.2.2))] ∧ M St W w (own NoB (s4.1 : (List UInt8)) [v0_1] :: its)) hl2 ⟨hE.sub ⟨rfl, rfl, rfl, trivial⟩, hM⟩ ?_
    rintro s4 a w ⟨hE, hM⟩ o7 hs5 hx6
    unfold L0_laws_markByteS at hs5
    refine wp_seq ?_
    refine c_region ?_
    refine s_move hE goes_none (by decide) rfl ?_; intro a hE
    refine s_move hE goes_none (by decide) rfl ?_; intro a hE
    refine s_len hE goes_none (by decide) rfl Try.underlying50 (hM.ro (pre := []) noB) ?_; intro a hE
    refine s_int hE goes_none (by decide) rfl rfl rfl ?_; intro a hE
    refine c_fin ?_
    refine c_cond hE rfl ?_ ?_
    · intro hb8
      have hs5 := ite_t hs5 hb8
      refine wp_skip ?_
      refine c_nx ?_
      refine wp_seq ?_
      refine wp_block ?_
      refine c_region ?_
      refine s_move hE goes_none (by decide) rfl ?_; intro a hE
      refine s_move hE goes_none (by decide) rfl ?_; intro a hE
      refine s_move hE goes_none (by decide) rfl ?_; intro a hE
      refine s_conv hE goes_none (by decide) rfl Try.underlying3 Try.underlying5 ?_; intro a hE
      rw [byteI_val] at hE
      obtain ⟨x9, e10, hs5⟩ := bind_some hs5
      have hi11 := idx_some e10
      refine s_indexS hE goes_none (by decide) rfl rfl Try.underlying50 ty5 (hM.ro (pre := []) noB) hi11.1 ?_; intro a hE
      have hM := hM.toOsl (List.getElem?_eq_some_iff.1 hi11.2).1
      refine s_storeS (i := (s4.2.2).toNat) (k0 := 0) (seg := [(vB (byteI s4.2.1))]) (xo := x9) (xn := byteI s4.2.1) hE hM goes_none rfl rfl rfl ty5 rfl (Flat.cell (byteI s4.2.1 : UInt8)) hi11.2 (fit_num (m := 1) rfl (by decide)) (splice_all (Eq.trans rfl (Eq.symm rfl))) ?_; intro w a hM hE
      have hM := hM.toOwn noB
      refine c_fin ?_
      refine wp_region_lit ?_
      refine s_move hE goes_none (by decide) rfl ?_; intro a hE
      refine s_int hE goes_none (by decide) rfl rfl rfl ?_; intro a hE
      refine s_assign hE goes_none (by decide) rfl ?_; intro a hE
      refine c_fin0 ?_
      refine c_nb ?_
      refine c_nx ?_
      refine wp_region_lit ?_
      refine s_move hE goes_none (by decide) rfl ?_; intro a hE
      refine s_int hE goes_none (by decide) rfl rfl rfl ?_; intro a hE
      refine s_assign hE goes_none (by decide) rfl ?_; intro a hE
      refine c_fin0 ?_
      refine c_mid ?_
      exact ⟨_, (Option.some.inj hs5).symm, hE.sub ⟨rfl, rfl, rfl, trivial⟩, hM⟩
    · intro hb8
      have hs5 := ite_f hs5 hb8
      refine wp_exit (e_then (e_then (e_eq ?_)))
      have ht12 := hx6 _ (Option.some.inj hs5).symm
      subst ht12
      refine c_mid ?_
      exact ⟨hE.sub ⟨rfl, rfl, trivial⟩, hM⟩
  · skip
    rintro a w ⟨hE, hM⟩
    refine c_nx ?_
    refine c_region ?_
    refine s_move hE goes_none (by decide) rfl ?_; intro a hE
    refine s_assign hE goes_none (by decide) rfl ?_; intro a hE
    refine c_fin ?_
    have hr := Option.some.inj hF3
    subst hr
    exact wp_ret (k_ret1 hE (by rfl) (res_tmp hE rfl) ⟨_, rfl, rfl, hM⟩)
noncomputable def L1_laws_markRecordS (s4 : (List GRecord) × Int × Int) (s18 : (List GRecord) × Int × Int) : Option (Fl ((List GRecord) × Int × Int) ((List GRecord) × Int)) :=
  if (decide (s18.2.2 < 16)) = true then ((idx s18.1 s4.2.2).bind fun (x23 : GRecord) => (vidx x23.Nonce s18.2.2).bind fun (x27 : UInt8) => some (Fl.nx ((s18.1.set (s4.2.2).toNat (⟨x23.Number, x23.Version, (x23.Nonce.setIfInBounds (s18.2.2).toNat (byteI s18.2.1)), x23.Label, x23.Body, x23.Tag⟩ : GRecord)), wr (s18.2.1 + 1), wr (s18.2.2 + 1)))) else (some (Fl.ex (s18.1, s18.2.1)))
noncomputable def L2_laws_markRecordS (s4 : (List GRecord) × Int × Int) (s55 : (List GRecord) × Int × Int) : Option (Fl ((List GRecord) × Int × Int) ((List GRecord) × Int)) :=
  if (decide (s55.2.2 < 32)) = true then ((idx s55.1 s4.2.2).bind fun (x60 : GRecord) => (vidx x60.Tag s55.2.2).bind fun (x64 : UInt8) => some (Fl.nx ((s55.1.set (s4.2.2).toNat (⟨x60.Number, x60.Version, x60.Nonce, x60.Label, x60.Body, (x60.Tag.setIfInBounds (s55.2.2).toNat (byteI s55.2.1))⟩ : GRecord)), wr (s55.2.1 + 1), wr (s55.2.2 + 1)))) else (some (Fl.ex (s55.1, s55.2.1)))
noncomputable def L0_laws_markRecordS (s4 : (List GRecord) × Int × Int) : Option (Fl ((List GRecord) × Int × Int) ((List GRecord) × Int)) :=
  if (decide (s4.2.2 < (s4.1.length : Int))) = true then ((idx s4.1 s4.2.2).bind fun (x9 : GRecord) => (idx (s4.1.set (s4.2.2).toNat (⟨s4.2.1, x9.Version, x9.Nonce, x9.Label, x9.Body, x9.Tag⟩ : GRecord)) s4.2.2).bind fun (x12 : GRecord) => (iter (L1_laws_markRecordS s4) (((s4.1.set (s4.2.2).toNat (⟨s4.2.1, x9.Version, x9.Nonce, x9.Label, x9.Body, x9.Tag⟩ : GRecord)).set (s4.2.2).toNat (⟨x12.Number, wr (s4.2.1 + 1), x12.Nonce, x12.Label, x12.Body, x12.Tag⟩ : GRecord)), wr ((wr (s4.2.1 + 1)) + 1), 0) : Option ((List GRecord) × Int)).bind fun (j15 : (List GRecord) × Int) => (idx j15.1 s4.2.2).bind fun (x30 : GRecord) => (F_laws_markByteS x30.Label j15.2).bind fun (r39 : (List UInt8) × Int) => (idx (j15.1.set (s4.2.2).toNat (⟨x30.Number, x30.Version, x30.Nonce, r39.1, x30.Body, x30.Tag⟩ : GRecord)) s4.2.2).bind fun (x41 : GRecord) => (F_laws_markByteS x41.Body r39.2).bind fun (r50 : (List UInt8) × Int) => (iter (L2_laws_markRecordS s4) (((j15.1.set (s4.2.2).toNat (⟨x30.Number, x30.Version, x30.Nonce, r39.1, x30.Body, x30.Tag⟩ : GRecord)).set (s4.2.2).toNat (⟨x41.Number, x41.Version, x41.Nonce, x41.Label, r50.1, x41.Tag⟩ : GRecord)), r50.2, 0) : Option ((List GRecord) × Int)).bind fun (j52 : (List GRecord) × Int) => some (Fl.nx (j52.1, j52.2, wr (s4.2.2 + 1)))) else (some (Fl.ex (s4.1, s4.2.1)))
noncomputable def F_laws_markRecordS (p0 : (List GRecord)) (p1 : Int) : Option ((List GRecord) × Int) :=
  (iter (L0_laws_markRecordS) (p0, p1, 0) : Option ((List GRecord) × Int)).bind fun (j1 : (List GRecord) × Int) => some (j1.1, j1.2)
end Go.Proofs.Ytifdeoikcebbjaa
