/- The walk of what the law reaches: contracts of functions. -/
import Derived.Test.YtifdeoikcebbjaaGreatC3
set_option linter.unusedVariables false
set_option linter.unusedSimpArgs false
set_option maxRecDepth 20000
set_option maxHeartbeats 400000
namespace Go.Proofs.YtifdeoikcebbjaaGreat
open Go
theorem c_impl_mixer_mix (St : Nat → Prop) (W w0 : World) (its : List Item) (p0 : (Ref (Vector (Vector (Vector UInt8 256) 4) 4))) (v0_1 : Value) (hv0_1 : Rep.sat St W p0 [v0_1] []) (pb1 : Nat) (p1 : (Vector UInt8 16)) (hM : M St W w0 (raw pb1 (Flat.enc p1) :: its)) (r : (Vector UInt8 16)) (hF : WX p0 p1 = some r) :
  Calls Tryz.prog 246 [v0_1, (Value.slice (some ⟨pb1, 0, none⟩) 16 16)].toArray w0 (fun en w' => ∃ v, en = .returned v ∧ (v = (Value.tuple [].toArray) ∧ M St W w' (raw pb1 (Flat.enc r) :: its))) := by
 refine ZA (n := 79) Tryz.func246 rfl rfl (Nat.le_of_ble_eq_true rfl) rfl ?_
 intro a hE
 unfold WX at hF
 refine Zc (Ze hE Za (dl rfl) rfl ?_); intro a hE
 refine Zf ?_
 obtain ⟨j1, hl2, hF3⟩ := bind_some hF
 refine ZS (fun a w => Env 79 a [(1, (Value.slice (some ⟨pb1, 0, none⟩) 16 16))] ∧ M St W w (raw pb1 (Flat.enc j1) :: its)) ?_ ?_
 ·skip
  refine wp_block ?_
  refine ZL (fun (s4 : (Vector UInt8 16) × Int) a w => Env 79 a [(0, v0_1), (1, (Value.slice (some ⟨pb1, 0, none⟩) 16 16)), (4, (vI s4.2))] ∧ M St W w (raw pb1 (Flat.enc s4.1) :: its)) hl2 ⟨hE.sub ⟨rfl, rfl, rfl, trivial⟩, hM⟩ ?_
  rintro s4 a w ⟨hE, hM⟩ o7 hs5 hx6
  unfold XB at hs5
  refine wp_seq (Zc (Zd hE Za (dl rfl) rfl ?_)); intro a hE
  refine Zd hE Za (dl rfl) rfl ?_; intro a hE
  refine Yb hE Za (dl rfl) rfl Tryz.underlying57 (raw_full (hM.rawAt (pre := []))) ?_; intro a hE
  refine Zh hE Za (dl rfl) rfl rfl rfl ?_; intro a hE
  refine Zf ?_
  refine Zw hE rfl ?_ ?_
  ·intro hb8
   have hs5 := ZD hs5 hb8
   refine wp_skip (Zz (wp_seq (wp_block ?_)))
   obtain ⟨j9, hl10, hF11⟩ := bind_some hs5
   refine ZR (fun a w => Env 79 a [(0, v0_1), (1, (Value.slice (some ⟨pb1, 0, none⟩) 16 16)), (4, (vI s4.2)), (5, (vB j9.1)), (6, (vB j9.2.1)), (7, (vB j9.2.2.1)), (8, (vB j9.2.2.2))] ∧ M St W w (raw pb1 (Flat.enc s4.1) :: its)) ?_ ?_
   ·skip
    obtain ⟨x13, e14, hl10⟩ := bind_some hl10
    have hi15 := Zi e14
    obtain ⟨x16, e17, hl10⟩ := bind_some hl10
    have hi18 := Zi e17
    obtain ⟨x19, e20, hl10⟩ := bind_some hl10
    have hi21 := Zi e20
    obtain ⟨x22, e23, hl10⟩ := bind_some hl10
    have hi24 := Zi e23
    refine Yo (n := 79) (hd := [_, _, _, _, _, _, _, _, _, _, _, _, _, _, _, _, _, _, _, _, _, _, _]) (tl := []) YU rfl rfl [16, 17, 18, 19, 20, 21, 22, 23, 24, 25, 26, 27, 28, 29, 30, 31, 32, 33, 34, 5, 6, 7, 8] (by decide) (fun w => M St W w (raw pb1 (Flat.enc s4.1) :: its)) (fun j => ([fun v _ => v = (Value.slice (some ⟨pb1, 0, none⟩) 16 16), fun v _ => v = (vI s4.2), fun v _ => v = (ptr pb1 (0 + (s4.2).toNat * 1)), fun v _ => v = (vB x13), fun v _ => v = (Value.slice (some ⟨pb1, 0, none⟩) 16 16), fun v _ => v = (vI s4.2), fun v _ => v = (vI (wr (s4.2 + 1))), fun v _ => v = (ptr pb1 (0 + ((wr (s4.2 + 1))).toNat * 1)), fun v _ => v = (vB x16), fun v _ => v = (Value.slice (some ⟨pb1, 0, none⟩) 16 16), fun v _ => v = (vI s4.2), fun v _ => v = (vI (wr (s4.2 + 2))), fun v _ => v = (ptr pb1 (0 + ((wr (s4.2 + 2))).toNat * 1)), fun v _ => v = (vB x19), fun v _ => v = (Value.slice (some ⟨pb1, 0, none⟩) 16 16), fun v _ => v = (vI s4.2), fun v _ => v = (vI (wr (s4.2 + 3))), fun v _ => v = (ptr pb1 (0 + ((wr (s4.2 + 3))).toNat * 1)), fun v _ => v = (vB x22), fun v _ => v = (vB x13), fun v _ => v = (vB x16), fun v _ => v = (vB x19), fun v _ => v = (vB x22)] : List (Value → World → Prop)).getD j (fun _ _ => True)) (fun _ _ h hk => h.keep hk) (gup (Zj (Zj (Zj (Zj (Zj (Zj (Zj (Zj (Zj (Zj (Zj (Zj (Zj (Zj (Zj (Zj (Zj (Zj (Zj (Zj (Zj (Zj (Zj Vq)))))))))))))))))))))))) hE hM.drew (ZM (Zb ?_ (Zb ?_ (Zb ?_ (Zb ?_ (Zb ?_ (Zb ?_ (Zb ?_ (Zb ?_ (Zb ?_ (Zb ?_ (Zb ?_ (Zb ?_ (Zb ?_ (Zb ?_ (Zb ?_ (Zb ?_ (Zb ?_ (Zb ?_ (Zb ?_ (Zb ?_ (Zb ?_ (Zb ?_ (Zb ?_ ZH)))))))))))))))))))))))) ?_
    ·intro a w ux12 hE hM hp
     refine Zd hE Za (dl rfl) rfl ?_; intro a hE
     exact ⟨Kept.refl _ _, _, _, rfl, hE, rfl⟩
    ·intro a w ux12 hE hM hp
     refine Zd hE Za (dl rfl) rfl ?_; intro a hE
     exact ⟨Kept.refl _ _, _, _, rfl, hE, rfl⟩
    ·intro a w ux12 hE hM hp
     have f0 : ux12 0 = (Value.slice (some ⟨pb1, 0, none⟩) 16 16) := hp 0 _ rfl rfl
     have f1 : ux12 1 = (vI s4.2) := hp 1 _ rfl rfl
     refine s_indexFull hE Za (dl rfl) (lk rfl f0) (lk rfl f1) Tryz.underlying57 ty5 hi15.1 ?_; intro a hE
     exact ⟨Kept.refl _ _, _, _, rfl, hE, rfl⟩
    ·intro a w ux12 hE hM hp
     have f2 : ux12 2 = (ptr pb1 (0 + (s4.2).toNat * 1)) := hp 0 _ rfl rfl
     refine Zq (v := (vB x13)) hE Za (dl rfl) (lk rfl f2) ty5 rfl (At.vec (hM.rawAt (pre := [])) hi15.2) ?_; intro a hE
     exact ⟨Kept.refl _ _, _, _, rfl, hE, rfl⟩
    ·intro a w ux12 hE hM hp
     refine Zd hE Za (dl rfl) rfl ?_; intro a hE
     exact ⟨Kept.refl _ _, _, _, rfl, hE, rfl⟩
    ·intro a w ux12 hE hM hp
     refine Zd hE Za (dl rfl) rfl ?_; intro a hE
     exact ⟨Kept.refl _ _, _, _, rfl, hE, rfl⟩
    ·intro a w ux12 hE hM hp
     have f5 : ux12 5 = (vI s4.2) := hp 0 _ rfl rfl
     refine Zh hE Za (dl rfl) (lk rfl f5) rfl rfl ?_; intro a hE
     exact ⟨Kept.refl _ _, _, _, rfl, hE, rfl⟩
    ·intro a w ux12 hE hM hp
     have f4 : ux12 4 = (Value.slice (some ⟨pb1, 0, none⟩) 16 16) := hp 0 _ rfl rfl
     have f6 : ux12 6 = (vI (wr (s4.2 + 1))) := hp 1 _ rfl rfl
     refine s_indexFull hE Za (dl rfl) (lk rfl f4) (lk rfl f6) Tryz.underlying57 ty5 hi18.1 ?_; intro a hE
     exact ⟨Kept.refl _ _, _, _, rfl, hE, rfl⟩
    ·intro a w ux12 hE hM hp
     have f7 : ux12 7 = (ptr pb1 (0 + ((wr (s4.2 + 1))).toNat * 1)) := hp 0 _ rfl rfl
     refine Zq (v := (vB x16)) hE Za (dl rfl) (lk rfl f7) ty5 rfl (At.vec (hM.rawAt (pre := [])) hi18.2) ?_; intro a hE
     exact ⟨Kept.refl _ _, _, _, rfl, hE, rfl⟩
    ·intro a w ux12 hE hM hp
     refine Zd hE Za (dl rfl) rfl ?_; intro a hE
     exact ⟨Kept.refl _ _, _, _, rfl, hE, rfl⟩
    ·intro a w ux12 hE hM hp
     refine Zd hE Za (dl rfl) rfl ?_; intro a hE
     exact ⟨Kept.refl _ _, _, _, rfl, hE, rfl⟩
    ·intro a w ux12 hE hM hp
     have f10 : ux12 10 = (vI s4.2) := hp 0 _ rfl rfl
     refine Zh hE Za (dl rfl) (lk rfl f10) rfl rfl ?_; intro a hE
     exact ⟨Kept.refl _ _, _, _, rfl, hE, rfl⟩
    ·intro a w ux12 hE hM hp
     have f9 : ux12 9 = (Value.slice (some ⟨pb1, 0, none⟩) 16 16) := hp 0 _ rfl rfl
     have f11 : ux12 11 = (vI (wr (s4.2 + 2))) := hp 1 _ rfl rfl
     refine s_indexFull hE Za (dl rfl) (lk rfl f9) (lk rfl f11) Tryz.underlying57 ty5 hi21.1 ?_; intro a hE
     exact ⟨Kept.refl _ _, _, _, rfl, hE, rfl⟩
    ·intro a w ux12 hE hM hp
     have f12 : ux12 12 = (ptr pb1 (0 + ((wr (s4.2 + 2))).toNat * 1)) := hp 0 _ rfl rfl
     refine Zq (v := (vB x19)) hE Za (dl rfl) (lk rfl f12) ty5 rfl (At.vec (hM.rawAt (pre := [])) hi21.2) ?_; intro a hE
     exact ⟨Kept.refl _ _, _, _, rfl, hE, rfl⟩
    ·intro a w ux12 hE hM hp
     refine Zd hE Za (dl rfl) rfl ?_; intro a hE
     exact ⟨Kept.refl _ _, _, _, rfl, hE, rfl⟩
    ·intro a w ux12 hE hM hp
     refine Zd hE Za (dl rfl) rfl ?_; intro a hE
     exact ⟨Kept.refl _ _, _, _, rfl, hE, rfl⟩
    ·intro a w ux12 hE hM hp
     have f15 : ux12 15 = (vI s4.2) := hp 0 _ rfl rfl
     refine Zh hE Za (dl rfl) (lk rfl f15) rfl rfl ?_; intro a hE
     exact ⟨Kept.refl _ _, _, _, rfl, hE, rfl⟩
    ·intro a w ux12 hE hM hp
     have f14 : ux12 14 = (Value.slice (some ⟨pb1, 0, none⟩) 16 16) := hp 0 _ rfl rfl
     have f16 : ux12 16 = (vI (wr (s4.2 + 3))) := hp 1 _ rfl rfl
     refine s_indexFull hE Za (dl rfl) (lk rfl f14) (lk rfl f16) Tryz.underlying57 ty5 hi24.1 ?_; intro a hE
     exact ⟨Kept.refl _ _, _, _, rfl, hE, rfl⟩
    ·intro a w ux12 hE hM hp
     have f17 : ux12 17 = (ptr pb1 (0 + ((wr (s4.2 + 3))).toNat * 1)) := hp 0 _ rfl rfl
     refine Zq (v := (vB x22)) hE Za (dl rfl) (lk rfl f17) ty5 rfl (At.vec (hM.rawAt (pre := [])) hi24.2) ?_; intro a hE
     exact ⟨Kept.refl _ _, _, _, rfl, hE, rfl⟩
    ·intro a w ux12 hE hM hp
     have f3 : ux12 3 = (vB x13) := hp 0 _ rfl rfl
     refine Ze hE Za (dl rfl) (lk rfl f3) ?_; intro a hE
     exact ⟨Kept.refl _ _, _, _, rfl, hE, rfl⟩
    ·intro a w ux12 hE hM hp
     have f8 : ux12 8 = (vB x16) := hp 0 _ rfl rfl
     refine Ze hE Za (dl rfl) (lk rfl f8) ?_; intro a hE
     exact ⟨Kept.refl _ _, _, _, rfl, hE, rfl⟩
    ·intro a w ux12 hE hM hp
     have f13 : ux12 13 = (vB x19) := hp 0 _ rfl rfl
     refine Ze hE Za (dl rfl) (lk rfl f13) ?_; intro a hE
     exact ⟨Kept.refl _ _, _, _, rfl, hE, rfl⟩
    ·intro a w ux12 hE hM hp
     have f18 : ux12 18 = (vB x22) := hp 0 _ rfl rfl
     refine Ze hE Za (dl rfl) (lk rfl f18) ?_; intro a hE
     exact ⟨Kept.refl _ _, _, _, rfl, hE, rfl⟩
    ·intro a w ux12 hE hM hg
     have f0 : ux12 0 = (Value.slice (some ⟨pb1, 0, none⟩) 16 16) := hg 0 (by decide)
     have f1 : ux12 1 = (vI s4.2) := hg 1 (by decide)
     have f2 : ux12 2 = (ptr pb1 (0 + (s4.2).toNat * 1)) := hg 2 (by decide)
     have f3 : ux12 3 = (vB x13) := hg 3 (by decide)
     have f4 : ux12 4 = (Value.slice (some ⟨pb1, 0, none⟩) 16 16) := hg 4 (by decide)
     have f5 : ux12 5 = (vI s4.2) := hg 5 (by decide)
     have f6 : ux12 6 = (vI (wr (s4.2 + 1))) := hg 6 (by decide)
     have f7 : ux12 7 = (ptr pb1 (0 + ((wr (s4.2 + 1))).toNat * 1)) := hg 7 (by decide)
     have f8 : ux12 8 = (vB x16) := hg 8 (by decide)
     have f9 : ux12 9 = (Value.slice (some ⟨pb1, 0, none⟩) 16 16) := hg 9 (by decide)
     have f10 : ux12 10 = (vI s4.2) := hg 10 (by decide)
     have f11 : ux12 11 = (vI (wr (s4.2 + 2))) := hg 11 (by decide)
     have f12 : ux12 12 = (ptr pb1 (0 + ((wr (s4.2 + 2))).toNat * 1)) := hg 12 (by decide)
     have f13 : ux12 13 = (vB x19) := hg 13 (by decide)
     have f14 : ux12 14 = (Value.slice (some ⟨pb1, 0, none⟩) 16 16) := hg 14 (by decide)
     have f15 : ux12 15 = (vI s4.2) := hg 15 (by decide)
     have f16 : ux12 16 = (vI (wr (s4.2 + 3))) := hg 16 (by decide)
     have f17 : ux12 17 = (ptr pb1 (0 + ((wr (s4.2 + 3))).toNat * 1)) := hg 17 (by decide)
     have f18 : ux12 18 = (vB x22) := hg 18 (by decide)
     have f19 : ux12 19 = (vB x13) := hg 19 (by decide)
     have f20 : ux12 20 = (vB x16) := hg 20 (by decide)
     have f21 : ux12 21 = (vB x19) := hg 21 (by decide)
     have f22 : ux12 22 = (vB x22) := hg 22 (by decide)
     have hE := hE.sub (e' := [(16, (Value.slice (some ⟨pb1, 0, none⟩) 16 16)), (17, (vI s4.2)), (18, (ptr pb1 (0 + (s4.2).toNat * 1))), (19, (vB x13)), (20, (Value.slice (some ⟨pb1, 0, none⟩) 16 16)), (21, (vI s4.2)), (22, (vI (wr (s4.2 + 1)))), (23, (ptr pb1 (0 + ((wr (s4.2 + 1))).toNat * 1))), (24, (vB x16)), (25, (Value.slice (some ⟨pb1, 0, none⟩) 16 16)), (26, (vI s4.2)), (27, (vI (wr (s4.2 + 2)))), (28, (ptr pb1 (0 + ((wr (s4.2 + 2))).toNat * 1))), (29, (vB x19)), (30, (Value.slice (some ⟨pb1, 0, none⟩) 16 16)), (31, (vI s4.2)), (32, (vI (wr (s4.2 + 3)))), (33, (ptr pb1 (0 + ((wr (s4.2 + 3))).toNat * 1))), (34, (vB x22)), (5, (vB x13)), (6, (vB x16)), (7, (vB x19)), (8, (vB x22)), (0, v0_1), (1, (Value.slice (some ⟨pb1, 0, none⟩) 16 16)), (4, (vI s4.2)), (10, (vI s4.2)), (11, (Value.slice (some ⟨pb1, 0, none⟩) 16 16)), (12, (vI (s4.1.toList.length : Int))), (13, (vT (decide (s4.2 < (s4.1.toList.length : Int)))))]) ⟨lk rfl f0, lk rfl f1, lk rfl f2, lk rfl f3, lk rfl f4, lk rfl f5, lk rfl f6, lk rfl f7, lk rfl f8, lk rfl f9, lk rfl f10, lk rfl f11, lk rfl f12, lk rfl f13, lk rfl f14, lk rfl f15, lk rfl f16, lk rfl f17, lk rfl f18, lk rfl f19, lk rfl f20, lk rfl f21, lk rfl f22, rfl, rfl, rfl, rfl, rfl, rfl, rfl, trivial⟩
     refine Zk ?_
     have ht25 := Option.some.inj hl10
     subst ht25
     refine Zn ?_
     exact ⟨hE.sub ⟨rfl, rfl, rfl, rfl, rfl, rfl, rfl, trivial⟩, hM⟩
   ·skip
    rintro a w ⟨hE, hM⟩
    refine Zc (Zd hE Za (dl rfl) rfl ?_); intro a hE
    refine Zf ?_
    obtain ⟨j26, hl27, hF28⟩ := bind_some hF11
    refine ZS (fun a w => Env 79 a [(0, v0_1), (1, (Value.slice (some ⟨pb1, 0, none⟩) 16 16)), (4, (vI s4.2))] ∧ M St W w (raw pb1 (Flat.enc j26) :: its)) ?_ ?_
    ·skip
     refine wp_block ?_
     refine ZL (fun (s29 : (Vector UInt8 16) × Int) a w => Env 79 a [(0, v0_1), (1, (Value.slice (some ⟨pb1, 0, none⟩) 16 16)), (4, (vI s4.2)), (5, (vB j9.1)), (6, (vB j9.2.1)), (7, (vB j9.2.2.1)), (8, (vB j9.2.2.2)), (35, (vI s29.2))] ∧ M St W w (raw pb1 (Flat.enc s29.1) :: its)) hl27 ⟨hE.sub ⟨rfl, rfl, rfl, rfl, rfl, rfl, rfl, rfl, trivial⟩, hM⟩ ?_
     rintro s29 a w ⟨hE, hM⟩ o32 hs30 hx31
     unfold XE at hs30
     refine Zc (Zh hE Za (dl rfl) rfl rfl rfl ?_); intro a hE
     refine Zf (wp_seq ?_)
     refine Zw hE rfl ?_ ?_
     ·intro hb33
      have hs30 := ZD hs30 hb33
      refine wp_skip (Zz (wp_seq (wp_block (Zc (Zd hE Za (dl rfl) rfl ?_))))); intro a hE
      refine Ze hE Za (dl rfl) rfl ?_; intro a hE
      refine Zf ?_
      obtain ⟨pb35, ds36, hv37, hx38, hA39, hB40⟩ := Uz hv0_1 -- ^
      obtain ⟨rfl, _⟩ := sat_flat.1 hx38 -- ^
      obtain ⟨x42, e43, hs30⟩ := bind_some hs30
      have hi41 := Zi e43
      obtain ⟨x45, e46, hs30⟩ := bind_some hs30
      have hi44 := Zi e46
      obtain ⟨x48, e49, hs30⟩ := bind_some hs30
      have hi47 := Zi e49
      obtain ⟨pb50, ds51, hv52, hx53, hA54, hB55⟩ := Uz hv0_1 -- ^
      obtain ⟨rfl, _⟩ := sat_flat.1 hx53 -- ^
      obtain ⟨x57, e58, hs30⟩ := bind_some hs30
      have hi56 := Zi e58
      obtain ⟨x60, e61, hs30⟩ := bind_some hs30
      have hi59 := Zi e61
      obtain ⟨x63, e64, hs30⟩ := bind_some hs30
      have hi62 := Zi e64
      obtain ⟨pb65, ds66, hv67, hx68, hA69, hB70⟩ := Uz hv0_1 -- ^
      obtain ⟨rfl, _⟩ := sat_flat.1 hx68 -- ^
      obtain ⟨x72, e73, hs30⟩ := bind_some hs30
      have hi71 := Zi e73
      obtain ⟨x75, e76, hs30⟩ := bind_some hs30
      have hi74 := Zi e76
      obtain ⟨x78, e79, hs30⟩ := bind_some hs30
      have hi77 := Zi e79
      obtain ⟨pb80, ds81, hv82, hx83, hA84, hB85⟩ := Uz hv0_1 -- ^
      obtain ⟨rfl, _⟩ := sat_flat.1 hx83 -- ^
      obtain ⟨x87, e88, hs30⟩ := bind_some hs30
      have hi86 := Zi e88
      obtain ⟨x90, e91, hs30⟩ := bind_some hs30
      have hi89 := Zi e91
      obtain ⟨x93, e94, hs30⟩ := bind_some hs30
      have hi92 := Zi e94
      obtain ⟨x95, e96, hs30⟩ := bind_some hs30
      have hi97 := Zi e96
      refine Yo (n := 79) (hd := [_, _, _, _, _, _, _, _, _, _, _, _, _, _, _, _, _, _, _, _, _, _, _, _, _, _, _, _, _, _, _, _, _, _, _, _, _, _, _, _]) (tl := [_]) YU rfl rfl [38, 39, 40, 41, 42, 43, 44, 45, 46, 47, 48, 49, 50, 51, 52, 53, 54, 55, 56, 57, 58, 59, 60, 61, 62, 63, 64, 65, 66, 67, 68, 69, 70, 71, 72, 73, 74, 75, 76, 77] (by decide) (fun w => M St W w (raw pb1 (Flat.enc s29.1) :: its)) (fun j => ([fun v _ => v = (Value.slice (some ⟨pb1, 0, none⟩) 16 16), fun v _ => v = (vI s4.2), fun v _ => v = (vI s29.2), fun v _ => v = (vI (wr (s4.2 + s29.2))), fun v _ => v = v0_1, fun v _ => v = (vI s29.2), fun v _ => v = (vB j9.1), fun v _ => v = (ptr pb35 0), fun v _ => v = (ptr pb35 (0 + (s29.2).toNat * 1024)), fun v _ => v = (ptr pb35 (0 + (s29.2).toNat * 1024 + ((0 : Int)).toNat * 256)), fun v _ => v = (ptr pb35 (0 + (s29.2).toNat * 1024 + ((0 : Int)).toNat * 256 + ((bI j9.1)).toNat * 1)), fun v _ => v = (vB x48), fun v _ => v = v0_1, fun v _ => v = (vI s29.2), fun v _ => v = (vB j9.2.1), fun v _ => v = (ptr pb50 0), fun v _ => v = (ptr pb50 (0 + (s29.2).toNat * 1024)), fun v _ => v = (ptr pb50 (0 + (s29.2).toNat * 1024 + ((1 : Int)).toNat * 256)), fun v _ => v = (ptr pb50 (0 + (s29.2).toNat * 1024 + ((1 : Int)).toNat * 256 + ((bI j9.2.1)).toNat * 1)), fun v _ => v = (vB x63), fun v _ => v = (vB (x48 ^^^ x63)), fun v _ => v = v0_1, fun v _ => v = (vI s29.2), fun v _ => v = (vB j9.2.2.1), fun v _ => v = (ptr pb65 0), fun v _ => v = (ptr pb65 (0 + (s29.2).toNat * 1024)), fun v _ => v = (ptr pb65 (0 + (s29.2).toNat * 1024 + ((2 : Int)).toNat * 256)), fun v _ => v = (ptr pb65 (0 + (s29.2).toNat * 1024 + ((2 : Int)).toNat * 256 + ((bI j9.2.2.1)).toNat * 1)), fun v _ => v = (vB x78), fun v _ => v = (vB ((x48 ^^^ x63) ^^^ x78)), fun v _ => v = v0_1, fun v _ => v = (vI s29.2), fun v _ => v = (vB j9.2.2.2), fun v _ => v = (ptr pb80 0), fun v _ => v = (ptr pb80 (0 + (s29.2).toNat * 1024)), fun v _ => v = (ptr pb80 (0 + (s29.2).toNat * 1024 + ((3 : Int)).toNat * 256)), fun v _ => v = (ptr pb80 (0 + (s29.2).toNat * 1024 + ((3 : Int)).toNat * 256 + ((bI j9.2.2.2)).toNat * 1)), fun v _ => v = (vB x93), fun v _ => v = (vB (((x48 ^^^ x63) ^^^ x78) ^^^ x93)), fun v _ => v = (ptr pb1 (0 + ((wr (s4.2 + s29.2))).toNat * 1))] : List (Value → World → Prop)).getD j (fun _ _ => True)) (fun _ _ h hk => h.keep hk) (gup (Zj (Zj (Zj (Zj (Zj (Zj (Zj (Zj (Zj (Zj (Zj (Zj (Zj (Zj (Zj (Zj (Zj (Zj (Zj (Zj (Zj (Zj (Zj (Zj (Zj (Zj (Zj (Zj (Zj (Zj (Zj (Zj (Zj (Zj (Zj (Zj (Zj (Zj (Zj (Zj Vq))))))))))))))))))))))))))))))))))))))))) hE hM.drew (ZM (Zb ?_ (Zb ?_ (Zb ?_ (Zb ?_ (Zb ?_ (Zb ?_ (Zb ?_ (Zb ?_ (Zb ?_ (Zb ?_ (Zb ?_ (Zb ?_ (Zb ?_ (Zb ?_ (Zb ?_ (Zb ?_ (Zb ?_ (Zb ?_ (Zb ?_ (Zb ?_ (Zb ?_ (Zb ?_ (Zb ?_ (Zb ?_ (Zb ?_ (Zb ?_ (Zb ?_ (Zb ?_ (Zb ?_ (Zb ?_ (Zb ?_ (Zb ?_ (Zb ?_ (Zb ?_ (Zb ?_ (Zb ?_ (Zb ?_ (Zb ?_ (Zb ?_ (Zb ?_ ZH))))))))))))))))))))))))))))))))))))))))) ?_
      ·intro a w ux34 hE hM hp
       refine Zd hE Za (dl rfl) rfl ?_; intro a hE
       exact ⟨Kept.refl _ _, _, _, rfl, hE, rfl⟩
      ·intro a w ux34 hE hM hp
       refine Zd hE Za (dl rfl) rfl ?_; intro a hE
       exact ⟨Kept.refl _ _, _, _, rfl, hE, rfl⟩
      ·intro a w ux34 hE hM hp
       refine Zd hE Za (dl rfl) rfl ?_; intro a hE
       exact ⟨Kept.refl _ _, _, _, rfl, hE, rfl⟩
      ·intro a w ux34 hE hM hp
       have f1 : ux34 1 = (vI s4.2) := hp 0 _ rfl rfl
       have f2 : ux34 2 = (vI s29.2) := hp 1 _ rfl rfl
       refine Zh hE Za (dl rfl) (lk rfl f1) (lk rfl f2) rfl ?_; intro a hE
       exact ⟨Kept.refl _ _, _, _, rfl, hE, rfl⟩
      ·intro a w ux34 hE hM hp
       refine Zd hE Za (dl rfl) rfl ?_; intro a hE
       exact ⟨Kept.refl _ _, _, _, rfl, hE, rfl⟩
      ·intro a w ux34 hE hM hp
       refine Zd hE Za (dl rfl) rfl ?_; intro a hE
       exact ⟨Kept.refl _ _, _, _, rfl, hE, rfl⟩
      ·intro a w ux34 hE hM hp
       refine Zd hE Za (dl rfl) rfl ?_; intro a hE
       exact ⟨Kept.refl _ _, _, _, rfl, hE, rfl⟩
      ·intro a w ux34 hE hM hp
       have f4 : ux34 4 = v0_1 := hp 0 _ rfl rfl
       refine XI hE Za (dl rfl) (lk (lk rfl f4) hv37) ?_; intro a hE
       exact ⟨Kept.refl _ _, _, _, rfl, hE, rfl⟩
      ·intro a w ux34 hE hM hp
       have f5 : ux34 5 = (vI s29.2) := hp 1 _ rfl rfl
       have f7 : ux34 7 = (ptr pb35 0) := hp 0 _ rfl rfl
       refine Zo hE Za (dl rfl) (lk rfl f7) (lk rfl f5) Tryz.underlying267 ty265 hi41.1 ?_; intro a hE
       exact ⟨Kept.refl _ _, _, _, rfl, hE, rfl⟩
      ·intro a w ux34 hE hM hp
       have f8 : ux34 8 = (ptr pb35 (0 + (s29.2).toNat * 1024)) := hp 0 _ rfl rfl
       refine Zo hE Za (dl rfl) (lk rfl f8) rfl Tryz.underlying265 ty166 hi44.1 ?_; intro a hE
       exact ⟨Kept.refl _ _, _, _, rfl, hE, rfl⟩
      ·intro a w ux34 hE hM hp
       have f6 : ux34 6 = (vB j9.1) := hp 1 _ rfl rfl
       have f9 : ux34 9 = (ptr pb35 (0 + (s29.2).toNat * 1024 + ((0 : Int)).toNat * 256)) := hp 0 _ rfl rfl
       refine Zo hE Za (dl rfl) (lk rfl f9) (lk rfl f6) Tryz.underlying166 ty5 hi47.1 ?_; intro a hE
       exact ⟨Kept.refl _ _, _, _, rfl, hE, rfl⟩
      ·intro a w ux34 hE hM hp
       have f10 : ux34 10 = (ptr pb35 (0 + (s29.2).toNat * 1024 + ((0 : Int)).toNat * 256 + ((bI j9.1)).toNat * 1)) := hp 0 _ rfl rfl
       refine Zq (v := (vB x48)) hE Za (dl rfl) (lk rfl f10) ty5 rfl (At.vec (At.vec (At.vec (hM.atk hA39 hB40) hi41.2) hi44.2) hi47.2) ?_; intro a hE
       exact ⟨Kept.refl _ _, _, _, rfl, hE, rfl⟩
      ·intro a w ux34 hE hM hp
       refine Zd hE Za (dl rfl) rfl ?_; intro a hE
       exact ⟨Kept.refl _ _, _, _, rfl, hE, rfl⟩
      ·intro a w ux34 hE hM hp
       refine Zd hE Za (dl rfl) rfl ?_; intro a hE
       exact ⟨Kept.refl _ _, _, _, rfl, hE, rfl⟩
      ·intro a w ux34 hE hM hp
       refine Zd hE Za (dl rfl) rfl ?_; intro a hE
       exact ⟨Kept.refl _ _, _, _, rfl, hE, rfl⟩
      ·intro a w ux34 hE hM hp
       have f12 : ux34 12 = v0_1 := hp 0 _ rfl rfl
       refine XI hE Za (dl rfl) (lk (lk rfl f12) hv52) ?_; intro a hE
       exact ⟨Kept.refl _ _, _, _, rfl, hE, rfl⟩
      ·intro a w ux34 hE hM hp
       have f13 : ux34 13 = (vI s29.2) := hp 1 _ rfl rfl
       have f15 : ux34 15 = (ptr pb50 0) := hp 0 _ rfl rfl
       refine Zo hE Za (dl rfl) (lk rfl f15) (lk rfl f13) Tryz.underlying267 ty265 hi56.1 ?_; intro a hE
       exact ⟨Kept.refl _ _, _, _, rfl, hE, rfl⟩
      ·intro a w ux34 hE hM hp
       have f16 : ux34 16 = (ptr pb50 (0 + (s29.2).toNat * 1024)) := hp 0 _ rfl rfl
       refine Zo hE Za (dl rfl) (lk rfl f16) rfl Tryz.underlying265 ty166 hi59.1 ?_; intro a hE
       exact ⟨Kept.refl _ _, _, _, rfl, hE, rfl⟩
      ·intro a w ux34 hE hM hp
       have f14 : ux34 14 = (vB j9.2.1) := hp 1 _ rfl rfl
       have f17 : ux34 17 = (ptr pb50 (0 + (s29.2).toNat * 1024 + ((1 : Int)).toNat * 256)) := hp 0 _ rfl rfl
       refine Zo hE Za (dl rfl) (lk rfl f17) (lk rfl f14) Tryz.underlying166 ty5 hi62.1 ?_; intro a hE
       exact ⟨Kept.refl _ _, _, _, rfl, hE, rfl⟩
      ·intro a w ux34 hE hM hp
       have f18 : ux34 18 = (ptr pb50 (0 + (s29.2).toNat * 1024 + ((1 : Int)).toNat * 256 + ((bI j9.2.1)).toNat * 1)) := hp 0 _ rfl rfl
       refine Zq (v := (vB x63)) hE Za (dl rfl) (lk rfl f18) ty5 rfl (At.vec (At.vec (At.vec (hM.atk hA54 hB55) hi56.2) hi59.2) hi62.2) ?_; intro a hE
       exact ⟨Kept.refl _ _, _, _, rfl, hE, rfl⟩
      ·intro a w ux34 hE hM hp
       have f11 : ux34 11 = (vB x48) := hp 0 _ rfl rfl
       have f19 : ux34 19 = (vB x63) := hp 1 _ rfl rfl
       refine Zh hE Za (dl rfl) (lk rfl f11) (lk rfl f19) (WK x48 x63) ?_; intro a hE
       exact ⟨Kept.refl _ _, _, _, rfl, hE, rfl⟩
      ·intro a w ux34 hE hM hp
       refine Zd hE Za (dl rfl) rfl ?_; intro a hE
       exact ⟨Kept.refl _ _, _, _, rfl, hE, rfl⟩
      ·intro a w ux34 hE hM hp
       refine Zd hE Za (dl rfl) rfl ?_; intro a hE
       exact ⟨Kept.refl _ _, _, _, rfl, hE, rfl⟩
      ·intro a w ux34 hE hM hp
       refine Zd hE Za (dl rfl) rfl ?_; intro a hE
       exact ⟨Kept.refl _ _, _, _, rfl, hE, rfl⟩
      ·intro a w ux34 hE hM hp
       have f21 : ux34 21 = v0_1 := hp 0 _ rfl rfl
       refine XI hE Za (dl rfl) (lk (lk rfl f21) hv67) ?_; intro a hE
       exact ⟨Kept.refl _ _, _, _, rfl, hE, rfl⟩
      ·intro a w ux34 hE hM hp
       have f22 : ux34 22 = (vI s29.2) := hp 1 _ rfl rfl
       have f24 : ux34 24 = (ptr pb65 0) := hp 0 _ rfl rfl
       refine Zo hE Za (dl rfl) (lk rfl f24) (lk rfl f22) Tryz.underlying267 ty265 hi71.1 ?_; intro a hE
       exact ⟨Kept.refl _ _, _, _, rfl, hE, rfl⟩
      ·intro a w ux34 hE hM hp
       have f25 : ux34 25 = (ptr pb65 (0 + (s29.2).toNat * 1024)) := hp 0 _ rfl rfl
       refine Zo hE Za (dl rfl) (lk rfl f25) rfl Tryz.underlying265 ty166 hi74.1 ?_; intro a hE
       exact ⟨Kept.refl _ _, _, _, rfl, hE, rfl⟩
      ·intro a w ux34 hE hM hp
       have f23 : ux34 23 = (vB j9.2.2.1) := hp 1 _ rfl rfl
       have f26 : ux34 26 = (ptr pb65 (0 + (s29.2).toNat * 1024 + ((2 : Int)).toNat * 256)) := hp 0 _ rfl rfl
       refine Zo hE Za (dl rfl) (lk rfl f26) (lk rfl f23) Tryz.underlying166 ty5 hi77.1 ?_; intro a hE
       exact ⟨Kept.refl _ _, _, _, rfl, hE, rfl⟩
      ·intro a w ux34 hE hM hp
       have f27 : ux34 27 = (ptr pb65 (0 + (s29.2).toNat * 1024 + ((2 : Int)).toNat * 256 + ((bI j9.2.2.1)).toNat * 1)) := hp 0 _ rfl rfl
       refine Zq (v := (vB x78)) hE Za (dl rfl) (lk rfl f27) ty5 rfl (At.vec (At.vec (At.vec (hM.atk hA69 hB70) hi71.2) hi74.2) hi77.2) ?_; intro a hE
       exact ⟨Kept.refl _ _, _, _, rfl, hE, rfl⟩
      ·intro a w ux34 hE hM hp
       have f20 : ux34 20 = (vB (x48 ^^^ x63)) := hp 0 _ rfl rfl
       have f28 : ux34 28 = (vB x78) := hp 1 _ rfl rfl
       refine Zh hE Za (dl rfl) (lk rfl f20) (lk rfl f28) (WK (x48 ^^^ x63) x78) ?_; intro a hE
       exact ⟨Kept.refl _ _, _, _, rfl, hE, rfl⟩
      ·intro a w ux34 hE hM hp
       refine Zd hE Za (dl rfl) rfl ?_; intro a hE
       exact ⟨Kept.refl _ _, _, _, rfl, hE, rfl⟩
      ·intro a w ux34 hE hM hp
       refine Zd hE Za (dl rfl) rfl ?_; intro a hE
       exact ⟨Kept.refl _ _, _, _, rfl, hE, rfl⟩
      ·intro a w ux34 hE hM hp
       refine Zd hE Za (dl rfl) rfl ?_; intro a hE
       exact ⟨Kept.refl _ _, _, _, rfl, hE, rfl⟩
      ·intro a w ux34 hE hM hp
       have f30 : ux34 30 = v0_1 := hp 0 _ rfl rfl
       refine XI hE Za (dl rfl) (lk (lk rfl f30) hv82) ?_; intro a hE
       exact ⟨Kept.refl _ _, _, _, rfl, hE, rfl⟩
      ·intro a w ux34 hE hM hp
       have f31 : ux34 31 = (vI s29.2) := hp 1 _ rfl rfl
       have f33 : ux34 33 = (ptr pb80 0) := hp 0 _ rfl rfl
       refine Zo hE Za (dl rfl) (lk rfl f33) (lk rfl f31) Tryz.underlying267 ty265 hi86.1 ?_; intro a hE
       exact ⟨Kept.refl _ _, _, _, rfl, hE, rfl⟩
      ·intro a w ux34 hE hM hp
       have f34 : ux34 34 = (ptr pb80 (0 + (s29.2).toNat * 1024)) := hp 0 _ rfl rfl
       refine Zo hE Za (dl rfl) (lk rfl f34) rfl Tryz.underlying265 ty166 hi89.1 ?_; intro a hE
       exact ⟨Kept.refl _ _, _, _, rfl, hE, rfl⟩
      ·intro a w ux34 hE hM hp
       have f32 : ux34 32 = (vB j9.2.2.2) := hp 1 _ rfl rfl
       have f35 : ux34 35 = (ptr pb80 (0 + (s29.2).toNat * 1024 + ((3 : Int)).toNat * 256)) := hp 0 _ rfl rfl
       refine Zo hE Za (dl rfl) (lk rfl f35) (lk rfl f32) Tryz.underlying166 ty5 hi92.1 ?_; intro a hE
       exact ⟨Kept.refl _ _, _, _, rfl, hE, rfl⟩
      ·intro a w ux34 hE hM hp
       have f36 : ux34 36 = (ptr pb80 (0 + (s29.2).toNat * 1024 + ((3 : Int)).toNat * 256 + ((bI j9.2.2.2)).toNat * 1)) := hp 0 _ rfl rfl
       refine Zq (v := (vB x93)) hE Za (dl rfl) (lk rfl f36) ty5 rfl (At.vec (At.vec (At.vec (hM.atk hA84 hB85) hi86.2) hi89.2) hi92.2) ?_; intro a hE
       exact ⟨Kept.refl _ _, _, _, rfl, hE, rfl⟩
      ·intro a w ux34 hE hM hp
       have f29 : ux34 29 = (vB ((x48 ^^^ x63) ^^^ x78)) := hp 0 _ rfl rfl
       have f37 : ux34 37 = (vB x93) := hp 1 _ rfl rfl
       refine Zh hE Za (dl rfl) (lk rfl f29) (lk rfl f37) (WK ((x48 ^^^ x63) ^^^ x78) x93) ?_; intro a hE
       exact ⟨Kept.refl _ _, _, _, rfl, hE, rfl⟩
      ·intro a w ux34 hE hM hp
       have f0 : ux34 0 = (Value.slice (some ⟨pb1, 0, none⟩) 16 16) := hp 0 _ rfl rfl
       have f3 : ux34 3 = (vI (wr (s4.2 + s29.2))) := hp 1 _ rfl rfl
       refine s_indexFull hE Za (dl rfl) (lk rfl f0) (lk rfl f3) Tryz.underlying57 ty5 hi97.1 ?_; intro a hE
       exact ⟨Kept.refl _ _, _, _, rfl, hE, rfl⟩
      ·intro a w ux34 hE hM hg
       have f0 : ux34 0 = (Value.slice (some ⟨pb1, 0, none⟩) 16 16) := hg 0 (by decide)
       have f1 : ux34 1 = (vI s4.2) := hg 1 (by decide)
       have f2 : ux34 2 = (vI s29.2) := hg 2 (by decide)
       have f3 : ux34 3 = (vI (wr (s4.2 + s29.2))) := hg 3 (by decide)
       have f4 : ux34 4 = v0_1 := hg 4 (by decide)
       have f5 : ux34 5 = (vI s29.2) := hg 5 (by decide)
       have f6 : ux34 6 = (vB j9.1) := hg 6 (by decide)
       have f7 : ux34 7 = (ptr pb35 0) := hg 7 (by decide)
       have f8 : ux34 8 = (ptr pb35 (0 + (s29.2).toNat * 1024)) := hg 8 (by decide)
       have f9 : ux34 9 = (ptr pb35 (0 + (s29.2).toNat * 1024 + ((0 : Int)).toNat * 256)) := hg 9 (by decide)
       have f10 : ux34 10 = (ptr pb35 (0 + (s29.2).toNat * 1024 + ((0 : Int)).toNat * 256 + ((bI j9.1)).toNat * 1)) := hg 10 (by decide)
       have f11 : ux34 11 = (vB x48) := hg 11 (by decide)
       have f12 : ux34 12 = v0_1 := hg 12 (by decide)
       have f13 : ux34 13 = (vI s29.2) := hg 13 (by decide)
       have f14 : ux34 14 = (vB j9.2.1) := hg 14 (by decide)
       have f15 : ux34 15 = (ptr pb50 0) := hg 15 (by decide)
       have f16 : ux34 16 = (ptr pb50 (0 + (s29.2).toNat * 1024)) := hg 16 (by decide)
       have f17 : ux34 17 = (ptr pb50 (0 + (s29.2).toNat * 1024 + ((1 : Int)).toNat * 256)) := hg 17 (by decide)
       have f18 : ux34 18 = (ptr pb50 (0 + (s29.2).toNat * 1024 + ((1 : Int)).toNat * 256 + ((bI j9.2.1)).toNat * 1)) := hg 18 (by decide)
       have f19 : ux34 19 = (vB x63) := hg 19 (by decide)
       have f20 : ux34 20 = (vB (x48 ^^^ x63)) := hg 20 (by decide)
       have f21 : ux34 21 = v0_1 := hg 21 (by decide)
       have f22 : ux34 22 = (vI s29.2) := hg 22 (by decide)
       have f23 : ux34 23 = (vB j9.2.2.1) := hg 23 (by decide)
       have f24 : ux34 24 = (ptr pb65 0) := hg 24 (by decide)
       have f25 : ux34 25 = (ptr pb65 (0 + (s29.2).toNat * 1024)) := hg 25 (by decide)
       have f26 : ux34 26 = (ptr pb65 (0 + (s29.2).toNat * 1024 + ((2 : Int)).toNat * 256)) := hg 26 (by decide)
       have f27 : ux34 27 = (ptr pb65 (0 + (s29.2).toNat * 1024 + ((2 : Int)).toNat * 256 + ((bI j9.2.2.1)).toNat * 1)) := hg 27 (by decide)
       have f28 : ux34 28 = (vB x78) := hg 28 (by decide)
       have f29 : ux34 29 = (vB ((x48 ^^^ x63) ^^^ x78)) := hg 29 (by decide)
       have f30 : ux34 30 = v0_1 := hg 30 (by decide)
       have f31 : ux34 31 = (vI s29.2) := hg 31 (by decide)
       have f32 : ux34 32 = (vB j9.2.2.2) := hg 32 (by decide)
       have f33 : ux34 33 = (ptr pb80 0) := hg 33 (by decide)
       have f34 : ux34 34 = (ptr pb80 (0 + (s29.2).toNat * 1024)) := hg 34 (by decide)
       have f35 : ux34 35 = (ptr pb80 (0 + (s29.2).toNat * 1024 + ((3 : Int)).toNat * 256)) := hg 35 (by decide)
       have f36 : ux34 36 = (ptr pb80 (0 + (s29.2).toNat * 1024 + ((3 : Int)).toNat * 256 + ((bI j9.2.2.2)).toNat * 1)) := hg 36 (by decide)
       have f37 : ux34 37 = (vB x93) := hg 37 (by decide)
       have f38 : ux34 38 = (vB (((x48 ^^^ x63) ^^^ x78) ^^^ x93)) := hg 38 (by decide)
       have f39 : ux34 39 = (ptr pb1 (0 + ((wr (s4.2 + s29.2))).toNat * 1)) := hg 39 (by decide)
       have hE := hE.sub (e' := [(38, (Value.slice (some ⟨pb1, 0, none⟩) 16 16)), (39, (vI s4.2)), (40, (vI s29.2)), (41, (vI (wr (s4.2 + s29.2)))), (42, v0_1), (43, (vI s29.2)), (44, (vB j9.1)), (45, (ptr pb35 0)), (46, (ptr pb35 (0 + (s29.2).toNat * 1024))), (47, (ptr pb35 (0 + (s29.2).toNat * 1024 + ((0 : Int)).toNat * 256))), (48, (ptr pb35 (0 + (s29.2).toNat * 1024 + ((0 : Int)).toNat * 256 + ((bI j9.1)).toNat * 1))), (49, (vB x48)), (50, v0_1), (51, (vI s29.2)), (52, (vB j9.2.1)), (53, (ptr pb50 0)), (54, (ptr pb50 (0 + (s29.2).toNat * 1024))), (55, (ptr pb50 (0 + (s29.2).toNat * 1024 + ((1 : Int)).toNat * 256))), (56, (ptr pb50 (0 + (s29.2).toNat * 1024 + ((1 : Int)).toNat * 256 + ((bI j9.2.1)).toNat * 1))), (57, (vB x63)), (58, (vB (x48 ^^^ x63))), (59, v0_1), (60, (vI s29.2)), (61, (vB j9.2.2.1)), (62, (ptr pb65 0)), (63, (ptr pb65 (0 + (s29.2).toNat * 1024))), (64, (ptr pb65 (0 + (s29.2).toNat * 1024 + ((2 : Int)).toNat * 256))), (65, (ptr pb65 (0 + (s29.2).toNat * 1024 + ((2 : Int)).toNat * 256 + ((bI j9.2.2.1)).toNat * 1))), (66, (vB x78)), (67, (vB ((x48 ^^^ x63) ^^^ x78))), (68, v0_1), (69, (vI s29.2)), (70, (vB j9.2.2.2)), (71, (ptr pb80 0)), (72, (ptr pb80 (0 + (s29.2).toNat * 1024))), (73, (ptr pb80 (0 + (s29.2).toNat * 1024 + ((3 : Int)).toNat * 256))), (74, (ptr pb80 (0 + (s29.2).toNat * 1024 + ((3 : Int)).toNat * 256 + ((bI j9.2.2.2)).toNat * 1))), (75, (vB x93)), (76, (vB (((x48 ^^^ x63) ^^^ x78) ^^^ x93))), (77, (ptr pb1 (0 + ((wr (s4.2 + s29.2))).toNat * 1))), (0, v0_1), (1, (Value.slice (some ⟨pb1, 0, none⟩) 16 16)), (4, (vI s4.2)), (5, (vB j9.1)), (6, (vB j9.2.1)), (7, (vB j9.2.2.1)), (8, (vB j9.2.2.2)), (9, (vI s29.2)), (35, (vI s29.2)), (36, (vT (decide (s29.2 < 4)))), (37, (vI s29.2))]) ⟨lk rfl f0, lk rfl f1, lk rfl f2, lk rfl f3, lk rfl f4, lk rfl f5, lk rfl f6, lk rfl f7, lk rfl f8, lk rfl f9, lk rfl f10, lk rfl f11, lk rfl f12, lk rfl f13, lk rfl f14, lk rfl f15, lk rfl f16, lk rfl f17, lk rfl f18, lk rfl f19, lk rfl f20, lk rfl f21, lk rfl f22, lk rfl f23, lk rfl f24, lk rfl f25, lk rfl f26, lk rfl f27, lk rfl f28, lk rfl f29, lk rfl f30, lk rfl f31, lk rfl f32, lk rfl f33, lk rfl f34, lk rfl f35, lk rfl f36, lk rfl f37, lk rfl f38, lk rfl f39, rfl, rfl, rfl, rfl, rfl, rfl, rfl, rfl, rfl, rfl, rfl, trivial⟩
       refine Zp (seg := [(vB (((x48 ^^^ x63) ^^^ x78) ^^^ x93))]) (cs' := Flat.enc (s29.1.setIfInBounds ((wr (s4.2 + s29.2))).toNat (((x48 ^^^ x63) ^^^ x78) ^^^ x93))) hE hM Za rfl rfl rfl ty5 rfl (ZO (v := s29.1) (x := ((x48 ^^^ x63) ^^^ x78) ^^^ x93) hi97.1) (Flat.cell (((x48 ^^^ x63) ^^^ x78) ^^^ x93 : UInt8)) (ZI (v := s29.1) (x := ((x48 ^^^ x63) ^^^ x78) ^^^ x93) hi97.1) ?_; intro w a hM hE
       refine Zk (Yl (Zz (wp_region_lit (Zh hE Za (dl rfl) rfl rfl rfl ?_)))); intro a hE
       refine Zd hE Za (dl rfl) rfl ?_; intro a hE
       refine Zk (Zn ?_)
       exact ⟨_, (Option.some.inj hs30).symm, hE.sub ⟨rfl, rfl, rfl, rfl, rfl, rfl, rfl, rfl, trivial⟩, hM⟩
     ·intro hb33
      have hs30 := ZC hs30 hb33
      refine wp_exit (Zr (Zr (Yk ?_)))
      have ht98 := hx31 _ (Option.some.inj hs30).symm
      subst ht98
      refine Zn ?_
      exact ⟨hE.sub ⟨rfl, rfl, rfl, trivial⟩, hM⟩
    ·skip
     rintro a w ⟨hE, hM⟩
     refine Yl (Zz (wp_region_lit (Zd hE Za (dl rfl) rfl ?_))); intro a hE
     refine Zh hE Za (dl rfl) rfl rfl rfl ?_; intro a hE
     refine Ze hE Za (dl rfl) rfl ?_; intro a hE
     refine Zk (Zn ?_)
     exact ⟨_, (Option.some.inj hF28).symm, hE.sub ⟨rfl, rfl, rfl, trivial⟩, hM⟩
  ·intro hb8
   have hs5 := ZC hs5 hb8
   refine wp_exit (Zr (Zr (Yk ?_)))
   have ht99 := hx6 _ (Option.some.inj hs5).symm
   subst ht99
   refine Zn ?_
   exact ⟨hE.sub ⟨rfl, trivial⟩, hM⟩
 ·skip
  rintro a w ⟨hE, hM⟩
  have hr := Option.some.inj hF3
  subst hr
  exact k_ret0n hE (by rfl) ⟨_, rfl, rfl, hM⟩
noncomputable def Yi (p0 : (Ref Gengine)) (s18 : (Vector UInt8 16) × Int) (s29 : (Vector UInt8 16) × Int) : Option (Fl ((Vector UInt8 16) × Int) (Vector UInt8 16)) :=
 if (decide (s29.2 < 16)) = true then ((ZK s18.1 s29.2).bind fun x34 => (ZK p0.v.box (bI x34)).bind fun x48 => (ZK s29.1 s29.2).bind fun x51 => some (Fl.nx ((s29.1.setIfInBounds (s29.2).toNat x48), wr (s29.2 + 1)))) else (some (Fl.ex s29.1))
noncomputable def Yh (p0 : (Ref Gengine)) (p1 : (List (Vector UInt8 16))) (s18 : (Vector UInt8 16) × Int) : Option (Fl ((Vector UInt8 16) × Int) (Vector UInt8 16)) :=
 if (decide (s18.2 < (p1.length : Int))) = true then (((ZJ (Yi p0 s18) (s18.1, 0) : Option ((Vector UInt8 16))).bind fun j26 => ((X7 p0.v.places j26).bind fun r68 => some r68 : Option ((Vector UInt8 16))).bind fun j54 => (if (decide (s18.2 < (wr ((p1.length : Int) - 1)))) = true then ((slc j54.toList (0 : Int) (16 : Int)).bind fun l86 => (WX p0.v.mixer j54).bind fun r89 => some r89) else (some j54) : Option ((Vector UInt8 16))).bind fun j71 => (idx p1 s18.2).bind fun x94 => (Ym j71 x94).bind fun r97 => some r97 : Option ((Vector UInt8 16))).bind fun j23 => some (Fl.nx (j23, wr (s18.2 + 1)))) else (some (Fl.ex s18.1))
noncomputable def YA (p0 : (Ref Gengine)) (p1 : (List (Vector UInt8 16))) (p2 : (Vector UInt8 16)) : Option ((Vector UInt8 16)) :=
 ((idx p1 (0 : Int)).bind fun x9 => (Ym p2 x9).bind fun r12 => some r12 : Option ((Vector UInt8 16))).bind fun j5 => (ZJ (Yh p0 p1) (j5, 1) : Option ((Vector UInt8 16))).bind fun j15 => some j15
theorem c_impl_engine_encipherWith (w0 : World) (p0 : (Ref Gengine)) (v0_1 : Value) (hv0_1 : Ro w0 p0 [v0_1]) (p1 : (List (Vector UInt8 16))) (v1_1 : Value) (hv1_1 : Ro w0 p1 [v1_1]) (p2 : (Vector UInt8 16)) (r : (Vector UInt8 16)) (hF : YA p0 p1 p2 = some r) :
  Calls Tryz.prog 227 [v0_1, v1_1, (Value.agg (Flat.enc p2).toArray)].toArray w0 (fun en w' => ∃ v, en = .returned v ∧ (v = (Value.agg (Flat.enc r).toArray) ∧ Kept (Old w0) w0 w')) := by
 refine ZA (n := 59) Tryz.func227 rfl rfl (Nat.le_of_ble_eq_true rfl) rfl ?_
 intro a hE
 have hM := M.start w0
 unfold YA at hF
 refine Zc (ZV (cs := Flat.enc p2) hE hM Za (dl rfl) rfl rfl ?_); intro b1 w a hM hE
 refine ZE hE hM Za (dl rfl) ZF ?_; intro b3 w a hM hE
 refine Zf ?_
 obtain ⟨j5, hl6, hF7⟩ := bind_some hF
 refine ZR (fun a w => Env 59 a [(0, v0_1), (1, v1_1), (5, (ptr b1 0)), (6, (ptr b3 0))] ∧ M (Old w0) w0 w [raw b3 (Flat.enc (Vector.replicate 16 (0 : UInt8))), raw b1 (Flat.enc j5)]) ?_ ?_
 ·skip
  obtain ⟨x9, e10, hl6⟩ := bind_some hl6
  have hi11 := ZY e10
  obtain ⟨r12, e13, hl6⟩ := bind_some hl6
  refine Yo (n := 59) (hd := [_, _, _, _, _]) (tl := [_]) YU rfl rfl [10, 11, 12, 13, 14] (by decide) (fun w => M (Old w0) w0 w [raw b3 (Flat.enc (Vector.replicate 16 (0 : UInt8))), raw b1 (Flat.enc p2)]) (fun j => ([fun v _ => v = (Value.agg (Flat.enc p2).toArray), fun v _ => v = v1_1, fun v _ => v = (ptr (sb v1_1) (so v1_1 + ((0 : Int)).toNat * 16)), fun v _ => v = (Value.agg (Flat.enc x9).toArray), fun v _ => v = (Value.agg (Flat.enc r12).toArray)] : List (Value → World → Prop)).getD j (fun _ _ => True)) (fun _ _ h hk => h.keep hk) (gup (Zj (Zj (Zj (Zj (Zj Vq)))))) hE hM.drew (ZM (Zb ?_ (Zb ?_ (Zb ?_ (Zb ?_ (Zb ?_ ZH)))))) ?_
  ·intro a w ux8 hE hM hp
   refine Zm (cs := Flat.enc p2) hE Za (dl rfl) rfl ZF rfl (hM.rawAt (pre := [_])) (Flat.len _) ?_; intro a hE
   exact ⟨Kept.refl _ _, _, _, rfl, hE, rfl⟩
  ·intro a w ux8 hE hM hp
   refine Zd hE Za (dl rfl) rfl ?_; intro a hE
   exact ⟨Kept.refl _ _, _, _, rfl, hE, rfl⟩
  ·intro a w ux8 hE hM hp
   have f1 : ux8 1 = v1_1 := hp 0 _ rfl rfl
   refine ZX hE Za (dl rfl) (lk rfl f1) rfl Tryz.underlying32 ZF (hM.rd hv1_1) hi11.1 ?_; intro a hE
   exact ⟨Kept.refl _ _, _, _, rfl, hE, rfl⟩
  ·intro a w ux8 hE hM hp
   have f2 : ux8 2 = (ptr (sb v1_1) (so v1_1 + ((0 : Int)).toNat * 16)) := hp 0 _ rfl rfl
   refine Zm (cs := Flat.enc x9) hE Za (dl rfl) (lk rfl f2) ZF rfl (Wh (hM.rd hv1_1) hi11.2) (Flat.len _) ?_; intro a hE
   exact ⟨Kept.refl _ _, _, _, rfl, hE, rfl⟩
  ·intro a w ux8 hE hM hp
   have f0 : ux8 0 = (Value.agg (Flat.enc p2).toArray) := hp 0 _ rfl rfl
   have f3 : ux8 3 = (Value.agg (Flat.enc x9).toArray) := hp 1 _ rfl rfl
   refine Zs (vs := [(Value.agg (Flat.enc p2).toArray), (Value.agg (Flat.enc x9).toArray)]) hE Za (dl rfl) (ZZ (ZT (lk rfl f0) (ZT (lk rfl f3) Y7))) cb196 (XW _ p2 x9 r12 e13) ?_
   rintro v w a ⟨rfl, hK⟩ hE
   exact ⟨hK, _, _, rfl, hE, rfl⟩
  ·intro a w ux8 hE hM hg
   have f0 : ux8 0 = (Value.agg (Flat.enc p2).toArray) := hg 0 (by decide)
   have f1 : ux8 1 = v1_1 := hg 1 (by decide)
   have f2 : ux8 2 = (ptr (sb v1_1) (so v1_1 + ((0 : Int)).toNat * 16)) := hg 2 (by decide)
   have f3 : ux8 3 = (Value.agg (Flat.enc x9).toArray) := hg 3 (by decide)
   have f4 : ux8 4 = (Value.agg (Flat.enc r12).toArray) := hg 4 (by decide)
   have hE := hE.sub (e' := [(10, (Value.agg (Flat.enc p2).toArray)), (11, v1_1), (12, (ptr (sb v1_1) (so v1_1 + ((0 : Int)).toNat * 16))), (13, (Value.agg (Flat.enc x9).toArray)), (14, (Value.agg (Flat.enc r12).toArray)), (0, v0_1), (1, v1_1), (2, (Value.agg (Flat.enc p2).toArray)), (5, (ptr b1 0)), (6, (ptr b3 0))]) ⟨lk rfl f0, lk rfl f1, lk rfl f2, lk rfl f3, lk rfl f4, rfl, rfl, rfl, rfl, rfl, trivial⟩
   have hM := hM.pull (pre := [_])
   refine Zp (seg := Flat.enc r12) (cs' := Flat.enc r12) hE hM Za rfl rfl rfl ZF (Flat.len _) (zle flq) (Flat.cell _) (Zl flq) ?_; intro w a hM hE
   refine Zk ?_
   have ht14 := Option.some.inj hl6
   subst ht14
   refine Zn ?_
   have hM := hM.pull (pre := [_])
   exact ⟨hE.sub ⟨rfl, rfl, rfl, rfl, trivial⟩, hM⟩
 ·skip
  rintro a w ⟨hE, hM⟩
  refine wp_seq (Zc (Ze hE Za (dl rfl) rfl ?_)); intro a hE
  refine Zf ?_
  obtain ⟨j15, hl16, hF17⟩ := bind_some hF7
  refine ZS (fun a w => Env 59 a [(5, (ptr b1 0)), (6, (ptr b3 0))] ∧ M (Old w0) w0 w [raw b3 (Flat.enc (Vector.replicate 16 (0 : UInt8))), raw b1 (Flat.enc j15)]) ?_ ?_
  ·skip
   refine wp_block ?_
   refine ZL (fun (s18 : (Vector UInt8 16) × Int) a w => Env 59 a [(0, v0_1), (1, v1_1), (5, (ptr b1 0)), (6, (ptr b3 0)), (7, (vI s18.2))] ∧ M (Old w0) w0 w [raw b3 (Flat.enc (Vector.replicate 16 (0 : UInt8))), raw b1 (Flat.enc s18.1)]) hl16 ⟨hE.sub ⟨rfl, rfl, rfl, rfl, rfl, trivial⟩, hM⟩ ?_
   rintro s18 a w ⟨hE, hM⟩ o21 hs19 hx20
   unfold Yh at hs19
   refine wp_seq (Zc (Zd hE Za (dl rfl) rfl ?_)); intro a hE
   refine Zd hE Za (dl rfl) rfl ?_; intro a hE
   refine Yb hE Za (dl rfl) rfl Tryz.underlying32 (hM.rd hv1_1) ?_; intro a hE
   refine Zh hE Za (dl rfl) rfl rfl rfl ?_; intro a hE
   refine Zf ?_
   refine Zw hE rfl ?_ ?_
   ·intro hb22
    have hs19 := ZD hs19 hb22
    refine wp_skip (Zz ?_)
    obtain ⟨j23, hl24, hF25⟩ := bind_some hs19
    refine ZR (fun a w => Env 59 a [(0, v0_1), (1, v1_1), (5, (ptr b1 0)), (6, (ptr b3 0)), (7, (vI s18.2))] ∧ M (Old w0) w0 w [raw b3 (Flat.enc (Vector.replicate 16 (0 : UInt8))), raw b1 (Flat.enc j23)]) ?_ ?_
    ·skip
     refine wp_block (wp_seq (Zc (Zm (cs := Flat.enc s18.1) hE Za (dl rfl) rfl ZF rfl (hM.rawAt (pre := [_])) (Flat.len _) ?_))); intro a hE
     refine Zd hE Za (dl rfl) rfl ?_; intro a hE
     refine Zf ?_
     obtain ⟨j26, hl27, hF28⟩ := bind_some hl24
     refine ZS (fun a w => Env 59 a [(0, v0_1), (1, v1_1), (5, (ptr b1 0)), (6, (ptr b3 0)), (7, (vI s18.2))] ∧ M (Old w0) w0 w [raw b3 (Flat.enc (Vector.replicate 16 (0 : UInt8))), raw b1 (Flat.enc j26)]) ?_ ?_
     ·skip
      refine wp_block ?_
      refine ZL (fun (s29 : (Vector UInt8 16) × Int) a w => Env 59 a [(0, v0_1), (1, v1_1), (5, (ptr b1 0)), (6, (ptr b3 0)), (7, (vI s18.2)), (21, (Value.agg (Flat.enc s18.1).toArray)), (22, (vI s29.2))] ∧ M (Old w0) w0 w [raw b3 (Flat.enc (Vector.replicate 16 (0 : UInt8))), raw b1 (Flat.enc s29.1)]) hl27 ⟨hE.sub ⟨rfl, rfl, rfl, rfl, rfl, rfl, rfl, trivial⟩, hM⟩ ?_
      rintro s29 a w ⟨hE, hM⟩ o32 hs30 hx31
      unfold Yi at hs30
      refine Zc (Zh hE Za (dl rfl) rfl rfl rfl ?_); intro a hE
      refine Zf (wp_seq ?_)
      refine Zw hE rfl ?_ ?_
      ·intro hb33
       have hs30 := ZD hs30 hb33
       refine wp_skip (Zz (wp_seq (wp_block (Zc (Zd hE Za (dl rfl) rfl ?_))))); intro a hE
       obtain ⟨x34, e35, hs30⟩ := bind_some hs30
       have hi36 := Zi e35
       refine s_indexV hE Za (dl rfl) rfl rfl Tryz.underlying70 ty5 rfl rfl hi36 rfl ?_; intro a hE
       refine Ze hE Za (dl rfl) rfl ?_; intro a hE
       refine Ze hE Za (dl rfl) rfl ?_; intro a hE
       refine Zf (wp_region_lit (Zd hE Za (dl rfl) rfl ?_)); intro a hE
       refine Zd hE Za (dl rfl) rfl ?_; intro a hE
       refine Zd hE Za (dl rfl) rfl ?_; intro a hE
       obtain ⟨pb37, ds38, hv39, hx40, hA41, hB42⟩ := Uz hv0_1 -- ^
       obtain ⟨u43, u45, rfl, h44, h46⟩ := un_Gengine hx40 -- ^
       refine XI hE Za (dl rfl) (lk rfl hv39) ?_; intro a hE
       refine Zg hE Za (dl rfl) rfl (fd244_0) ?_; intro a hE
       obtain ⟨x48, e49, hs30⟩ := bind_some hs30
       have hi47 := Zi e49
       refine Zo hE Za (dl rfl) rfl rfl Tryz.underlying167 ty5 hi47.1 ?_; intro a hE
       refine Zq (v := (vB x48)) hE Za (dl rfl) rfl ty5 rfl (At.vec (At.cat (pre := []) (hM.atk hA41 hB42) cl0) hi47.2) ?_; intro a hE
       obtain ⟨x51, e52, hs30⟩ := bind_some hs30
       have hi50 := Zi e52
       refine Zo hE Za (dl rfl) rfl rfl Tryz.underlying70 ty5 hi50.1 ?_; intro a hE
       have hM := hM.pull (pre := [_])
       refine Zp (seg := [(vB x48)]) (cs' := Flat.enc (s29.1.setIfInBounds (s29.2).toNat x48)) hE hM Za rfl rfl rfl ty5 rfl (ZO (v := s29.1) (x := x48) hi50.1) (Flat.cell (x48 : UInt8)) (ZI (v := s29.1) (x := x48) hi50.1) ?_; intro w a hM hE
       refine Zk (Yl (Zz (wp_region_lit (Zh hE Za (dl rfl) rfl rfl rfl ?_)))); intro a hE
       refine Zd hE Za (dl rfl) rfl ?_; intro a hE
       refine Zk (Zn ?_)
       have hM := hM.pull (pre := [_])
       exact ⟨_, (Option.some.inj hs30).symm, hE.sub ⟨rfl, rfl, rfl, rfl, rfl, rfl, rfl, trivial⟩, hM⟩
      ·intro hb33
       have hs30 := ZC hs30 hb33
       refine wp_exit (Zr (Zr (Yk ?_)))
       have ht53 := hx31 _ (Option.some.inj hs30).symm
       subst ht53
       refine Zn ?_
       exact ⟨hE.sub ⟨rfl, rfl, rfl, rfl, rfl, trivial⟩, hM⟩
     ·skip
      rintro a w ⟨hE, hM⟩
      refine Zz ?_
      obtain ⟨j54, hl55, hF56⟩ := bind_some hF28
      refine ZR (fun a w => Env 59 a [(0, v0_1), (1, v1_1), (5, (ptr b1 0)), (6, (ptr b3 0)), (7, (vI s18.2))] ∧ M (Old w0) w0 w [raw b3 (Flat.enc (Vector.replicate 16 (0 : UInt8))), raw b1 (Flat.enc j54)]) ?_ ?_
      ·skip
       obtain ⟨pb58, ds59, hv60, hx61, hA62, hB63⟩ := Uz hv0_1 -- ^
       obtain ⟨u64, u66, rfl, h65, h67⟩ := un_Gengine hx61 -- ^
       obtain ⟨r68, e69, hl55⟩ := bind_some hl55
       refine Yo (n := 59) (hd := [_, _, _, _, _, _]) (tl := [_]) YU rfl rfl [35, 36, 37, 38, 39, 40] (by decide) (fun w => M (Old w0) w0 w [raw b3 (Flat.enc (Vector.replicate 16 (0 : UInt8))), raw b1 (Flat.enc j26)]) (fun j => ([fun v _ => v = v0_1, fun v _ => v = (ptr pb58 0), fun v _ => v = (ptr pb58 (0 + 512)), fun v _ => v = (Value.agg (Flat.enc p0.v.places).toArray), fun v _ => v = (Value.agg (Flat.enc j26).toArray), fun v _ => v = (Value.agg (Flat.enc r68).toArray)] : List (Value → World → Prop)).getD j (fun _ _ => True)) (fun _ _ h hk => h.keep hk) (gup (Zj (Zj (Zj (Zj (Zj (Zj Vq))))))) hE hM.drew (ZM (Zb ?_ (Zb ?_ (Zb ?_ (Zb ?_ (Zb ?_ (Zb ?_ ZH))))))) ?_
       ·intro a w ux57 hE hM hp
        refine Zd hE Za (dl rfl) rfl ?_; intro a hE
        exact ⟨Kept.refl _ _, _, _, rfl, hE, rfl⟩
       ·intro a w ux57 hE hM hp
        have f0 : ux57 0 = v0_1 := hp 0 _ rfl rfl
        refine XI hE Za (dl rfl) (lk (lk rfl f0) hv60) ?_; intro a hE
        exact ⟨Kept.refl _ _, _, _, rfl, hE, rfl⟩
       ·intro a w ux57 hE hM hp
        have f1 : ux57 1 = (ptr pb58 0) := hp 0 _ rfl rfl
        refine Zg hE Za (dl rfl) (lk rfl f1) (fd244_2) ?_; intro a hE
        exact ⟨Kept.refl _ _, _, _, rfl, hE, rfl⟩
       ·intro a w ux57 hE hM hp
        have f2 : ux57 2 = (ptr pb58 (0 + 512)) := hp 0 _ rfl rfl
        refine Zm (cs := Flat.enc p0.v.places) hE Za (dl rfl) (lk rfl f2) ty171 rfl (At.cat (pre := [Flat.enc p0.v.box, Flat.enc p0.v.backBox]) (hM.atk hA62 hB63) (cl1 (n := 256) (m := 256) (Flat.len _) (cl1 (n := 256) (m := 0) (Flat.len _) cl0))) (Flat.len _) ?_; intro a hE
        exact ⟨Kept.refl _ _, _, _, rfl, hE, rfl⟩
       ·intro a w ux57 hE hM hp
        refine Zm (cs := Flat.enc j26) hE Za (dl rfl) rfl ZF rfl (hM.rawAt (pre := [_])) (Flat.len _) ?_; intro a hE
        exact ⟨Kept.refl _ _, _, _, rfl, hE, rfl⟩
       ·intro a w ux57 hE hM hp
        have f3 : ux57 3 = (Value.agg (Flat.enc p0.v.places).toArray) := hp 0 _ rfl rfl
        have f4 : ux57 4 = (Value.agg (Flat.enc j26).toArray) := hp 1 _ rfl rfl
        refine Zs (vs := [(Value.agg (Flat.enc p0.v.places).toArray), (Value.agg (Flat.enc j26).toArray)]) hE Za (dl rfl) (ZZ (ZT (lk rfl f3) (ZT (lk rfl f4) Y7))) cb245 (c_impl_Places_move _ p0.v.places j26 r68 e69) ?_
        rintro v w a ⟨rfl, hK⟩ hE
        exact ⟨hK, _, _, rfl, hE, rfl⟩
       ·intro a w ux57 hE hM hg
        have f0 : ux57 0 = v0_1 := hg 0 (by decide)
        have f1 : ux57 1 = (ptr pb58 0) := hg 1 (by decide)
        have f2 : ux57 2 = (ptr pb58 (0 + 512)) := hg 2 (by decide)
        have f3 : ux57 3 = (Value.agg (Flat.enc p0.v.places).toArray) := hg 3 (by decide)
        have f4 : ux57 4 = (Value.agg (Flat.enc j26).toArray) := hg 4 (by decide)
        have f5 : ux57 5 = (Value.agg (Flat.enc r68).toArray) := hg 5 (by decide)
        have hE := hE.sub (e' := [(35, v0_1), (36, (ptr pb58 0)), (37, (ptr pb58 (0 + 512))), (38, (Value.agg (Flat.enc p0.v.places).toArray)), (39, (Value.agg (Flat.enc j26).toArray)), (40, (Value.agg (Flat.enc r68).toArray)), (0, v0_1), (1, v1_1), (5, (ptr b1 0)), (6, (ptr b3 0)), (7, (vI s18.2))]) ⟨lk rfl f0, lk rfl f1, lk rfl f2, lk rfl f3, lk rfl f4, lk rfl f5, rfl, rfl, rfl, rfl, rfl, trivial⟩
        have hM := hM.pull (pre := [_])
        refine Zp (seg := Flat.enc r68) (cs' := Flat.enc r68) hE hM Za rfl rfl rfl ZF (Flat.len _) (zle flq) (Flat.cell _) (Zl flq) ?_; intro w a hM hE
        refine Zk ?_
        have ht70 := Option.some.inj hl55
        subst ht70
        refine Zn ?_
        have hM := hM.pull (pre := [_])
        exact ⟨hE.sub ⟨rfl, rfl, rfl, rfl, rfl, trivial⟩, hM⟩
      ·skip
       rintro a w ⟨hE, hM⟩
       obtain ⟨j71, hl72, hF73⟩ := bind_some hF56
       refine ZR (fun a w => Env 59 a [(0, v0_1), (1, v1_1), (5, (ptr b1 0)), (6, (ptr b3 0)), (7, (vI s18.2))] ∧ M (Old w0) w0 w [raw b3 (Flat.enc (Vector.replicate 16 (0 : UInt8))), raw b1 (Flat.enc j71)]) ?_ ?_
       ·skip
        refine Zc (Zd hE Za (dl rfl) rfl ?_); intro a hE
        refine Zd hE Za (dl rfl) rfl ?_; intro a hE
        refine Yb hE Za (dl rfl) rfl Tryz.underlying32 (hM.rd hv1_1) ?_; intro a hE
        refine Zh hE Za (dl rfl) rfl rfl rfl ?_; intro a hE
        refine Zh hE Za (dl rfl) rfl rfl rfl ?_; intro a hE
        refine Zf ?_
        refine Zw hE rfl ?_ ?_
        ·intro hb74
         have hl72 := ZD hl72 hb74
         obtain ⟨pb76, ds77, hv78, hx79, hA80, hB81⟩ := Uz hv0_1 -- ^
         obtain ⟨u82, u84, rfl, h83, h85⟩ := un_Gengine hx79 -- ^
         obtain ⟨l86, e87, hl72⟩ := bind_some hl72
         have hb88 := slc_arr e87 -- ^
         refine Yo (n := 59) (hd := [_, _, _, _, _]) (tl := [_]) YU rfl rfl [46, 47, 48, 49, 50] (by decide) (fun w => M (Old w0) w0 w [raw b3 (Flat.enc (Vector.replicate 16 (0 : UInt8))), raw b1 (Flat.enc j54)]) (fun j => ([fun v _ => v = v0_1, fun v _ => v = (ptr pb76 0), fun v _ => v = (ptr pb76 (0 + 544)), fun v _ => v = u82, fun v _ => v = (ZN (.slice (some ⟨b1, 0, none⟩) 16 16) ((0 : Int)).toNat ((16 : Int)).toNat 1)] : List (Value → World → Prop)).getD j (fun _ _ => True)) (fun _ _ h hk => h.keep hk) (gup (Zj (Zj (Zj (Zj (Zj Vq)))))) hE hM.drew (ZM (Zb ?_ (Zb ?_ (Zb ?_ (Zb ?_ (Zb ?_ ZH)))))) ?_
         ·intro a w ux75 hE hM hp
          refine Zd hE Za (dl rfl) rfl ?_; intro a hE
          exact ⟨Kept.refl _ _, _, _, rfl, hE, rfl⟩
         ·intro a w ux75 hE hM hp
          have f0 : ux75 0 = v0_1 := hp 0 _ rfl rfl
          refine XI hE Za (dl rfl) (lk (lk rfl f0) hv78) ?_; intro a hE
          exact ⟨Kept.refl _ _, _, _, rfl, hE, rfl⟩
         ·intro a w ux75 hE hM hp
          have f1 : ux75 1 = (ptr pb76 0) := hp 0 _ rfl rfl
          refine Zg hE Za (dl rfl) (lk rfl f1) (fd244_4) ?_; intro a hE
          exact ⟨Kept.refl _ _, _, _, rfl, hE, rfl⟩
         ·intro a w ux75 hE hM hp
          have f2 : ux75 2 = (ptr pb76 (0 + 544)) := hp 0 _ rfl rfl
          refine Zq (v := u82) hE Za (dl rfl) (lk rfl f2) ty241 rfl (At.cat (pre := [Flat.enc p0.v.box, Flat.enc p0.v.backBox, Flat.enc p0.v.places, Flat.enc p0.v.backPlaces]) (hM.atk hA80 hB81) (cl1 (n := 256) (m := 288) (Flat.len _) (cl1 (n := 256) (m := 32) (Flat.len _) (cl1 (n := 16) (m := 16) (Flat.len _) (cl1 (n := 16) (m := 0) (Flat.len _) cl0))))) ?_; intro a hE
          exact ⟨Kept.refl _ _, _, _, rfl, hE, rfl⟩
         ·intro a w ux75 hE hM hp
          refine V6 (N := 16) hE Za (dl rfl) rfl rfl rfl rfl rfl Tryz.underlying70 ty5 hb88 ?_; intro a hE
          exact ⟨Kept.refl _ _, _, _, rfl, hE, rfl⟩
         ·intro a w ux75 hE hM hg
          have f0 : ux75 0 = v0_1 := hg 0 (by decide)
          have f1 : ux75 1 = (ptr pb76 0) := hg 1 (by decide)
          have f2 : ux75 2 = (ptr pb76 (0 + 544)) := hg 2 (by decide)
          have f3 : ux75 3 = u82 := hg 3 (by decide)
          have f4 : ux75 4 = (ZN (.slice (some ⟨b1, 0, none⟩) 16 16) ((0 : Int)).toNat ((16 : Int)).toNat 1) := hg 4 (by decide)
          have hE := hE.sub (e' := [(46, v0_1), (47, (ptr pb76 0)), (48, (ptr pb76 (0 + 544))), (49, u82), (50, (ZN (.slice (some ⟨b1, 0, none⟩) 16 16) ((0 : Int)).toNat ((16 : Int)).toNat 1)), (0, v0_1), (1, v1_1), (5, (ptr b1 0)), (6, (ptr b3 0)), (7, (vI s18.2)), (41, (vI s18.2)), (42, v1_1), (43, (vI (p1.length : Int))), (44, (vI (wr ((p1.length : Int) - 1)))), (45, (vT (decide (s18.2 < (wr ((p1.length : Int) - 1))))))]) ⟨lk rfl f0, lk rfl f1, lk rfl f2, lk rfl f3, lk rfl f4, rfl, rfl, rfl, rfl, rfl, rfl, rfl, rfl, rfl, rfl, trivial⟩
          have hM := hM.pull (pre := [_])
          obtain ⟨r89, e90, hl72⟩ := bind_some hl72
          refine Zs (vs := [u82, (ZN (.slice (some ⟨b1, 0, none⟩) 16 16) ((0 : Int)).toNat ((16 : Int)).toNat 1)]) hE Za (dl rfl) rfl cb246 (c_impl_mixer_mix _ _ _ _ p0.v.mixer u82 h83 b1 j54 hM r89 e90) ?_
          rintro v w a ⟨rfl, hM⟩ hE
          refine Zk ?_
          have ht91 := Option.some.inj hl72
          subst ht91
          refine Zn ?_
          have hM := hM.pull (pre := [_])
          exact ⟨hE.sub ⟨rfl, rfl, rfl, rfl, rfl, trivial⟩, hM⟩
        ·intro hb74
         have hl72 := ZC hl72 hb74
         refine wp_skip ?_
         have ht92 := Option.some.inj hl72
         subst ht92
         refine Zn ?_
         exact ⟨hE.sub ⟨rfl, rfl, rfl, rfl, rfl, trivial⟩, hM⟩
       ·skip
        rintro a w ⟨hE, hM⟩
        obtain ⟨x94, e95, hF73⟩ := bind_some hF73
        have hi96 := ZY e95
        obtain ⟨r97, e98, hF73⟩ := bind_some hF73
        refine Yo (n := 59) (hd := [_, _, _, _, _, _]) (tl := [_]) YU rfl rfl [52, 53, 54, 55, 56, 57] (by decide) (fun w => M (Old w0) w0 w [raw b3 (Flat.enc (Vector.replicate 16 (0 : UInt8))), raw b1 (Flat.enc j71)]) (fun j => ([fun v _ => v = (Value.agg (Flat.enc j71).toArray), fun v _ => v = v1_1, fun v _ => v = (vI s18.2), fun v _ => v = (ptr (sb v1_1) (so v1_1 + (s18.2).toNat * 16)), fun v _ => v = (Value.agg (Flat.enc x94).toArray), fun v _ => v = (Value.agg (Flat.enc r97).toArray)] : List (Value → World → Prop)).getD j (fun _ _ => True)) (fun _ _ h hk => h.keep hk) (gup (Zj (Zj (Zj (Zj (Zj (Zj Vq))))))) hE hM.drew (ZM (Zb ?_ (Zb ?_ (Zb ?_ (Zb ?_ (Zb ?_ (Zb ?_ ZH))))))) ?_
        ·intro a w ux93 hE hM hp
         refine Zm (cs := Flat.enc j71) hE Za (dl rfl) rfl ZF rfl (hM.rawAt (pre := [_])) (Flat.len _) ?_; intro a hE
         exact ⟨Kept.refl _ _, _, _, rfl, hE, rfl⟩
        ·intro a w ux93 hE hM hp
         refine Zd hE Za (dl rfl) rfl ?_; intro a hE
         exact ⟨Kept.refl _ _, _, _, rfl, hE, rfl⟩
        ·intro a w ux93 hE hM hp
         refine Zd hE Za (dl rfl) rfl ?_; intro a hE
         exact ⟨Kept.refl _ _, _, _, rfl, hE, rfl⟩
        ·intro a w ux93 hE hM hp
         have f1 : ux93 1 = v1_1 := hp 0 _ rfl rfl
         have f2 : ux93 2 = (vI s18.2) := hp 1 _ rfl rfl
         refine ZX hE Za (dl rfl) (lk rfl f1) (lk rfl f2) Tryz.underlying32 ZF (hM.rd hv1_1) hi96.1 ?_; intro a hE
         exact ⟨Kept.refl _ _, _, _, rfl, hE, rfl⟩
        ·intro a w ux93 hE hM hp
         have f3 : ux93 3 = (ptr (sb v1_1) (so v1_1 + (s18.2).toNat * 16)) := hp 0 _ rfl rfl
         refine Zm (cs := Flat.enc x94) hE Za (dl rfl) (lk rfl f3) ZF rfl (Wh (hM.rd hv1_1) hi96.2) (Flat.len _) ?_; intro a hE
         exact ⟨Kept.refl _ _, _, _, rfl, hE, rfl⟩
        ·intro a w ux93 hE hM hp
         have f0 : ux93 0 = (Value.agg (Flat.enc j71).toArray) := hp 0 _ rfl rfl
         have f4 : ux93 4 = (Value.agg (Flat.enc x94).toArray) := hp 1 _ rfl rfl
         refine Zs (vs := [(Value.agg (Flat.enc j71).toArray), (Value.agg (Flat.enc x94).toArray)]) hE Za (dl rfl) (ZZ (ZT (lk rfl f0) (ZT (lk rfl f4) Y7))) cb196 (XW _ j71 x94 r97 e98) ?_
         rintro v w a ⟨rfl, hK⟩ hE
         exact ⟨hK, _, _, rfl, hE, rfl⟩
        ·intro a w ux93 hE hM hg
         have f0 : ux93 0 = (Value.agg (Flat.enc j71).toArray) := hg 0 (by decide)
         have f1 : ux93 1 = v1_1 := hg 1 (by decide)
         have f2 : ux93 2 = (vI s18.2) := hg 2 (by decide)
         have f3 : ux93 3 = (ptr (sb v1_1) (so v1_1 + (s18.2).toNat * 16)) := hg 3 (by decide)
         have f4 : ux93 4 = (Value.agg (Flat.enc x94).toArray) := hg 4 (by decide)
         have f5 : ux93 5 = (Value.agg (Flat.enc r97).toArray) := hg 5 (by decide)
         have hE := hE.sub (e' := [(52, (Value.agg (Flat.enc j71).toArray)), (53, v1_1), (54, (vI s18.2)), (55, (ptr (sb v1_1) (so v1_1 + (s18.2).toNat * 16))), (56, (Value.agg (Flat.enc x94).toArray)), (57, (Value.agg (Flat.enc r97).toArray)), (0, v0_1), (1, v1_1), (5, (ptr b1 0)), (6, (ptr b3 0)), (7, (vI s18.2))]) ⟨lk rfl f0, lk rfl f1, lk rfl f2, lk rfl f3, lk rfl f4, lk rfl f5, rfl, rfl, rfl, rfl, rfl, trivial⟩
         have hM := hM.pull (pre := [_])
         refine Zp (seg := Flat.enc r97) (cs' := Flat.enc r97) hE hM Za rfl rfl rfl ZF (Flat.len _) (zle flq) (Flat.cell _) (Zl flq) ?_; intro w a hM hE
         refine Zk (Yl ?_)
         have ht99 := Option.some.inj hF73
         subst ht99
         refine Zn ?_
         have hM := hM.pull (pre := [_])
         exact ⟨hE.sub ⟨rfl, rfl, rfl, rfl, rfl, trivial⟩, hM⟩
    ·skip
     rintro a w ⟨hE, hM⟩
     refine wp_region_lit (Zd hE Za (dl rfl) rfl ?_); intro a hE
     refine Zh hE Za (dl rfl) rfl rfl rfl ?_; intro a hE
     refine Ze hE Za (dl rfl) rfl ?_; intro a hE
     refine Zk (Zn ?_)
     exact ⟨_, (Option.some.inj hF25).symm, hE.sub ⟨rfl, rfl, rfl, rfl, rfl, trivial⟩, hM⟩
   ·intro hb22
    have hs19 := ZC hs19 hb22
    refine wp_exit (Zr (Zr (Yk ?_)))
    have ht100 := hx20 _ (Option.some.inj hs19).symm
    subst ht100
    refine Zn ?_
    exact ⟨hE.sub ⟨rfl, rfl, trivial⟩, hM⟩
  ·skip
   rintro a w ⟨hE, hM⟩
   refine Zz (Zc (Zm (cs := Flat.enc j15) hE Za (dl rfl) rfl ZF rfl (hM.rawAt (pre := [_])) (Flat.len _) ?_)); intro a hE
   refine Zp (seg := Flat.enc j15) (cs' := Flat.enc j15) hE hM Za rfl rfl rfl ZF (Flat.len _) (zle flq) (Flat.cell _) (Zl flq) ?_; intro w a hM hE
   refine Zf ?_
   have hr := Option.some.inj hF17
   subst hr
   have hq101 : Yq Tryz.prog _ _ (.cell 6 70) _ := ZQ hE rfl ZF rfl (hM.rawAt (pre := [])) (Flat.len _) rfl
   have hM := M.fst (l := []) hM
   exact wp_ret (Zy hE rfl hq101 ⟨_, rfl, rfl, hM.kept⟩)
noncomputable def Yp (p0 : (Ref Gengine)) (p1 : (Vector UInt8 16)) (p2 : (Vector UInt8 16)) : Option ((Vector UInt8 16)) :=
 ((Wb p0 p1 p0.v.rounds).bind fun r21 => (YA p0 r21 p2).bind fun r24 => some r24 : Option ((Vector UInt8 16))).bind fun j7 => some j7
theorem U7 (w0 : World) (p0 : (Ref Gengine)) (v0_1 : Value) (hv0_1 : Ro w0 p0 [v0_1]) (p1 : (Vector UInt8 16)) (p2 : (Vector UInt8 16)) (r : (Vector UInt8 16)) (hF : Yp p0 p1 p2 = some r) :
  Calls Tryz.prog 197 [v0_1, (Value.agg (Flat.enc p1).toArray), (Value.agg (Flat.enc p2).toArray)].toArray w0 (fun en w' => ∃ v, en = .returned v ∧ (v = (Value.agg (Flat.enc r).toArray) ∧ Kept (Old w0) w0 w')) := by
 refine ZA (n := 17) Tryz.func197 rfl rfl (Nat.le_of_ble_eq_true rfl) rfl ?_
 intro a hE
 have hM := M.start w0
 unfold Yp at hF
 refine Zc (ZV (cs := Flat.enc p1) hE hM Za (dl rfl) rfl rfl ?_); intro b1 w a hM hE
 refine ZV (cs := Flat.enc p2) hE hM Za (dl rfl) rfl rfl ?_; intro b3 w a hM hE
 refine ZE hE hM Za (dl rfl) ZF ?_; intro b5 w a hM hE
 refine Zf ?_
 obtain ⟨j7, hl8, hF9⟩ := bind_some hF
 refine ZR (fun a w => Env 17 a [(6, (ptr b5 0))] ∧ M (Old w0) w0 w [raw b5 (Flat.enc j7)]) ?_ ?_
 ·skip
  obtain ⟨pb11, ds12, hv13, hx14, hA15, hB16⟩ := Uz hv0_1 -- ^
  obtain ⟨u17, u19, rfl, h18, h20⟩ := un_Gengine hx14 -- ^
  obtain ⟨r21, e22, hl8⟩ := bind_some hl8
  refine c_draw2 (n := 17) (hd := [_, _, _, _, _, _, _, _, _]) (tl := [_, _]) (its := [raw b5 (Flat.enc (Vector.replicate 16 (0 : UInt8))), raw b3 (Flat.enc p2), raw b1 (Flat.enc p1)]) YU rfl rfl [7, 8, 9, 10, 11, 12, 13, 14, 15] (by decide) [(7, fun v => osl NoB (r21 : List (Vector UInt8 16)) v)] rfl (fun j => ([fun v => v = v0_1, fun v => v = v0_1, fun v => v = (Value.agg (Flat.enc p1).toArray), fun v => v = v0_1, fun v => v = (ptr pb11 0), fun v => v = (ptr pb11 (0 + 546)), fun v => v = (vI p0.v.rounds), fun v => True, fun v => v = (Value.agg (Flat.enc p2).toArray)] : List (Value → Prop)).getD j (fun _ => True)) hE hM.drew (ZM (Zb ?_ (Zb ?_ (Zb ?_ (Zb ?_ (Zb ?_ (Zb ?_ (Zb ?_ (Zb ?_ (Zb ?_ ZH)))))))))) ?_
  ·intro a w ux10 D hE hM hD hp
   have hM0 := hM
   refine Zd hE Za (dl rfl) rfl ?_; intro a hE
   exact ⟨_, _, rfl, hE, rfl, hM0.optKeep rfl⟩
  ·intro a w ux10 D hE hM hD hp
   have hM0 := hM
   refine Zd hE Za (dl rfl) rfl ?_; intro a hE
   exact ⟨_, _, rfl, hE, rfl, hM0.optKeep rfl⟩
  ·intro a w ux10 D hE hM hD hp
   have hM0 := hM
   have hM : M (Old w0) w0 w [raw b5 (Flat.enc (Vector.replicate 16 (0 : UInt8))), raw b3 (Flat.enc p2), raw b1 (Flat.enc p1), opt (D 7) (osl NoB (r21 : List (Vector UInt8 16)) (ux10 7))] := hM
   refine Zm (cs := Flat.enc p1) hE Za (dl rfl) rfl ZF rfl (hM.rawAt (pre := [_, _])) (Flat.len _) ?_; intro a hE
   exact ⟨_, _, rfl, hE, rfl, hM0.optKeep rfl⟩
  ·intro a w ux10 D hE hM hD hp
   have hM0 := hM
   refine Zd hE Za (dl rfl) rfl ?_; intro a hE
   exact ⟨_, _, rfl, hE, rfl, hM0.optKeep rfl⟩
  ·intro a w ux10 D hE hM hD hp
   have f3 : ux10 3 = v0_1 := (hp 0 _ rfl rfl).2
   have hM0 := hM
   refine XI hE Za (dl rfl) (lk (lk rfl f3) hv13) ?_; intro a hE
   exact ⟨_, _, rfl, hE, rfl, hM0.optKeep rfl⟩
  ·intro a w ux10 D hE hM hD hp
   have f4 : ux10 4 = (ptr pb11 0) := (hp 0 _ rfl rfl).2
   have hM0 := hM
   refine Zg hE Za (dl rfl) (lk rfl f4) (fd244_6) ?_; intro a hE
   exact ⟨_, _, rfl, hE, rfl, hM0.optKeep rfl⟩
  ·intro a w ux10 D hE hM hD hp
   have f5 : ux10 5 = (ptr pb11 (0 + 546)) := (hp 0 _ rfl rfl).2
   have hM0 := hM
   have hM : M (Old w0) w0 w [raw b5 (Flat.enc (Vector.replicate 16 (0 : UInt8))), raw b3 (Flat.enc p2), raw b1 (Flat.enc p1), opt (D 7) (osl NoB (r21 : List (Vector UInt8 16)) (ux10 7))] := hM
   refine Zq (v := (vI p0.v.rounds)) hE Za (dl rfl) (lk rfl f5) ty2 rfl (At.cat (pre := [Flat.enc p0.v.box, Flat.enc p0.v.backBox, Flat.enc p0.v.places, Flat.enc p0.v.backPlaces, [u17], [u19]]) (hM.atk hA15 hB16) (cl1 (n := 256) (m := 290) (Flat.len _) (cl1 (n := 256) (m := 34) (Flat.len _) (cl1 (n := 16) (m := 18) (Flat.len _) (cl1 (n := 16) (m := 2) (Flat.len _) (cl1 (n := 1) (m := 1) rfl (cl1 (n := 1) (m := 0) rfl cl0))))))) ?_; intro a hE
   exact ⟨_, _, rfl, hE, rfl, hM0.optKeep rfl⟩
  ·intro a w ux10 D hE hM hD hp
   have f1 : ux10 1 = v0_1 := (hp 0 _ rfl rfl).2
   have f2 : ux10 2 = (Value.agg (Flat.enc p1).toArray) := (hp 1 _ rfl rfl).2
   have f6 : ux10 6 = (vI p0.v.rounds) := (hp 2 _ rfl rfl).2
   have hM0 := hM
   have hM : M (Old w0) w0 w [raw b5 (Flat.enc (Vector.replicate 16 (0 : UInt8))), raw b3 (Flat.enc p2), raw b1 (Flat.enc p1), opt (D 7) (osl NoB (r21 : List (Vector UInt8 16)) (ux10 7))] := hM
   refine Zs (vs := [v0_1, (Value.agg (Flat.enc p1).toArray), (vI p0.v.rounds)]) hE Za (dl rfl) (ZZ (ZT (lk rfl f1) (ZT (lk rfl f2) (ZT (lk rfl f6) Y7)))) cb228 (c_impl_engine_keys _ p0 v0_1 (hM.rdo hv0_1) p1 p0.v.rounds r21 e22) ?_
   rintro _ w a ⟨_, rfl, hFr, hK⟩ hE
   have hM := hM0.add hK hFr
   exact ⟨_, _, rfl, hE, trivial, M.optFill (mk1 := []) (mk2 := []) (f := (fun v => osl NoB (r21 : List (Vector UInt8 16)) v)) hM rfl hD⟩
  ·intro a w ux10 D hE hM hD hp
   have hM0 := hM
   have hM : M (Old w0) w0 w [raw b5 (Flat.enc (Vector.replicate 16 (0 : UInt8))), raw b3 (Flat.enc p2), raw b1 (Flat.enc p1), opt (D 7) (osl NoB (r21 : List (Vector UInt8 16)) (ux10 7))] := hM
   refine Zm (cs := Flat.enc p2) hE Za (dl rfl) rfl ZF rfl (hM.rawAt (pre := [_])) (Flat.len _) ?_; intro a hE
   exact ⟨_, _, rfl, hE, rfl, hM0.optKeep rfl⟩
  ·intro a w ux10 hE hM hg
   have f0 : ux10 0 = v0_1 := hg 0 (by decide)
   have f1 : ux10 1 = v0_1 := hg 1 (by decide)
   have f2 : ux10 2 = (Value.agg (Flat.enc p1).toArray) := hg 2 (by decide)
   have f3 : ux10 3 = v0_1 := hg 3 (by decide)
   have f4 : ux10 4 = (ptr pb11 0) := hg 4 (by decide)
   have f5 : ux10 5 = (ptr pb11 (0 + 546)) := hg 5 (by decide)
   have f6 : ux10 6 = (vI p0.v.rounds) := hg 6 (by decide)
   have f8 : ux10 8 = (Value.agg (Flat.enc p2).toArray) := hg 8 (by decide)
   have hM : M (Old w0) w0 w [raw b5 (Flat.enc (Vector.replicate 16 (0 : UInt8))), raw b3 (Flat.enc p2), raw b1 (Flat.enc p1), osl NoB (r21 : List (Vector UInt8 16)) (ux10 7)] := hM
   have hE := hE.sub (e' := [(7, v0_1), (8, v0_1), (9, (Value.agg (Flat.enc p1).toArray)), (10, v0_1), (11, (ptr pb11 0)), (12, (ptr pb11 (0 + 546))), (13, (vI p0.v.rounds)), (14, (ux10 7)), (15, (Value.agg (Flat.enc p2).toArray)), (0, v0_1), (1, (Value.agg (Flat.enc p1).toArray)), (2, (Value.agg (Flat.enc p2).toArray)), (4, (ptr b1 0)), (5, (ptr b3 0)), (6, (ptr b5 0))]) ⟨lk rfl f0, lk rfl f1, lk rfl f2, lk rfl f3, lk rfl f4, lk rfl f5, lk rfl f6, rfl, lk rfl f8, rfl, rfl, rfl, rfl, rfl, rfl, trivial⟩
   obtain ⟨r24, e25, hl8⟩ := bind_some hl8
   refine Zs (vs := [v0_1, (ux10 7), (Value.agg (Flat.enc p2).toArray)]) hE Za (dl rfl) rfl cb227 (c_impl_engine_encipherWith _ p0 v0_1 (hM.rdo hv0_1) r21 (ux10 7) (hM.sl (pre := [_, _, _]) noB) p2 r24 e25) ?_
   rintro v w a ⟨rfl, hK⟩ hE
   have hM := hM.keep hK
   refine Zp (seg := Flat.enc r24) (cs' := Flat.enc r24) hE hM Za rfl rfl rfl ZF (Flat.len _) (zle flq) (Flat.cell _) (Zl flq) ?_; intro w a hM hE
   refine Zk ?_
   have ht26 := Option.some.inj hl8
   subst ht26
   refine Zn ?_
   have hM := M.fst (l := [_]) hM
   exact ⟨hE.sub ⟨rfl, trivial⟩, hM⟩
 ·skip
  rintro a w ⟨hE, hM⟩
  have hr := Option.some.inj hF9
  subst hr
  have hq27 : Yq Tryz.prog _ _ (.cell 6 70) _ := ZQ hE rfl ZF rfl (hM.rawAt (pre := [])) (Flat.len _) rfl
  have hM := M.fst (l := []) hM
  exact wp_ret (Zy hE rfl hq27 ⟨_, rfl, rfl, hM.kept⟩)
noncomputable def YP (p0 : (Ref Gengine)) (p1 : (Vector UInt8 32)) (p2 : (Vector UInt8 16)) : Option ((Vector UInt8 32)) :=
 (slc p1.toList (0 : Int) (16 : Int)).bind fun l8 => (toArr 16 l8).bind fun x11 => (slc p1.toList (16 : Int) (32 : Int)).bind fun l13 => (toArr 16 l13).bind fun x16 => (Ym x11 p2).bind fun r26 => ((Yp p0 x16 r26).bind fun r34 => (Ym r34 r26).bind fun r36 => some r36 : Option ((Vector UInt8 16))).bind fun j30 => (Ym x16 p2).bind fun r39 => ((Yp p0 j30 r39).bind fun r47 => (Ym r47 r39).bind fun r49 => some r49 : Option ((Vector UInt8 16))).bind fun j43 => ((slc j30.toList (0 : Int) (16 : Int)).bind fun l56 => (slc j43.toList (0 : Int) (16 : Int)).bind fun l59 => (Z1 ([l56, l59] : (List (List UInt8)))).bind fun r64 => (toArr 32 r64).bind fun x67 => some x67 : Option ((Vector UInt8 32))).bind fun j52 => some j52
theorem c_impl_engine_absorb (w0 : World) (p0 : (Ref Gengine)) (v0_1 : Value) (hv0_1 : Ro w0 p0 [v0_1]) (p1 : (Vector UInt8 32)) (p2 : (Vector UInt8 16)) (r : (Vector UInt8 32)) (hF : YP p0 p1 p2 = some r) :
  Calls Tryz.prog 162 [v0_1, (Value.agg (Flat.enc p1).toArray), (Value.agg (Flat.enc p2).toArray)].toArray w0 (fun en w' => ∃ v, en = .returned v ∧ (v = (Value.agg (Flat.enc r).toArray) ∧ Kept (Old w0) w0 w')) := by
 refine ZA (n := 41) Tryz.func162 rfl rfl (Nat.le_of_ble_eq_true rfl) rfl ?_
 intro a hE
 have hM := M.start w0
 unfold YP at hF
 refine Zc (ZV (cs := Flat.enc p1) hE hM Za (dl rfl) rfl rfl ?_); intro b1 w a hM hE
 refine ZV (cs := Flat.enc p2) hE hM Za (dl rfl) rfl rfl ?_; intro b3 w a hM hE
 refine ZE hE hM Za (dl rfl) Z9 ?_; intro b5 w a hM hE
 refine Zf (wp_seq ?_)
 obtain ⟨l8, e9, hF⟩ := bind_some hF
 have hb10 := slc_arr e9 -- ^
 obtain ⟨x11, e12, hF⟩ := bind_some hF
 obtain ⟨l13, e14, hF⟩ := bind_some hF
 have hb15 := slc_arr e14 -- ^
 obtain ⟨x16, e17, hF⟩ := bind_some hF
 refine UM (n := 41) (hd := [_, _, _, _, _, _, _, _]) (tl := [_, _]) YU rfl rfl [11, 12, 13, 14, 15, 16, 7, 8] (by decide) (fun D u w => M (Old w0) w0 w ([raw b5 (Flat.enc (Vector.replicate 32 (0 : UInt8))), raw b3 (Flat.enc p2), raw b1 (Flat.enc p1)] ++ qL ([mkO 6 (fun v => rawP v (Flat.enc (Vector.replicate 16 (0 : UInt8)))), mkO 7 (fun v => rawP v (Flat.enc (Vector.replicate 16 (0 : UInt8))))] : Mk) D u) ∧ GOk ([([], fun us v => v = (ZN (.slice (some ⟨b1, 0, none⟩) 32 32) ((0 : Int)).toNat ((16 : Int)).toNat 1)), ([], fun us v => v = (ptr (sb (ZN (.slice (some ⟨b1, 0, none⟩) 32 32) ((0 : Int)).toNat ((16 : Int)).toNat 1)) (so (ZN (.slice (some ⟨b1, 0, none⟩) 32 32) ((0 : Int)).toNat ((16 : Int)).toNat 1)))), ([], fun us v => v = (Value.agg (Flat.enc x11).toArray)), ([], fun us v => v = (ZN (.slice (some ⟨b1, 0, none⟩) 32 32) ((16 : Int)).toNat ((32 : Int)).toNat 1)), ([], fun us v => v = (ptr (sb (ZN (.slice (some ⟨b1, 0, none⟩) 32 32) ((16 : Int)).toNat ((32 : Int)).toNat 1)) (so (ZN (.slice (some ⟨b1, 0, none⟩) 32 32) ((16 : Int)).toNat ((32 : Int)).toNat 1)))), ([], fun us v => v = (Value.agg (Flat.enc x16).toArray)), ([], fun us v => True), ([], fun us v => True)] : Gs) D u) hE (fun u => ⟨M.qE (M.qE (M.q0 hM.drew u) emO) emO, gok0⟩) (ZM (Zb ?_ (Zb ?_ (Zb ?_ (Zb ?_ (Zb ?_ (Zb ?_ (Zb ?_ (Zb ?_ ZH))))))))) ?_
 ·intro a w ux7 D hE hI hD hdc hp
  have hM0 := hI.1
  refine V6 (N := 32) hE Za (dl rfl) rfl rfl rfl rfl rfl Tryz.underlying29 ty5 hb10 ?_; intro a hE
  exact ⟨_, _, rfl, hE, M.qKeep hM0 rfl, hI.2.put hD rfl ZW rfl⟩
 ·intro a w ux7 D hE hI hD hdc hp
  have d0 : D 0 = true := hp 0 _ rfl rfl
  have g0 := hI.2 0 d0 _ rfl
  have f0 : ux7 0 = (ZN (.slice (some ⟨b1, 0, none⟩) 32 32) ((0 : Int)).toNat ((16 : Int)).toNat 1) := g0.2
  have hM0 := hI.1
  have hM := hI.1
  refine s_toArr hE Za (dl rfl) (lk rfl f0) Tryz.underlying70 (W5 (At.sat (hM.rawAt (pre := [_, _])) (by simp) (by decide)) e9) (toArr_some e12).1 (by decide) ?_; intro a hE
  exact ⟨_, _, rfl, hE, M.qKeep hM0 rfl, hI.2.put hD rfl ZW rfl⟩
 ·intro a w ux7 D hE hI hD hdc hp
  have d1 : D 1 = true := hp 0 _ rfl rfl
  have g1 := hI.2 1 d1 _ rfl
  have f1 : ux7 1 = (ptr (sb (ZN (.slice (some ⟨b1, 0, none⟩) 32 32) ((0 : Int)).toNat ((16 : Int)).toNat 1)) (so (ZN (.slice (some ⟨b1, 0, none⟩) 32 32) ((0 : Int)).toNat ((16 : Int)).toNat 1))) := g1.2
  have hM0 := hI.1
  have hM := hI.1
  refine Zm (cs := Flat.enc x11) hE Za (dl rfl) (lk rfl f1) ZF rfl (sl_arr (W5 (At.sat (hM.rawAt (pre := [_, _])) (by simp) (by decide)) e9) e12 (by decide)) (Flat.len _) ?_; intro a hE
  exact ⟨_, _, rfl, hE, M.qKeep hM0 rfl, hI.2.put hD rfl ZW rfl⟩
 ·intro a w ux7 D hE hI hD hdc hp
  have hM0 := hI.1
  refine V6 (N := 32) hE Za (dl rfl) rfl rfl rfl rfl rfl Tryz.underlying29 ty5 hb15 ?_; intro a hE
  exact ⟨_, _, rfl, hE, M.qKeep hM0 rfl, hI.2.put hD rfl ZW rfl⟩
 ·intro a w ux7 D hE hI hD hdc hp
  have d3 : D 3 = true := hp 0 _ rfl rfl
  have g3 := hI.2 3 d3 _ rfl
  have f3 : ux7 3 = (ZN (.slice (some ⟨b1, 0, none⟩) 32 32) ((16 : Int)).toNat ((32 : Int)).toNat 1) := g3.2
  have hM0 := hI.1
  have hM := hI.1
  refine s_toArr hE Za (dl rfl) (lk rfl f3) Tryz.underlying70 (W5 (At.sat (hM.rawAt (pre := [_, _])) (by simp) (by decide)) e14) (toArr_some e17).1 (by decide) ?_; intro a hE
  exact ⟨_, _, rfl, hE, M.qKeep hM0 rfl, hI.2.put hD rfl ZW rfl⟩
 ·intro a w ux7 D hE hI hD hdc hp
  have d4 : D 4 = true := hp 0 _ rfl rfl
  have g4 := hI.2 4 d4 _ rfl
  have f4 : ux7 4 = (ptr (sb (ZN (.slice (some ⟨b1, 0, none⟩) 32 32) ((16 : Int)).toNat ((32 : Int)).toNat 1)) (so (ZN (.slice (some ⟨b1, 0, none⟩) 32 32) ((16 : Int)).toNat ((32 : Int)).toNat 1))) := g4.2
  have hM0 := hI.1
  have hM := hI.1
  refine Zm (cs := Flat.enc x16) hE Za (dl rfl) (lk rfl f4) ZF rfl (sl_arr (W5 (At.sat (hM.rawAt (pre := [_, _])) (by simp) (by decide)) e14) e17 (by decide)) (Flat.len _) ?_; intro a hE
  exact ⟨_, _, rfl, hE, M.qKeep hM0 rfl, hI.2.put hD rfl ZW rfl⟩
 ·intro a w ux7 D hE hI hD hdc hp
  have hM0 := hI.1
  have hM := hI.1
  refine ZE hE hM Za (dl rfl) ZF ?_; intro b18 w a hM hE
  have hM := hM.pack1 (it := rawP _ (Flat.enc (Vector.replicate 16 (0 : UInt8)))) (fun w w' fp ⟨b', e, k⟩ hb => ⟨b', e, Wf w w' fp k hb⟩) (fun fp k => ⟨_, rfl, k⟩)
  exact ⟨_, _, rfl, hE, M.qFill (mk1 := []) (mk2 := [_]) (f := fun v => rawP v (Flat.enc (Vector.replicate 16 (0 : UInt8)))) hM rfl hD, hI.2.put hD rfl ZW trivial⟩
 ·intro a w ux7 D hE hI hD hdc hp
  have hM0 := hI.1
  have hM := hI.1
  refine ZE hE hM Za (dl rfl) ZF ?_; intro b20 w a hM hE
  have hM := hM.pack1 (it := rawP _ (Flat.enc (Vector.replicate 16 (0 : UInt8)))) (fun w w' fp ⟨b', e, k⟩ hb => ⟨b', e, Wf w w' fp k hb⟩) (fun fp k => ⟨_, rfl, k⟩)
  exact ⟨_, _, rfl, hE, M.qFill (mk1 := [_]) (mk2 := []) (f := fun v => rawP v (Flat.enc (Vector.replicate 16 (0 : UInt8)))) hM rfl hD, hI.2.put hD rfl ZW trivial⟩
 ·intro a w ux7 D hE hI hall
  have hM := hI.1
  have d0 : D 0 = true := hall 0 (by decide)
  have d1 : D 1 = true := hall 1 (by decide)
  have d2 : D 2 = true := hall 2 (by decide)
  have d3 : D 3 = true := hall 3 (by decide)
  have d4 : D 4 = true := hall 4 (by decide)
  have d5 : D 5 = true := hall 5 (by decide)
  have d6 : D 6 = true := hall 6 (by decide)
  have d7 : D 7 = true := hall 7 (by decide)
  have f0 : ux7 0 = (ZN (.slice (some ⟨b1, 0, none⟩) 32 32) ((0 : Int)).toNat ((16 : Int)).toNat 1) := (hI.2 0 d0 _ rfl).2
  have f1 : ux7 1 = (ptr (sb (ZN (.slice (some ⟨b1, 0, none⟩) 32 32) ((0 : Int)).toNat ((16 : Int)).toNat 1)) (so (ZN (.slice (some ⟨b1, 0, none⟩) 32 32) ((0 : Int)).toNat ((16 : Int)).toNat 1))) := (hI.2 1 d1 _ rfl).2
  have f2 : ux7 2 = (Value.agg (Flat.enc x11).toArray) := (hI.2 2 d2 _ rfl).2
  have f3 : ux7 3 = (ZN (.slice (some ⟨b1, 0, none⟩) 32 32) ((16 : Int)).toNat ((32 : Int)).toNat 1) := (hI.2 3 d3 _ rfl).2
  have f4 : ux7 4 = (ptr (sb (ZN (.slice (some ⟨b1, 0, none⟩) 32 32) ((16 : Int)).toNat ((32 : Int)).toNat 1)) (so (ZN (.slice (some ⟨b1, 0, none⟩) 32 32) ((16 : Int)).toNat ((32 : Int)).toNat 1))) := (hI.2 4 d4 _ rfl).2
  have f5 : ux7 5 = (Value.agg (Flat.enc x16).toArray) := (hI.2 5 d5 _ rfl).2
  have hM := (hM.sure (pre := [_, _, _]) d6).pull
  obtain ⟨_, ⟨b22, f23, _⟩, _⟩ := hM.head
  have hM := hM.pack1 Wf (it := raw b22 (Flat.enc (Vector.replicate 16 (0 : UInt8)))) (fun fp ⟨b2, e2, k2⟩ => by rw [f23] at e2; simp [ptr] at e2; subst e2; exact k2)
  have hM := (hM.sure (pre := [_, _, _, _]) d7).pull
  obtain ⟨_, ⟨b24, f25, _⟩, _⟩ := hM.head
  have hM := hM.pack1 Wf (it := raw b24 (Flat.enc (Vector.replicate 16 (0 : UInt8)))) (fun fp ⟨b2, e2, k2⟩ => by rw [f25] at e2; simp [ptr] at e2; subst e2; exact k2)
  have hE := hE.sub (e' := [(11, (ZN (.slice (some ⟨b1, 0, none⟩) 32 32) ((0 : Int)).toNat ((16 : Int)).toNat 1)), (12, (ptr (sb (ZN (.slice (some ⟨b1, 0, none⟩) 32 32) ((0 : Int)).toNat ((16 : Int)).toNat 1)) (so (ZN (.slice (some ⟨b1, 0, none⟩) 32 32) ((0 : Int)).toNat ((16 : Int)).toNat 1)))), (13, (Value.agg (Flat.enc x11).toArray)), (14, (ZN (.slice (some ⟨b1, 0, none⟩) 32 32) ((16 : Int)).toNat ((32 : Int)).toNat 1)), (15, (ptr (sb (ZN (.slice (some ⟨b1, 0, none⟩) 32 32) ((16 : Int)).toNat ((32 : Int)).toNat 1)) (so (ZN (.slice (some ⟨b1, 0, none⟩) 32 32) ((16 : Int)).toNat ((32 : Int)).toNat 1)))), (16, (Value.agg (Flat.enc x16).toArray)), (7, (ptr b22 0)), (8, (ptr b24 0)), (0, v0_1), (1, (Value.agg (Flat.enc p1).toArray)), (2, (Value.agg (Flat.enc p2).toArray)), (4, (ptr b1 0)), (5, (ptr b3 0)), (6, (ptr b5 0))]) ⟨lk rfl f0, lk rfl f1, lk rfl f2, lk rfl f3, lk rfl f4, lk rfl f5, lk rfl f23, lk rfl f25, rfl, rfl, rfl, rfl, rfl, rfl, trivial⟩
  have hM := hM.pull (pre := [_])
  refine Zp (seg := Flat.enc x11) (cs' := Flat.enc x11) hE hM Za rfl rfl rfl ZF (Flat.len _) (zle flq) (Flat.cell _) (Zl flq) ?_; intro w a hM hE
  have hM := hM.pull (pre := [_])
  refine Zp (seg := Flat.enc x16) (cs' := Flat.enc x16) hE hM Za rfl rfl rfl ZF (Flat.len _) (zle flq) (Flat.cell _) (Zl flq) ?_; intro w a hM hE
  refine Zk (Zz (Zc (Zm (cs := Flat.enc x11) hE Za (dl rfl) rfl ZF rfl (hM.rawAt (pre := [_])) (Flat.len _) ?_))); intro a hE
  refine Zm (cs := Flat.enc p2) hE Za (dl rfl) rfl ZF rfl (hM.rawAt (pre := [_, _, _])) (Flat.len _) ?_; intro a hE
  obtain ⟨r26, e27, hF⟩ := bind_some hF
  refine Zs (vs := [(Value.agg (Flat.enc x11).toArray), (Value.agg (Flat.enc p2).toArray)]) hE Za (dl rfl) rfl cb196 (XW _ x11 p2 r26 e27) ?_
  rintro v w a ⟨rfl, hK⟩ hE
  have hM := hM.keep hK
  refine ZE hE hM Za (dl rfl) ZF ?_; intro b28 w a hM hE
  refine Zp (seg := Flat.enc r26) (cs' := Flat.enc r26) hE hM Za rfl rfl rfl ZF (Flat.len _) (zle flq) (Flat.cell _) (Zl flq) ?_; intro w a hM hE
  refine Zf ?_
  obtain ⟨j30, hl31, hF32⟩ := bind_some hF
  refine ZR (fun a w => Env 41 a [(0, v0_1), (5, (ptr b3 0)), (6, (ptr b5 0)), (7, (ptr b22 0)), (8, (ptr b24 0))] ∧ M (Old w0) w0 w [raw b24 (Flat.enc x16), raw b22 (Flat.enc j30), raw b5 (Flat.enc (Vector.replicate 32 (0 : UInt8))), raw b3 (Flat.enc p2)]) ?_ ?_
  ·skip
   obtain ⟨r34, e35, hl31⟩ := bind_some hl31
   obtain ⟨r36, e37, hl31⟩ := bind_some hl31
   refine Yo (n := 41) (hd := [_, _, _, _, _, _]) (tl := [_]) YU rfl rfl [20, 21, 22, 23, 24, 25] (by decide) (fun w => M (Old w0) w0 w [raw b28 (Flat.enc r26), raw b24 (Flat.enc x16), raw b22 (Flat.enc x11), raw b5 (Flat.enc (Vector.replicate 32 (0 : UInt8))), raw b3 (Flat.enc p2), raw b1 (Flat.enc p1)]) (fun j => ([fun v _ => v = v0_1, fun v _ => v = (Value.agg (Flat.enc x16).toArray), fun v _ => v = (Value.agg (Flat.enc r26).toArray), fun v _ => v = (Value.agg (Flat.enc r34).toArray), fun v _ => v = (Value.agg (Flat.enc r26).toArray), fun v _ => v = (Value.agg (Flat.enc r36).toArray)] : List (Value → World → Prop)).getD j (fun _ _ => True)) (fun _ _ h hk => h.keep hk) (gup (Zj (Zj (Zj (Zj (Zj (Zj Vq))))))) hE hM.drew (ZM (Zb ?_ (Zb ?_ (Zb ?_ (Zb ?_ (Zb ?_ (Zb ?_ ZH))))))) ?_
   ·intro a w ux33 hE hM hp
    refine Zd hE Za (dl rfl) rfl ?_; intro a hE
    exact ⟨Kept.refl _ _, _, _, rfl, hE, rfl⟩
   ·intro a w ux33 hE hM hp
    refine Zm (cs := Flat.enc x16) hE Za (dl rfl) rfl ZF rfl (hM.rawAt (pre := [_])) (Flat.len _) ?_; intro a hE
    exact ⟨Kept.refl _ _, _, _, rfl, hE, rfl⟩
   ·intro a w ux33 hE hM hp
    refine Zm (cs := Flat.enc r26) hE Za (dl rfl) rfl ZF rfl (hM.rawAt (pre := [])) (Flat.len _) ?_; intro a hE
    exact ⟨Kept.refl _ _, _, _, rfl, hE, rfl⟩
   ·intro a w ux33 hE hM hp
    have f0 : ux33 0 = v0_1 := hp 0 _ rfl rfl
    have f1 : ux33 1 = (Value.agg (Flat.enc x16).toArray) := hp 1 _ rfl rfl
    have f2 : ux33 2 = (Value.agg (Flat.enc r26).toArray) := hp 2 _ rfl rfl
    refine Zs (vs := [v0_1, (Value.agg (Flat.enc x16).toArray), (Value.agg (Flat.enc r26).toArray)]) hE Za (dl rfl) (ZZ (ZT (lk rfl f0) (ZT (lk rfl f1) (ZT (lk rfl f2) Y7)))) cb197 (U7 _ p0 v0_1 (hM.rdo hv0_1) x16 r26 r34 e35) ?_
    rintro v w a ⟨rfl, hK⟩ hE
    exact ⟨hK, _, _, rfl, hE, rfl⟩
   ·intro a w ux33 hE hM hp
    refine Zm (cs := Flat.enc r26) hE Za (dl rfl) rfl ZF rfl (hM.rawAt (pre := [])) (Flat.len _) ?_; intro a hE
    exact ⟨Kept.refl _ _, _, _, rfl, hE, rfl⟩
   ·intro a w ux33 hE hM hp
    have f3 : ux33 3 = (Value.agg (Flat.enc r34).toArray) := hp 0 _ rfl rfl
    have f4 : ux33 4 = (Value.agg (Flat.enc r26).toArray) := hp 1 _ rfl rfl
    refine Zs (vs := [(Value.agg (Flat.enc r34).toArray), (Value.agg (Flat.enc r26).toArray)]) hE Za (dl rfl) (ZZ (ZT (lk rfl f3) (ZT (lk rfl f4) Y7))) cb196 (XW _ r34 r26 r36 e37) ?_
    rintro v w a ⟨rfl, hK⟩ hE
    exact ⟨hK, _, _, rfl, hE, rfl⟩
   ·intro a w ux33 hE hM hg
    have f0 : ux33 0 = v0_1 := hg 0 (by decide)
    have f1 : ux33 1 = (Value.agg (Flat.enc x16).toArray) := hg 1 (by decide)
    have f2 : ux33 2 = (Value.agg (Flat.enc r26).toArray) := hg 2 (by decide)
    have f3 : ux33 3 = (Value.agg (Flat.enc r34).toArray) := hg 3 (by decide)
    have f4 : ux33 4 = (Value.agg (Flat.enc r26).toArray) := hg 4 (by decide)
    have f5 : ux33 5 = (Value.agg (Flat.enc r36).toArray) := hg 5 (by decide)
    have hE := hE.sub (e' := [(20, v0_1), (21, (Value.agg (Flat.enc x16).toArray)), (22, (Value.agg (Flat.enc r26).toArray)), (23, (Value.agg (Flat.enc r34).toArray)), (24, (Value.agg (Flat.enc r26).toArray)), (25, (Value.agg (Flat.enc r36).toArray)), (0, v0_1), (1, (Value.agg (Flat.enc p1).toArray)), (2, (Value.agg (Flat.enc p2).toArray)), (4, (ptr b1 0)), (5, (ptr b3 0)), (6, (ptr b5 0)), (7, (ptr b22 0)), (8, (ptr b24 0)), (9, (ptr b28 0)), (11, (ZN (.slice (some ⟨b1, 0, none⟩) 32 32) ((0 : Int)).toNat ((16 : Int)).toNat 1)), (12, (ptr (sb (ZN (.slice (some ⟨b1, 0, none⟩) 32 32) ((0 : Int)).toNat ((16 : Int)).toNat 1)) (so (ZN (.slice (some ⟨b1, 0, none⟩) 32 32) ((0 : Int)).toNat ((16 : Int)).toNat 1)))), (13, (Value.agg (Flat.enc x11).toArray)), (14, (ZN (.slice (some ⟨b1, 0, none⟩) 32 32) ((16 : Int)).toNat ((32 : Int)).toNat 1)), (15, (ptr (sb (ZN (.slice (some ⟨b1, 0, none⟩) 32 32) ((16 : Int)).toNat ((32 : Int)).toNat 1)) (so (ZN (.slice (some ⟨b1, 0, none⟩) 32 32) ((16 : Int)).toNat ((32 : Int)).toNat 1)))), (16, (Value.agg (Flat.enc x16).toArray)), (17, (Value.agg (Flat.enc x11).toArray)), (18, (Value.agg (Flat.enc p2).toArray)), (19, (Value.agg (Flat.enc r26).toArray))]) ⟨lk rfl f0, lk rfl f1, lk rfl f2, lk rfl f3, lk rfl f4, lk rfl f5, rfl, rfl, rfl, rfl, rfl, rfl, rfl, rfl, rfl, rfl, rfl, rfl, rfl, rfl, rfl, rfl, rfl, rfl, trivial⟩
    have hM := hM.pull (pre := [_, _])
    refine Zp (seg := Flat.enc r36) (cs' := Flat.enc r36) hE hM Za rfl rfl rfl ZF (Flat.len _) (zle flq) (Flat.cell _) (Zl flq) ?_; intro w a hM hE
    refine Zk ?_
    have ht38 := Option.some.inj hl31
    subst ht38
    refine Zn ?_
    have hM := hM.pull (pre := [_, _, _, _])
    have hM := hM.pull (pre := [_, _, _, _])
    have hM := hM.pull (pre := [_, _])
    have hM := hM.pull (pre := [_, _, _, _])
    have hM := M.fst (l := [_, _, _, _]) hM
    exact ⟨hE.sub ⟨rfl, rfl, rfl, rfl, rfl, trivial⟩, hM⟩
  ·skip
   rintro a w ⟨hE, hM⟩
   refine Zc (Zm (cs := Flat.enc x16) hE Za (dl rfl) rfl ZF rfl (hM.rawAt (pre := [])) (Flat.len _) ?_); intro a hE
   refine Zm (cs := Flat.enc p2) hE Za (dl rfl) rfl ZF rfl (hM.rawAt (pre := [_, _, _])) (Flat.len _) ?_; intro a hE
   obtain ⟨r39, e40, hF32⟩ := bind_some hF32
   refine Zs (vs := [(Value.agg (Flat.enc x16).toArray), (Value.agg (Flat.enc p2).toArray)]) hE Za (dl rfl) rfl cb196 (XW _ x16 p2 r39 e40) ?_
   rintro v w a ⟨rfl, hK⟩ hE
   have hM := hM.keep hK
   refine ZE hE hM Za (dl rfl) ZF ?_; intro b41 w a hM hE
   refine Zp (seg := Flat.enc r39) (cs' := Flat.enc r39) hE hM Za rfl rfl rfl ZF (Flat.len _) (zle flq) (Flat.cell _) (Zl flq) ?_; intro w a hM hE
   refine Zf ?_
   obtain ⟨j43, hl44, hF45⟩ := bind_some hF32
   refine ZR (fun a w => Env 41 a [(6, (ptr b5 0)), (7, (ptr b22 0)), (8, (ptr b24 0))] ∧ M (Old w0) w0 w [raw b24 (Flat.enc j43), raw b22 (Flat.enc j30), raw b5 (Flat.enc (Vector.replicate 32 (0 : UInt8)))]) ?_ ?_
   ·skip
    obtain ⟨r47, e48, hl44⟩ := bind_some hl44
    obtain ⟨r49, e50, hl44⟩ := bind_some hl44
    refine Yo (n := 41) (hd := [_, _, _, _, _, _]) (tl := [_]) YU rfl rfl [29, 30, 31, 32, 33, 34] (by decide) (fun w => M (Old w0) w0 w [raw b41 (Flat.enc r39), raw b24 (Flat.enc x16), raw b22 (Flat.enc j30), raw b5 (Flat.enc (Vector.replicate 32 (0 : UInt8))), raw b3 (Flat.enc p2)]) (fun j => ([fun v _ => v = v0_1, fun v _ => v = (Value.agg (Flat.enc j30).toArray), fun v _ => v = (Value.agg (Flat.enc r39).toArray), fun v _ => v = (Value.agg (Flat.enc r47).toArray), fun v _ => v = (Value.agg (Flat.enc r39).toArray), fun v _ => v = (Value.agg (Flat.enc r49).toArray)] : List (Value → World → Prop)).getD j (fun _ _ => True)) (fun _ _ h hk => h.keep hk) (gup (Zj (Zj (Zj (Zj (Zj (Zj Vq))))))) hE hM.drew (ZM (Zb ?_ (Zb ?_ (Zb ?_ (Zb ?_ (Zb ?_ (Zb ?_ ZH))))))) ?_
    ·intro a w ux46 hE hM hp
     refine Zd hE Za (dl rfl) rfl ?_; intro a hE
     exact ⟨Kept.refl _ _, _, _, rfl, hE, rfl⟩
    ·intro a w ux46 hE hM hp
     refine Zm (cs := Flat.enc j30) hE Za (dl rfl) rfl ZF rfl (hM.rawAt (pre := [_, _])) (Flat.len _) ?_; intro a hE
     exact ⟨Kept.refl _ _, _, _, rfl, hE, rfl⟩
    ·intro a w ux46 hE hM hp
     refine Zm (cs := Flat.enc r39) hE Za (dl rfl) rfl ZF rfl (hM.rawAt (pre := [])) (Flat.len _) ?_; intro a hE
     exact ⟨Kept.refl _ _, _, _, rfl, hE, rfl⟩
    ·intro a w ux46 hE hM hp
     have f0 : ux46 0 = v0_1 := hp 0 _ rfl rfl
     have f1 : ux46 1 = (Value.agg (Flat.enc j30).toArray) := hp 1 _ rfl rfl
     have f2 : ux46 2 = (Value.agg (Flat.enc r39).toArray) := hp 2 _ rfl rfl
     refine Zs (vs := [v0_1, (Value.agg (Flat.enc j30).toArray), (Value.agg (Flat.enc r39).toArray)]) hE Za (dl rfl) (ZZ (ZT (lk rfl f0) (ZT (lk rfl f1) (ZT (lk rfl f2) Y7)))) cb197 (U7 _ p0 v0_1 (hM.rdo hv0_1) j30 r39 r47 e48) ?_
     rintro v w a ⟨rfl, hK⟩ hE
     exact ⟨hK, _, _, rfl, hE, rfl⟩
    ·intro a w ux46 hE hM hp
     refine Zm (cs := Flat.enc r39) hE Za (dl rfl) rfl ZF rfl (hM.rawAt (pre := [])) (Flat.len _) ?_; intro a hE
     exact ⟨Kept.refl _ _, _, _, rfl, hE, rfl⟩
    ·intro a w ux46 hE hM hp
     have f3 : ux46 3 = (Value.agg (Flat.enc r47).toArray) := hp 0 _ rfl rfl
     have f4 : ux46 4 = (Value.agg (Flat.enc r39).toArray) := hp 1 _ rfl rfl
     refine Zs (vs := [(Value.agg (Flat.enc r47).toArray), (Value.agg (Flat.enc r39).toArray)]) hE Za (dl rfl) (ZZ (ZT (lk rfl f3) (ZT (lk rfl f4) Y7))) cb196 (XW _ r47 r39 r49 e50) ?_
     rintro v w a ⟨rfl, hK⟩ hE
     exact ⟨hK, _, _, rfl, hE, rfl⟩
    ·intro a w ux46 hE hM hg
     have f0 : ux46 0 = v0_1 := hg 0 (by decide)
     have f1 : ux46 1 = (Value.agg (Flat.enc j30).toArray) := hg 1 (by decide)
     have f2 : ux46 2 = (Value.agg (Flat.enc r39).toArray) := hg 2 (by decide)
     have f3 : ux46 3 = (Value.agg (Flat.enc r47).toArray) := hg 3 (by decide)
     have f4 : ux46 4 = (Value.agg (Flat.enc r39).toArray) := hg 4 (by decide)
     have f5 : ux46 5 = (Value.agg (Flat.enc r49).toArray) := hg 5 (by decide)
     have hE := hE.sub (e' := [(29, v0_1), (30, (Value.agg (Flat.enc j30).toArray)), (31, (Value.agg (Flat.enc r39).toArray)), (32, (Value.agg (Flat.enc r47).toArray)), (33, (Value.agg (Flat.enc r39).toArray)), (34, (Value.agg (Flat.enc r49).toArray)), (0, v0_1), (5, (ptr b3 0)), (6, (ptr b5 0)), (7, (ptr b22 0)), (8, (ptr b24 0)), (10, (ptr b41 0)), (26, (Value.agg (Flat.enc x16).toArray)), (27, (Value.agg (Flat.enc p2).toArray)), (28, (Value.agg (Flat.enc r39).toArray))]) ⟨lk rfl f0, lk rfl f1, lk rfl f2, lk rfl f3, lk rfl f4, lk rfl f5, rfl, rfl, rfl, rfl, rfl, rfl, rfl, rfl, rfl, trivial⟩
     have hM := hM.pull (pre := [_])
     refine Zp (seg := Flat.enc r49) (cs' := Flat.enc r49) hE hM Za rfl rfl rfl ZF (Flat.len _) (zle flq) (Flat.cell _) (Zl flq) ?_; intro w a hM hE
     refine Zk ?_
     have ht51 := Option.some.inj hl44
     subst ht51
     refine Zn ?_
     have hM := hM.pull (pre := [_, _, _])
     have hM := hM.pull (pre := [_, _, _])
     have hM := hM.pull (pre := [_, _])
     have hM := M.fst (l := [_, _, _]) hM
     exact ⟨hE.sub ⟨rfl, rfl, rfl, trivial⟩, hM⟩
   ·skip
    rintro a w ⟨hE, hM⟩
    obtain ⟨j52, hl53, hF54⟩ := bind_some hF45
    refine ZR (fun a w => Env 41 a [(6, (ptr b5 0))] ∧ M (Old w0) w0 w [raw b5 (Flat.enc j52)]) ?_ ?_
    ·skip
     obtain ⟨l56, e57, hl53⟩ := bind_some hl53
     have hb58 := slc_arr e57 -- ^
     obtain ⟨l59, e60, hl53⟩ := bind_some hl53
     have hb61 := slc_arr e60 -- ^
     refine Yo (n := 41) (hd := [_, _]) (tl := [_, _, _, _, _]) YU rfl rfl [35, 36] (by decide) (fun w => M (Old w0) w0 w [raw b24 (Flat.enc j43), raw b22 (Flat.enc j30), raw b5 (Flat.enc (Vector.replicate 32 (0 : UInt8)))]) (fun j => ([fun v _ => v = (ZN (.slice (some ⟨b22, 0, none⟩) 16 16) ((0 : Int)).toNat ((16 : Int)).toNat 1), fun v _ => v = (ZN (.slice (some ⟨b24, 0, none⟩) 16 16) ((0 : Int)).toNat ((16 : Int)).toNat 1)] : List (Value → World → Prop)).getD j (fun _ _ => True)) (fun _ _ h hk => h.keep hk) (gup (Zj (Zj Vq))) hE hM.drew (ZM (Zb ?_ (Zb ?_ ZH))) ?_
     ·intro a w ux55 hE hM hp
      refine V6 (N := 16) hE Za (dl rfl) rfl rfl rfl rfl rfl Tryz.underlying70 ty5 hb58 ?_; intro a hE
      exact ⟨Kept.refl _ _, _, _, rfl, hE, rfl⟩
     ·intro a w ux55 hE hM hp
      refine V6 (N := 16) hE Za (dl rfl) rfl rfl rfl rfl rfl Tryz.underlying70 ty5 hb61 ?_; intro a hE
      exact ⟨Kept.refl _ _, _, _, rfl, hE, rfl⟩
     ·intro a w ux55 hE hM hg
      have f0 : ux55 0 = (ZN (.slice (some ⟨b22, 0, none⟩) 16 16) ((0 : Int)).toNat ((16 : Int)).toNat 1) := hg 0 (by decide)
      have f1 : ux55 1 = (ZN (.slice (some ⟨b24, 0, none⟩) 16 16) ((0 : Int)).toNat ((16 : Int)).toNat 1) := hg 1 (by decide)
      have hE := hE.sub (e' := [(35, (ZN (.slice (some ⟨b22, 0, none⟩) 16 16) ((0 : Int)).toNat ((16 : Int)).toNat 1)), (36, (ZN (.slice (some ⟨b24, 0, none⟩) 16 16) ((0 : Int)).toNat ((16 : Int)).toNat 1)), (6, (ptr b5 0)), (7, (ptr b22 0)), (8, (ptr b24 0))]) ⟨lk rfl f0, lk rfl f1, rfl, rfl, rfl, trivial⟩
      refine s_buildLit (xs := [.tmp 35, .tmp 36]) (vs := [(ZN (.slice (some ⟨b22, 0, none⟩) 16 16) ((0 : Int)).toNat ((16 : Int)).toNat 1), (ZN (.slice (some ⟨b24, 0, none⟩) 16 16) ((0 : Int)).toNat ((16 : Int)).toNat 1)]) hE hM Za (dl rfl) rfl rfl Tryz.underlying42 Uw (by decide) (UI (Xt (W5 (At.sat (hM.rawAt (pre := [_])) (by simp) (by decide)) e57)) (UI (Xt (W5 (At.sat (hM.rawAt (pre := [])) (by simp) (by decide)) e60)) fa_nil)) ?_; intro b62 w a hM hE
      obtain ⟨r64, e65, hl53⟩ := bind_some hl53
      refine Zs (vs := [(Value.slice (some ⟨b62, 0, none⟩) 2 2)]) hE Za (dl rfl) rfl cb161 (Wk _ ([l56, l59] : (List (List UInt8))) (Value.slice (some ⟨b62, 0, none⟩) 2 2) (ro_lit (hM.rawAt (pre := [])) (hM.rawLt (pre := [])) ⟨(W5 (At.sat (hM.rawAt (pre := [_, _])) (by simp) (by decide)) e57), (W5 (At.sat (hM.rawAt (pre := [_])) (by simp) (by decide)) e60), trivial⟩ rfl) r64 e65) ?_
      rintro u66 w a ⟨_, rfl, hFr, hK⟩ hE
      have hM := hM.add hK hFr
      obtain ⟨x67, e68, hl53⟩ := bind_some hl53
      refine s_toArr hE Za (dl rfl) rfl Tryz.underlying29 (hM.sl (pre := []) noB) (toArr_some e68).1 (by decide) ?_; intro a hE
      refine Zm (cs := Flat.enc x67) hE Za (dl rfl) rfl Z9 rfl (sl_arr (hM.sl (pre := []) noB) e68 (by decide)) (Flat.len _) ?_; intro a hE
      have hM := hM.pull (pre := [_, _, _, _])
      refine Zp (seg := Flat.enc x67) (cs' := Flat.enc x67) hE hM Za rfl rfl rfl Z9 (Flat.len _) (zle flq) (Flat.cell _) (Zl flq) ?_; intro w a hM hE
      refine Zk ?_
      have ht69 := Option.some.inj hl53
      subst ht69
      refine Zn ?_
      have hM := M.fst (l := [_]) hM
      exact ⟨hE.sub ⟨rfl, trivial⟩, hM⟩
    ·skip
     rintro a w ⟨hE, hM⟩
     have hr := Option.some.inj hF54
     subst hr
     have hq70 : Yq Tryz.prog _ _ (.cell 6 29) _ := ZQ hE rfl Z9 rfl (hM.rawAt (pre := [])) (Flat.len _) rfl
     have hM := M.fst (l := []) hM
     exact wp_ret (Zy hE rfl hq70 ⟨_, rfl, rfl, hM.kept⟩)
noncomputable def YI (p0 : (Ref Gengine)) (r13 : (List (Vector UInt8 16))) (s19 : (Vector UInt8 32) × Int) : Option (Fl ((Vector UInt8 32) × Int) (Vector UInt8 32)) :=
 if (decide (s19.2 < (r13.length : Int))) = true then ((idx r13 s19.2).bind fun x24 => (YP p0 s19.1 x24).bind fun r29 => some (Fl.nx (r29, wr (s19.2 + 1)))) else (some (Fl.ex s19.1))
noncomputable def YS (p0 : (Ref Gengine)) (p1 : (List (List UInt8))) : Option ((Vector UInt8 32)) :=
 (Xw).bind fun r3 => (Z1 p1).bind fun r7 => (Wy r7).bind fun r10 => (Vv r10).bind fun r13 => (ZJ (YI p0 r13) (r3, 0) : Option ((Vector UInt8 32))).bind fun j16 => some j16
theorem c_impl_engine_digest (w0 : World) (p0 : (Ref Gengine)) (v0_1 : Value) (hv0_1 : Ro w0 p0 [v0_1]) (p1 : (List (List UInt8))) (v1_1 : Value) (hv1_1 : Ro w0 p1 [v1_1]) (r : (Vector UInt8 32)) (hF : YS p0 p1 = some r) :
  Calls Tryz.prog 99 [v0_1, v1_1].toArray w0 (fun en w' => ∃ v, en = .returned v ∧ (v = (Value.agg (Flat.enc r).toArray) ∧ Kept (Old w0) w0 w')) := by
 refine ZA (n := 24) Tryz.func99 rfl rfl (Nat.le_of_ble_eq_true rfl) rfl ?_
 intro a hE
 have hM := M.start w0
 unfold YS at hF
 refine Zc (ZE hE hM Za (dl rfl) Z9 ?_); intro b1 w a hM hE
 refine Zf (Zc ?_)
 obtain ⟨r3, e4, hF⟩ := bind_some hF
 refine Zs (vs := []) hE Za (dl rfl) rfl cb158 (c_impl_StartOfDigest _  r3 e4) ?_
 rintro v w a ⟨rfl, hK⟩ hE
 have hM := hM.keep hK
 refine ZE hE hM Za (dl rfl) Z9 ?_; intro b5 w a hM hE
 refine Zp (seg := Flat.enc r3) (cs' := Flat.enc r3) hE hM Za rfl rfl rfl Z9 (Flat.len _) (zle flq) (Flat.cell _) (Zl flq) ?_; intro w a hM hE
 refine Zf (wp_seq (Zc (Zd hE Za (dl rfl) rfl ?_))); intro a hE
 obtain ⟨r7, e8, hF⟩ := bind_some hF
 refine Zs (vs := [v1_1]) hE Za (dl rfl) rfl cb161 (Wk _ p1 v1_1 (hM.rdo hv1_1) r7 e8) ?_
 rintro u9 w a ⟨_, rfl, hFr, hK⟩ hE
 have hM := hM.add hK hFr
 obtain ⟨r10, e11, hF⟩ := bind_some hF
 refine Zs (vs := [u9]) hE Za (dl rfl) rfl cb160 (c_impl_padMessage _ r7 u9 (hM.sl (pre := []) noB) r10 e11) ?_
 rintro u12 w a ⟨_, rfl, hFr, hK⟩ hE
 have hM := hM.add hK hFr
 obtain ⟨r13, e14, hF⟩ := bind_some hF
 refine Zs (vs := [u12]) hE Za (dl rfl) rfl cb159 (c_impl_blocksOf _ r10 u12 (hM.sl (pre := []) noB) r13 e14) ?_
 rintro u15 w a ⟨_, rfl, hFr, hK⟩ hE
 have hM := hM.add hK hFr
 refine Yb hE Za (dl rfl) rfl Tryz.underlying32 (hM.sl (pre := []) noB) ?_; intro a hE
 refine Zd hE Za (dl rfl) rfl ?_; intro a hE
 refine Zf ?_
 obtain ⟨j16, hl17, hF18⟩ := bind_some hF
 refine ZS (fun a w => Env 24 a [(4, (ptr b1 0)), (5, (ptr b5 0))] ∧ M (Old w0) w0 w [raw b5 (Flat.enc j16), raw b1 (Flat.enc (Vector.replicate 32 (0 : UInt8)))]) ?_ ?_
 ·skip
  refine wp_block ?_
  have hM := hM.pull (pre := [_, _, _, _])
  have hM := hM.pull (pre := [_, _, _, _])
  have hM := hM.pull (pre := [_, _])
  have hM := M.fst (l := [_, _, _]) hM
  refine ZL (fun (s19 : (Vector UInt8 32) × Int) a w => Env 24 a [(0, v0_1), (4, (ptr b1 0)), (5, (ptr b5 0)), (12, u15), (13, (vI (r13.length : Int))), (14, (vI s19.2))] ∧ M (Old w0) w0 w [osl NoB (r13 : List (Vector UInt8 16)) u15, raw b5 (Flat.enc s19.1), raw b1 (Flat.enc (Vector.replicate 32 (0 : UInt8)))]) hl17 ⟨hE.sub ⟨rfl, rfl, rfl, rfl, rfl, rfl, trivial⟩, hM⟩ ?_
  rintro s19 a w ⟨hE, hM⟩ o22 hs20 hx21
  unfold YI at hs20
  refine Zc (Zh hE Za (dl rfl) rfl rfl rfl ?_); intro a hE
  refine Zf (wp_seq ?_)
  refine Zw hE rfl ?_ ?_
  ·intro hb23
   have hs20 := ZD hs20 hb23
   refine wp_skip (Zz (wp_seq (wp_block (Zc ?_))))
   obtain ⟨x24, e25, hs20⟩ := bind_some hs20
   have hi26 := ZY e25
   refine ZX hE Za (dl rfl) rfl rfl Tryz.underlying32 ZF (hM.sl (pre := []) noB) hi26.1 ?_; intro a hE
   refine Zm (cs := Flat.enc x24) hE Za (dl rfl) rfl ZF rfl (Wh (hM.sl (pre := []) noB) hi26.2) (Flat.len _) ?_; intro a hE
   refine ZE hE hM Za (dl rfl) ZF ?_; intro b27 w a hM hE
   refine Zp (seg := Flat.enc x24) (cs' := Flat.enc x24) hE hM Za rfl rfl rfl ZF (Flat.len _) (zle flq) (Flat.cell _) (Zl flq) ?_; intro w a hM hE
   refine Zf (wp_region_lit (Zd hE Za (dl rfl) rfl ?_)); intro a hE
   refine Zm (cs := Flat.enc s19.1) hE Za (dl rfl) rfl Z9 rfl (hM.rawAt (pre := [_, _])) (Flat.len _) ?_; intro a hE
   refine Zm (cs := Flat.enc x24) hE Za (dl rfl) rfl ZF rfl (hM.rawAt (pre := [])) (Flat.len _) ?_; intro a hE
   obtain ⟨r29, e30, hs20⟩ := bind_some hs20
   refine Zs (vs := [v0_1, (Value.agg (Flat.enc s19.1).toArray), (Value.agg (Flat.enc x24).toArray)]) hE Za (dl rfl) rfl cb162 (c_impl_engine_absorb _ p0 v0_1 (hM.rdo hv0_1) s19.1 x24 r29 e30) ?_
   rintro v w a ⟨rfl, hK⟩ hE
   have hM := hM.keep hK
   have hM := hM.pull (pre := [_, _])
   refine Zp (seg := Flat.enc r29) (cs' := Flat.enc r29) hE hM Za rfl rfl rfl Z9 (Flat.len _) (zle flq) (Flat.cell _) (Zl flq) ?_; intro w a hM hE
   refine Zk (Yl (Zz (wp_region_lit (Zh hE Za (dl rfl) rfl rfl rfl ?_)))); intro a hE
   refine Zd hE Za (dl rfl) rfl ?_; intro a hE
   refine Zk (Zn ?_)
   have hM := hM.pull (pre := [_, _, _])
   have hM := hM.pull (pre := [_])
   have hM := hM.pull (pre := [_, _, _])
   have hM := M.fst (l := [_, _, _]) hM
   exact ⟨_, (Option.some.inj hs20).symm, hE.sub ⟨rfl, rfl, rfl, rfl, rfl, rfl, trivial⟩, hM⟩
  ·intro hb23
   have hs20 := ZC hs20 hb23
   refine wp_exit (Zr (Zr (Yk ?_)))
   have ht31 := hx21 _ (Option.some.inj hs20).symm
   subst ht31
   refine Zn ?_
   have hM := hM.pull (pre := [_, _])
   have hM := hM.pull (pre := [_, _])
   have hM := M.fst (l := [_, _]) hM
   exact ⟨hE.sub ⟨rfl, rfl, trivial⟩, hM⟩
 ·skip
  rintro a w ⟨hE, hM⟩
  refine Zz (Zc (Zm (cs := Flat.enc j16) hE Za (dl rfl) rfl Z9 rfl (hM.rawAt (pre := [])) (Flat.len _) ?_)); intro a hE
  have hM := hM.pull (pre := [_])
  refine Zp (seg := Flat.enc j16) (cs' := Flat.enc j16) hE hM Za rfl rfl rfl Z9 (Flat.len _) (zle flq) (Flat.cell _) (Zl flq) ?_; intro w a hM hE
  refine Zf ?_
  have hr := Option.some.inj hF18
  subst hr
  have hq32 : Yq Tryz.prog _ _ (.cell 4 29) _ := ZQ hE rfl Z9 rfl (hM.rawAt (pre := [])) (Flat.len _) rfl
  have hM := M.fst (l := []) hM
  exact wp_ret (Zy hE rfl hq32 ⟨_, rfl, rfl, hM.kept⟩)
noncomputable def WC (p0 : (Ref Gengine)) (p1 : (Vector UInt8 16)) (p2 : (List (List UInt8))) : Option ((Vector UInt8 32)) :=
 (YZ p1 90).bind fun r5 => (Z1 p2).bind fun r8 => (YS p0 ([r5, r8] : (List (List UInt8)))).bind fun r13 => ((YZ p1 165).bind fun r21 => (slc r13.toList (0 : Int) (32 : Int)).bind fun l24 => (YS p0 ([r21, l24] : (List (List UInt8)))).bind fun r31 => some r31 : Option ((Vector UInt8 32))).bind fun j17 => some j17
theorem c_impl_engine_tag (w0 : World) (p0 : (Ref Gengine)) (v0_1 : Value) (hv0_1 : Ro w0 p0 [v0_1]) (p1 : (Vector UInt8 16)) (p2 : (List (List UInt8))) (v2_1 : Value) (hv2_1 : Ro w0 p2 [v2_1]) (r : (Vector UInt8 32)) (hF : WC p0 p1 p2 = some r) :
  Calls Tryz.prog 140 [v0_1, (Value.agg (Flat.enc p1).toArray), v2_1].toArray w0 (fun en w' => ∃ v, en = .returned v ∧ (v = (Value.agg (Flat.enc r).toArray) ∧ Kept (Old w0) w0 w')) := by
 refine ZA (n := 21) Tryz.func140 rfl rfl (Nat.le_of_ble_eq_true rfl) rfl ?_
 intro a hE
 have hM := M.start w0
 unfold WC at hF
 refine Zc (ZV (cs := Flat.enc p1) hE hM Za (dl rfl) rfl rfl ?_); intro b1 w a hM hE
 refine ZE hE hM Za (dl rfl) Z9 ?_; intro b3 w a hM hE
 refine Zf (Zc (Zd hE Za (dl rfl) rfl ?_)); intro a hE
 refine Zm (cs := Flat.enc p1) hE Za (dl rfl) rfl ZF rfl (hM.rawAt (pre := [_])) (Flat.len _) ?_; intro a hE
 obtain ⟨r5, e6, hF⟩ := bind_some hF
 refine Zs (vs := [(Value.agg (Flat.enc p1).toArray), (vB 90)]) hE Za (dl rfl) rfl cb139 (U6 _ p1 90 r5 e6) ?_
 rintro u7 w a ⟨_, rfl, hFr, hK⟩ hE
 have hM := hM.add hK hFr
 refine Zd hE Za (dl rfl) rfl ?_; intro a hE
 obtain ⟨r8, e9, hF⟩ := bind_some hF
 refine Zs (vs := [v2_1]) hE Za (dl rfl) rfl cb161 (Wk _ p2 v2_1 (hM.rdo hv2_1) r8 e9) ?_
 rintro u10 w a ⟨_, rfl, hFr, hK⟩ hE
 have hM := hM.add hK hFr
 refine s_buildLit (xs := [.tmp 10, .tmp 12]) (vs := [u7, u10]) hE hM Za (dl rfl) rfl rfl Tryz.underlying42 Uw (by decide) (UI (Xt (hM.sl (pre := [_]) noB)) (UI (Xt (hM.sl (pre := []) noB)) fa_nil)) ?_; intro b11 w a hM hE
 obtain ⟨r13, e14, hF⟩ := bind_some hF
 refine Zs (vs := [v0_1, (Value.slice (some ⟨b11, 0, none⟩) 2 2)]) hE Za (dl rfl) rfl cb99 (c_impl_engine_digest _ p0 v0_1 (hM.rdo hv0_1) ([r5, r8] : (List (List UInt8))) (Value.slice (some ⟨b11, 0, none⟩) 2 2) (ro_lit (hM.rawAt (pre := [])) (hM.rawLt (pre := [])) ⟨(hM.sl (pre := [_, _]) noB), (hM.sl (pre := [_]) noB), trivial⟩ rfl) r13 e14) ?_
 rintro v w a ⟨rfl, hK⟩ hE
 have hM := hM.keep hK
 refine ZE hE hM Za (dl rfl) Z9 ?_; intro b15 w a hM hE
 refine Zp (seg := Flat.enc r13) (cs' := Flat.enc r13) hE hM Za rfl rfl rfl Z9 (Flat.len _) (zle flq) (Flat.cell _) (Zl flq) ?_; intro w a hM hE
 refine Zf ?_
 obtain ⟨j17, hl18, hF19⟩ := bind_some hF
 refine ZR (fun a w => Env 21 a [(6, (ptr b3 0))] ∧ M (Old w0) w0 w [raw b3 (Flat.enc j17)]) ?_ ?_
 ·skip
  obtain ⟨r21, e22, hl18⟩ := bind_some hl18
  obtain ⟨l24, e25, hl18⟩ := bind_some hl18
  have hb26 := slc_arr e25 -- ^
  refine UM (n := 21) (hd := [_, _, _, _, _]) (tl := [_, _]) YU rfl rfl [15, 16, 17, 18, 19] (by decide) (fun D u w => M (Old w0) w0 w ([raw b15 (Flat.enc r13), raw b11 [u7, u10], osl NoB (r8 : List UInt8) u10, osl NoB (r5 : List UInt8) u7, raw b3 (Flat.enc (Vector.replicate 32 (0 : UInt8))), raw b1 (Flat.enc p1)] ++ qL ([mkO 2 (fun v => osl NoB (r21 : List UInt8) v), mkL 4 [2] 2 (fun us => [(us.getD 0 undef), (ZN (.slice (some ⟨b15, 0, none⟩) 32 32) ((0 : Int)).toNat ((32 : Int)).toNat 1)])] : Mk) D u) ∧ GOk ([([], fun us v => v = v0_1), ([], fun us v => v = (Value.agg (Flat.enc p1).toArray)), ([], fun us v => True), ([], fun us v => v = (ZN (.slice (some ⟨b15, 0, none⟩) 32 32) ((0 : Int)).toNat ((32 : Int)).toNat 1)), ([2], fun us v => True)] : Gs) D u) hE (fun u => ⟨M.qE (M.qE (M.q0 hM.drew u) emL) emO, gok0⟩) (ZM (Zb ?_ (Zb ?_ (Zb ?_ (Zb ?_ (Zb ?_ ZH)))))) ?_
  ·intro a w ux20 D hE hI hD hdc hp
   have hM0 := hI.1
   refine Zd hE Za (dl rfl) rfl ?_; intro a hE
   exact ⟨_, _, rfl, hE, M.qKeep hM0 rfl, hI.2.put hD rfl ZW rfl⟩
  ·intro a w ux20 D hE hI hD hdc hp
   have hM0 := hI.1
   have hM := hI.1
   refine Zm (cs := Flat.enc p1) hE Za (dl rfl) rfl ZF rfl (hM.rawAt (pre := [_, _, _, _, _])) (Flat.len _) ?_; intro a hE
   exact ⟨_, _, rfl, hE, M.qKeep hM0 rfl, hI.2.put hD rfl ZW rfl⟩
  ·intro a w ux20 D hE hI hD hdc hp
   have d1 : D 1 = true := hp 0 _ rfl rfl
   have g1 := hI.2 1 d1 _ rfl
   have f1 : ux20 1 = (Value.agg (Flat.enc p1).toArray) := g1.2
   have hsL : D 4 = false := Bool.eq_false_iff.2 fun hx => Bool.noConfusion (hD.symm.trans (hdc 4 _ _ rfl (List.mem_of_getElem? (i := 0) rfl) rfl hx))
   have hM0 := hI.1
   have hM := hI.1
   refine Zs (vs := [(Value.agg (Flat.enc p1).toArray), (vB 165)]) hE Za (dl rfl) (ZZ (ZT (lk rfl f1) (ZT rfl Y7))) cb139 (U6 _ p1 165 r21 e22) ?_
   rintro _ w a ⟨_, rfl, hFr, hK⟩ hE
   have hM := hM0.add hK hFr
   have hM := M.litOff (its := _ :: [raw b15 (Flat.enc r13), raw b11 [u7, u10], osl NoB (r8 : List UInt8) u10, osl NoB (r5 : List UInt8) u7, raw b3 (Flat.enc (Vector.replicate 32 (0 : UInt8))), raw b1 (Flat.enc p1)]) (mk := ([mkO 2 (fun v => osl NoB (r21 : List UInt8) v)] : Mk)) (i := 4) (ds := [2]) (m := 2) (f := (fun us => [(us.getD 0 undef), (ZN (.slice (some ⟨b15, 0, none⟩) 32 32) ((0 : Int)).toNat ((32 : Int)).toNat 1)])) hM hsL
   exact ⟨_, _, rfl, hE, (M.litOn (its := [raw b15 (Flat.enc r13), raw b11 [u7, u10], osl NoB (r8 : List UInt8) u10, osl NoB (r5 : List UInt8) u7, raw b3 (Flat.enc (Vector.replicate 32 (0 : UInt8))), raw b1 (Flat.enc p1)]) (mk := ([mkO 2 (fun v => osl NoB (r21 : List UInt8) v)] : Mk)) (i := 4) (ds := [2]) (m := 2) (f := (fun us => [(us.getD 0 undef), (ZN (.slice (some ⟨b15, 0, none⟩) 32 32) ((0 : Int)).toNat ((32 : Int)).toNat 1)])) (M.qFill (its := [raw b15 (Flat.enc r13), raw b11 [u7, u10], osl NoB (r8 : List UInt8) u10, osl NoB (r5 : List UInt8) u7, raw b3 (Flat.enc (Vector.replicate 32 (0 : UInt8))), raw b1 (Flat.enc p1)]) (mk1 := []) (mk2 := []) (f := (fun v => osl NoB (r21 : List UInt8) v)) hM rfl hD) hsL (by decide)), hI.2.put hD rfl ZW trivial⟩
  ·intro a w ux20 D hE hI hD hdc hp
   have hM0 := hI.1
   refine V6 (N := 32) hE Za (dl rfl) rfl rfl rfl rfl rfl Tryz.underlying29 ty5 hb26 ?_; intro a hE
   exact ⟨_, _, rfl, hE, M.qKeep hM0 rfl, hI.2.put hD rfl ZW rfl⟩
  ·intro a w ux20 D hE hI hD hdc hp
   have d2 : D 2 = true := hp 0 _ rfl rfl
   have g2 := hI.2 2 d2 _ rfl
   have d3 : D 3 = true := hp 1 _ rfl rfl
   have g3 := hI.2 3 d3 _ rfl
   have f3 : ux20 3 = (ZN (.slice (some ⟨b15, 0, none⟩) 32 32) ((0 : Int)).toNat ((32 : Int)).toNat 1) := g3.2
   have hM0 := hI.1
   have hM := hI.1
   have hM := hM.sure (pre := [_, _, _, _, _, _]) d2
   refine s_buildLit (xs := [.tmp 17, .tmp 18]) (vs := [(ux20 2), (ZN (.slice (some ⟨b15, 0, none⟩) 32 32) ((0 : Int)).toNat ((32 : Int)).toNat 1)]) hE hM Za (dl rfl) (ZZ (ZT rfl (ZT (lk rfl f3) Y7))) rfl Tryz.underlying42 Uw (by decide) (UI (Xt (hM.sl (pre := [_, _, _, _, _, _]) noB)) (UI (Xt (W5 (At.sat (hM.rawAt (pre := [])) (by simp) (by decide)) e25)) fa_nil)) ?_; intro b27 w a hM hE
   have hM := hM.unsure (pre := [_, _, _, _, _, _, _]) d2
   exact ⟨_, _, rfl, hE, M.litFill (its := [raw b15 (Flat.enc r13), raw b11 [u7, u10], osl NoB (r8 : List UInt8) u10, osl NoB (r5 : List UInt8) u7, raw b3 (Flat.enc (Vector.replicate 32 (0 : UInt8))), raw b1 (Flat.enc p1)]) (mk := ([mkO 2 (fun v => osl NoB (r21 : List UInt8) v)] : Mk)) (i := 4) (ds := [2]) (m := 2) (f := (fun us => [(us.getD 0 undef), (ZN (.slice (some ⟨b15, 0, none⟩) 32 32) ((0 : Int)).toNat ((32 : Int)).toNat 1)])) hM rfl hD (by decide), hI.2.put hD rfl (allC d2 ZW) trivial⟩
  ·intro a w ux20 D hE hI hall
   have hM := hI.1
   have d0 : D 0 = true := hall 0 (by decide)
   have d1 : D 1 = true := hall 1 (by decide)
   have d2 : D 2 = true := hall 2 (by decide)
   have d3 : D 3 = true := hall 3 (by decide)
   have d4 : D 4 = true := hall 4 (by decide)
   have f0 : ux20 0 = v0_1 := (hI.2 0 d0 _ rfl).2
   have f1 : ux20 1 = (Value.agg (Flat.enc p1).toArray) := (hI.2 1 d1 _ rfl).2
   have f3 : ux20 3 = (ZN (.slice (some ⟨b15, 0, none⟩) 32 32) ((0 : Int)).toNat ((32 : Int)).toNat 1) := (hI.2 3 d3 _ rfl).2
   have hM := hM.sure (pre := [_, _, _, _, _, _]) d2
   have hM := (hM.sure (pre := [_, _, _, _, _, _, _]) d4).pull
   obtain ⟨b29, f30, hM⟩ := M.litOpen hM
   have hE := hE.sub (e' := [(15, v0_1), (16, (Value.agg (Flat.enc p1).toArray)), (17, (ux20 2)), (18, (ZN (.slice (some ⟨b15, 0, none⟩) 32 32) ((0 : Int)).toNat ((32 : Int)).toNat 1)), (19, (Value.slice (some ⟨b29, 0, none⟩) 2 2)), (0, v0_1), (1, (Value.agg (Flat.enc p1).toArray)), (2, v2_1), (4, (ptr b1 0)), (6, (ptr b3 0)), (7, (ptr b15 0)), (8, v0_1), (9, (Value.agg (Flat.enc p1).toArray)), (10, u7), (11, v2_1), (12, u10), (13, (Value.slice (some ⟨b11, 0, none⟩) 2 2)), (14, (Value.agg (Flat.enc r13).toArray))]) ⟨lk rfl f0, lk rfl f1, rfl, lk rfl f3, lk rfl f30, rfl, rfl, rfl, rfl, rfl, rfl, rfl, rfl, rfl, rfl, rfl, rfl, rfl, trivial⟩
   obtain ⟨r31, e32, hl18⟩ := bind_some hl18
   refine Zs (vs := [v0_1, (Value.slice (some ⟨b29, 0, none⟩) 2 2)]) hE Za (dl rfl) rfl cb99 (c_impl_engine_digest _ p0 v0_1 (hM.rdo hv0_1) ([r21, l24] : (List (List UInt8))) (Value.slice (some ⟨b29, 0, none⟩) 2 2) (ro_lit (hM.rawAt (pre := [])) (hM.rawLt (pre := [])) ⟨(hM.sl (pre := [_, _, _, _, _, _, _]) noB), (W5 (At.sat (hM.rawAt (pre := [_])) (by simp) (by decide)) e25), trivial⟩ rfl) r31 e32) ?_
   rintro v w a ⟨rfl, hK⟩ hE
   have hM := hM.keep hK
   have hM := hM.pull (pre := [_, _, _, _, _])
   refine Zp (seg := Flat.enc r31) (cs' := Flat.enc r31) hE hM Za rfl rfl rfl Z9 (Flat.len _) (zle flq) (Flat.cell _) (Zl flq) ?_; intro w a hM hE
   refine Zk ?_
   have ht33 := Option.some.inj hl18
   subst ht33
   refine Zn ?_
   have hM := M.fst (l := [_]) hM
   exact ⟨hE.sub ⟨rfl, trivial⟩, hM⟩
 ·skip
  rintro a w ⟨hE, hM⟩
  have hr := Option.some.inj hF19
  subst hr
  have hq34 : Yq Tryz.prog _ _ (.cell 6 29) _ := ZQ hE rfl Z9 rfl (hM.rawAt (pre := [])) (Flat.len _) rfl
  have hM := M.fst (l := []) hM
  exact wp_ret (Zy hE rfl hq34 ⟨_, rfl, rfl, hM.kept⟩)
noncomputable def XL (p0 : (Ref Gengine)) (p1 : GVault) (p2 : GRecord) : Option ((Vector UInt8 32)) :=
 (idx p1.Keys p2.Version).bind fun x7 => (YZ x7 129).bind fun r10 => (toArr 16 r10).bind fun x13 => ((YQ p2.Number 4).bind fun r21 => (slc p2.Nonce.toList (0 : Int) (16 : Int)).bind fun l26 => (WC p0 x13 ([r21, ([Zx p2.Version] : List UInt8), l26, ([Zx (p2.Label.length : Int)] : List UInt8), p2.Label, p2.Body] : (List (List UInt8)))).bind fun r35 => some r35 : Option ((Vector UInt8 32))).bind fun j17 => some j17
theorem c_impl_engine_tagOf (w0 : World) (p0 : (Ref Gengine)) (v0_1 : Value) (hv0_1 : Ro w0 p0 [v0_1]) (p1 : GVault) (v1_1 : Value) (hv1_1 : Ro w0 p1.Keys [v1_1]) (v1_2 : Value) (hv1_2 : Ro w0 p1.Records [v1_2]) (v1_3 : Value) (hv1_3 : Ro w0 p1.Events [v1_3]) (p2 : GRecord) (v2_1 : Value) (hv2_1 : Ro w0 p2.Label [v2_1]) (v2_2 : Value) (hv2_2 : Ro w0 p2.Body [v2_2]) (r : (Vector UInt8 32)) (hF : XL p0 p1 p2 = some r) :
  Calls Tryz.prog 61 [v0_1, (Value.agg (cat [[v1_1], [(vI p1.Next)], [v1_2], [v1_3], Flat.enc p1.Head]).toArray), (Value.agg (cat [[(vI p2.Number)], [(vI p2.Version)], Flat.enc p2.Nonce, [v2_1], [v2_2], Flat.enc p2.Tag]).toArray)].toArray w0 (fun en w' => ∃ v, en = .returned v ∧ (v = (Value.agg (Flat.enc r).toArray) ∧ Kept (Old w0) w0 w')) := by
 refine ZA (n := 39) Tryz.func61 rfl rfl (Nat.le_of_ble_eq_true rfl) rfl ?_
 intro a hE
 have hM := M.start w0
 unfold XL at hF
 refine Zc (ZV (cs := cat [[v1_1], [(vI p1.Next)], [v1_2], [v1_3], Flat.enc p1.Head]) hE hM Za (dl rfl) rfl rfl ?_); intro b1 w a hM hE
 refine ZV (cs := cat [[(vI p2.Number)], [(vI p2.Version)], Flat.enc p2.Nonce, [v2_1], [v2_2], Flat.enc p2.Tag]) hE hM Za (dl rfl) rfl rfl ?_; intro b3 w a hM hE
 refine ZE hE hM Za (dl rfl) Z9 ?_; intro b5 w a hM hE
 refine Zf (Zc (Zg hE Za (dl rfl) rfl (fd36_0) ?_)); intro a hE
 refine Zq (v := v1_1) hE Za (dl rfl) rfl ty32 rfl (At.cat (pre := []) (hM.rawAt (pre := [_, _])) cl0) ?_; intro a hE
 refine Zg hE Za (dl rfl) rfl (fd92_1) ?_; intro a hE
 refine Zq (v := (vI p2.Version)) hE Za (dl rfl) rfl ty2 rfl (At.cat (pre := [[(vI p2.Number)]]) (hM.rawAt (pre := [_])) (cl1 (n := 1) (m := 0) rfl cl0)) ?_; intro a hE
 obtain ⟨x7, e8, hF⟩ := bind_some hF
 have hi9 := ZY e8
 refine ZX hE Za (dl rfl) rfl rfl Tryz.underlying32 ZF (hM.rd hv1_1) hi9.1 ?_; intro a hE
 refine Zm (cs := Flat.enc x7) hE Za (dl rfl) rfl ZF rfl (Wh (hM.rd hv1_1) hi9.2) (Flat.len _) ?_; intro a hE
 obtain ⟨r10, e11, hF⟩ := bind_some hF
 refine Zs (vs := [(Value.agg (Flat.enc x7).toArray), (vB 129)]) hE Za (dl rfl) rfl cb139 (U6 _ x7 129 r10 e11) ?_
 rintro u12 w a ⟨_, rfl, hFr, hK⟩ hE
 have hM := hM.add hK hFr
 obtain ⟨x13, e14, hF⟩ := bind_some hF
 refine s_toArr hE Za (dl rfl) rfl Tryz.underlying70 (hM.sl (pre := []) noB) (toArr_some e14).1 (by decide) ?_; intro a hE
 refine Zm (cs := Flat.enc x13) hE Za (dl rfl) rfl ZF rfl (sl_arr (hM.sl (pre := []) noB) e14 (by decide)) (Flat.len _) ?_; intro a hE
 refine ZE hE hM Za (dl rfl) ZF ?_; intro b15 w a hM hE
 refine Zp (seg := Flat.enc x13) (cs' := Flat.enc x13) hE hM Za rfl rfl rfl ZF (Flat.len _) (zle flq) (Flat.cell _) (Zl flq) ?_; intro w a hM hE
 refine Zf ?_
 obtain ⟨j17, hl18, hF19⟩ := bind_some hF
 refine ZR (fun a w => Env 39 a [(6, (ptr b5 0))] ∧ M (Old w0) w0 w [raw b5 (Flat.enc j17)]) ?_ ?_
 ·skip
  obtain ⟨r21, e22, hl18⟩ := bind_some hl18
  obtain ⟨l26, e27, hl18⟩ := bind_some hl18
  have hb28 := slc_arr e27 -- ^
  refine UM (n := 39) (hd := [_, _, _, _, _, _, _, _, _, _, _, _, _, _, _, _, _, _, _, _, _]) (tl := [_, _]) YU rfl rfl [17, 18, 19, 20, 21, 22, 23, 24, 25, 26, 27, 28, 29, 30, 31, 32, 33, 34, 35, 36, 37] (by decide) (fun D u w => M (Old w0) w0 w ([raw b15 (Flat.enc x13), osl NoB (r10 : List UInt8) u12, raw b5 (Flat.enc (Vector.replicate 32 (0 : UInt8))), raw b3 (cat [[(vI p2.Number)], [(vI p2.Version)], Flat.enc p2.Nonce, [v2_1], [v2_2], Flat.enc p2.Tag]), raw b1 (cat [[v1_1], [(vI p1.Next)], [v1_2], [v1_3], Flat.enc p1.Head])] ++ qL ([mkO 4 (fun v => osl NoB (r21 : List UInt8) v), mkO 8 (fun v => osl NoB (([Zx p2.Version] : List UInt8) : List UInt8) v), mkO 15 (fun v => osl NoB (([Zx (p2.Label.length : Int)] : List UInt8) : List UInt8) v), mkL 20 [4, 8, 15] 6 (fun us => [(us.getD 0 undef), (us.getD 1 undef), (ZN (.slice (some ⟨b3, 0 + 2, none⟩) 16 16) ((0 : Int)).toNat ((16 : Int)).toNat 1), (us.getD 2 undef), v2_1, v2_2])] : Mk) D u) ∧ GOk ([([], fun us v => v = v0_1), ([], fun us v => v = (Value.agg (Flat.enc x13).toArray)), ([], fun us v => v = (ptr b3 (0 + 0))), ([], fun us v => v = (vI p2.Number)), ([], fun us v => True), ([], fun us v => v = (ptr b3 (0 + 1))), ([], fun us v => v = (vI p2.Version)), ([], fun us v => v = (vB (Zx p2.Version))), ([], fun us v => True), ([], fun us v => v = (ptr b3 (0 + 2))), ([], fun us v => v = (ZN (.slice (some ⟨b3, 0 + 2, none⟩) 16 16) ((0 : Int)).toNat ((16 : Int)).toNat 1)), ([], fun us v => v = (ptr b3 (0 + 18))), ([], fun us v => v = v2_1), ([], fun us v => v = (vI (p2.Label.length : Int))), ([], fun us v => v = (vB (Zx (p2.Label.length : Int)))), ([], fun us v => True), ([], fun us v => v = (ptr b3 (0 + 18))), ([], fun us v => v = v2_1), ([], fun us v => v = (ptr b3 (0 + 19))), ([], fun us v => v = v2_2), ([4, 8, 15], fun us v => True)] : Gs) D u) hE (fun u => ⟨M.qE (M.qE (M.qE (M.qE (M.q0 hM.drew u) emL) emO) emO) emO, gok0⟩) (ZM (Zb ?_ (Zb ?_ (Zb ?_ (Zb ?_ (Zb ?_ (Zb ?_ (Zb ?_ (Zb ?_ (Zb ?_ (Zb ?_ (Zb ?_ (Zb ?_ (Zb ?_ (Zb ?_ (Zb ?_ (Zb ?_ (Zb ?_ (Zb ?_ (Zb ?_ (Zb ?_ (Zb ?_ ZH)))))))))))))))))))))) ?_
  ·intro a w ux20 D hE hI hD hdc hp
   have hM0 := hI.1
   refine Zd hE Za (dl rfl) rfl ?_; intro a hE
   exact ⟨_, _, rfl, hE, M.qKeep hM0 rfl, hI.2.put hD rfl ZW rfl⟩
  ·intro a w ux20 D hE hI hD hdc hp
   have hM0 := hI.1
   have hM := hI.1
   refine Zm (cs := Flat.enc x13) hE Za (dl rfl) rfl ZF rfl (hM.rawAt (pre := [])) (Flat.len _) ?_; intro a hE
   exact ⟨_, _, rfl, hE, M.qKeep hM0 rfl, hI.2.put hD rfl ZW rfl⟩
  ·intro a w ux20 D hE hI hD hdc hp
   have hM0 := hI.1
   refine Zg hE Za (dl rfl) rfl (UQ) ?_; intro a hE
   exact ⟨_, _, rfl, hE, M.qKeep hM0 rfl, hI.2.put hD rfl ZW rfl⟩
  ·intro a w ux20 D hE hI hD hdc hp
   have d2 : D 2 = true := hp 0 _ rfl rfl
   have g2 := hI.2 2 d2 _ rfl
   have f2 : ux20 2 = (ptr b3 (0 + 0)) := g2.2
   have hM0 := hI.1
   have hM := hI.1
   refine Zq (v := (vI p2.Number)) hE Za (dl rfl) (lk rfl f2) ty2 rfl (At.cat (pre := []) (hM.rawAt (pre := [_, _, _])) cl0) ?_; intro a hE
   exact ⟨_, _, rfl, hE, M.qKeep hM0 rfl, hI.2.put hD rfl ZW rfl⟩
  ·intro a w ux20 D hE hI hD hdc hp
   have d3 : D 3 = true := hp 0 _ rfl rfl
   have g3 := hI.2 3 d3 _ rfl
   have f3 : ux20 3 = (vI p2.Number) := g3.2
   have hsL : D 20 = false := Bool.eq_false_iff.2 fun hx => Bool.noConfusion (hD.symm.trans (hdc 20 _ _ rfl (List.mem_of_getElem? (i := 0) rfl) rfl hx))
   have hM0 := hI.1
   have hM := hI.1
   refine Zs (vs := [(vI p2.Number), (vI 4)]) hE Za (dl rfl) (ZZ (ZT (lk rfl f3) (ZT rfl Y7))) cb141 (c_impl_bigEndian _ p2.Number 4 r21 e22) ?_
   rintro _ w a ⟨_, rfl, hFr, hK⟩ hE
   have hM := hM0.add hK hFr
   have hM := M.litOff (its := _ :: [raw b15 (Flat.enc x13), osl NoB (r10 : List UInt8) u12, raw b5 (Flat.enc (Vector.replicate 32 (0 : UInt8))), raw b3 (cat [[(vI p2.Number)], [(vI p2.Version)], Flat.enc p2.Nonce, [v2_1], [v2_2], Flat.enc p2.Tag]), raw b1 (cat [[v1_1], [(vI p1.Next)], [v1_2], [v1_3], Flat.enc p1.Head])]) (mk := ([mkO 4 (fun v => osl NoB (r21 : List UInt8) v), mkO 8 (fun v => osl NoB (([Zx p2.Version] : List UInt8) : List UInt8) v), mkO 15 (fun v => osl NoB (([Zx (p2.Label.length : Int)] : List UInt8) : List UInt8) v)] : Mk)) (i := 20) (ds := [4, 8, 15]) (m := 6) (f := (fun us => [(us.getD 0 undef), (us.getD 1 undef), (ZN (.slice (some ⟨b3, 0 + 2, none⟩) 16 16) ((0 : Int)).toNat ((16 : Int)).toNat 1), (us.getD 2 undef), v2_1, v2_2])) hM hsL
   exact ⟨_, _, rfl, hE, (M.litOn (its := [raw b15 (Flat.enc x13), osl NoB (r10 : List UInt8) u12, raw b5 (Flat.enc (Vector.replicate 32 (0 : UInt8))), raw b3 (cat [[(vI p2.Number)], [(vI p2.Version)], Flat.enc p2.Nonce, [v2_1], [v2_2], Flat.enc p2.Tag]), raw b1 (cat [[v1_1], [(vI p1.Next)], [v1_2], [v1_3], Flat.enc p1.Head])]) (mk := ([mkO 4 (fun v => osl NoB (r21 : List UInt8) v), mkO 8 (fun v => osl NoB (([Zx p2.Version] : List UInt8) : List UInt8) v), mkO 15 (fun v => osl NoB (([Zx (p2.Label.length : Int)] : List UInt8) : List UInt8) v)] : Mk)) (i := 20) (ds := [4, 8, 15]) (m := 6) (f := (fun us => [(us.getD 0 undef), (us.getD 1 undef), (ZN (.slice (some ⟨b3, 0 + 2, none⟩) 16 16) ((0 : Int)).toNat ((16 : Int)).toNat 1), (us.getD 2 undef), v2_1, v2_2])) (M.qFill (its := [raw b15 (Flat.enc x13), osl NoB (r10 : List UInt8) u12, raw b5 (Flat.enc (Vector.replicate 32 (0 : UInt8))), raw b3 (cat [[(vI p2.Number)], [(vI p2.Version)], Flat.enc p2.Nonce, [v2_1], [v2_2], Flat.enc p2.Tag]), raw b1 (cat [[v1_1], [(vI p1.Next)], [v1_2], [v1_3], Flat.enc p1.Head])]) (mk1 := []) (mk2 := [_, _]) (f := (fun v => osl NoB (r21 : List UInt8) v)) hM rfl hD) hsL (by decide)), hI.2.put hD rfl ZW trivial⟩
  ·intro a w ux20 D hE hI hD hdc hp
   have hM0 := hI.1
   refine Zg hE Za (dl rfl) rfl (fd92_1) ?_; intro a hE
   exact ⟨_, _, rfl, hE, M.qKeep hM0 rfl, hI.2.put hD rfl ZW rfl⟩
  ·intro a w ux20 D hE hI hD hdc hp
   have d5 : D 5 = true := hp 0 _ rfl rfl
   have g5 := hI.2 5 d5 _ rfl
   have f5 : ux20 5 = (ptr b3 (0 + 1)) := g5.2
   have hM0 := hI.1
   have hM := hI.1
   refine Zq (v := (vI p2.Version)) hE Za (dl rfl) (lk rfl f5) ty2 rfl (At.cat (pre := [[(vI p2.Number)]]) (hM.rawAt (pre := [_, _, _])) (cl1 (n := 1) (m := 0) rfl cl0)) ?_; intro a hE
   exact ⟨_, _, rfl, hE, M.qKeep hM0 rfl, hI.2.put hD rfl ZW rfl⟩
  ·intro a w ux20 D hE hI hD hdc hp
   have d6 : D 6 = true := hp 0 _ rfl rfl
   have g6 := hI.2 6 d6 _ rfl
   have f6 : ux20 6 = (vI p2.Version) := g6.2
   have hM0 := hI.1
   refine YE hE Za (dl rfl) (lk rfl f6) Tryz.underlying2 Tryz.underlying5 ?_; intro a hE
   rw [Z4] at hE
   exact ⟨_, _, rfl, hE, M.qKeep hM0 rfl, hI.2.put hD rfl ZW rfl⟩
  ·intro a w ux20 D hE hI hD hdc hp
   have d7 : D 7 = true := hp 0 _ rfl rfl
   have g7 := hI.2 7 d7 _ rfl
   have f7 : ux20 7 = (vB (Zx p2.Version)) := g7.2
   have hsL : D 20 = false := Bool.eq_false_iff.2 fun hx => Bool.noConfusion (hD.symm.trans (hdc 20 _ _ rfl (List.mem_of_getElem? (i := 1) rfl) rfl hx))
   have hM0 := hI.1
   have hM := hI.1
   refine Ye (xs := [.tmp 24]) (l := ([Zx p2.Version] : List UInt8)) (vs := [(vB (Zx p2.Version))]) hE hM Za (dl rfl) (ZZ (ZT (lk rfl f7) Y7)) rfl Tryz.underlying57 ty5 rfl (by decide) rfl ?_; intro u24 w a hM hE
   have hM := M.litOff (its := _ :: [raw b15 (Flat.enc x13), osl NoB (r10 : List UInt8) u12, raw b5 (Flat.enc (Vector.replicate 32 (0 : UInt8))), raw b3 (cat [[(vI p2.Number)], [(vI p2.Version)], Flat.enc p2.Nonce, [v2_1], [v2_2], Flat.enc p2.Tag]), raw b1 (cat [[v1_1], [(vI p1.Next)], [v1_2], [v1_3], Flat.enc p1.Head])]) (mk := ([mkO 4 (fun v => osl NoB (r21 : List UInt8) v), mkO 8 (fun v => osl NoB (([Zx p2.Version] : List UInt8) : List UInt8) v), mkO 15 (fun v => osl NoB (([Zx (p2.Label.length : Int)] : List UInt8) : List UInt8) v)] : Mk)) (i := 20) (ds := [4, 8, 15]) (m := 6) (f := (fun us => [(us.getD 0 undef), (us.getD 1 undef), (ZN (.slice (some ⟨b3, 0 + 2, none⟩) 16 16) ((0 : Int)).toNat ((16 : Int)).toNat 1), (us.getD 2 undef), v2_1, v2_2])) hM hsL
   exact ⟨_, _, rfl, hE, (M.litOn (its := [raw b15 (Flat.enc x13), osl NoB (r10 : List UInt8) u12, raw b5 (Flat.enc (Vector.replicate 32 (0 : UInt8))), raw b3 (cat [[(vI p2.Number)], [(vI p2.Version)], Flat.enc p2.Nonce, [v2_1], [v2_2], Flat.enc p2.Tag]), raw b1 (cat [[v1_1], [(vI p1.Next)], [v1_2], [v1_3], Flat.enc p1.Head])]) (mk := ([mkO 4 (fun v => osl NoB (r21 : List UInt8) v), mkO 8 (fun v => osl NoB (([Zx p2.Version] : List UInt8) : List UInt8) v), mkO 15 (fun v => osl NoB (([Zx (p2.Label.length : Int)] : List UInt8) : List UInt8) v)] : Mk)) (i := 20) (ds := [4, 8, 15]) (m := 6) (f := (fun us => [(us.getD 0 undef), (us.getD 1 undef), (ZN (.slice (some ⟨b3, 0 + 2, none⟩) 16 16) ((0 : Int)).toNat ((16 : Int)).toNat 1), (us.getD 2 undef), v2_1, v2_2])) (M.qFill (its := [raw b15 (Flat.enc x13), osl NoB (r10 : List UInt8) u12, raw b5 (Flat.enc (Vector.replicate 32 (0 : UInt8))), raw b3 (cat [[(vI p2.Number)], [(vI p2.Version)], Flat.enc p2.Nonce, [v2_1], [v2_2], Flat.enc p2.Tag]), raw b1 (cat [[v1_1], [(vI p1.Next)], [v1_2], [v1_3], Flat.enc p1.Head])]) (mk1 := [_]) (mk2 := [_]) (f := (fun v => osl NoB (([Zx p2.Version] : List UInt8) : List UInt8) v)) hM rfl hD) hsL (by decide)), hI.2.put hD rfl ZW trivial⟩
  ·intro a w ux20 D hE hI hD hdc hp
   have hM0 := hI.1
   refine Zg hE Za (dl rfl) rfl (fd92_2) ?_; intro a hE
   exact ⟨_, _, rfl, hE, M.qKeep hM0 rfl, hI.2.put hD rfl ZW rfl⟩
  ·intro a w ux20 D hE hI hD hdc hp
   have d9 : D 9 = true := hp 0 _ rfl rfl
   have g9 := hI.2 9 d9 _ rfl
   have f9 : ux20 9 = (ptr b3 (0 + 2)) := g9.2
   have hM0 := hI.1
   refine V6 (N := 16) hE Za (dl rfl) (lk rfl f9) rfl rfl rfl rfl Tryz.underlying70 ty5 hb28 ?_; intro a hE
   exact ⟨_, _, rfl, hE, M.qKeep hM0 rfl, hI.2.put hD rfl ZW rfl⟩
  ·intro a w ux20 D hE hI hD hdc hp
   have hM0 := hI.1
   refine Zg hE Za (dl rfl) rfl (fd92_3) ?_; intro a hE
   exact ⟨_, _, rfl, hE, M.qKeep hM0 rfl, hI.2.put hD rfl ZW rfl⟩
  ·intro a w ux20 D hE hI hD hdc hp
   have d11 : D 11 = true := hp 0 _ rfl rfl
   have g11 := hI.2 11 d11 _ rfl
   have f11 : ux20 11 = (ptr b3 (0 + 18)) := g11.2
   have hM0 := hI.1
   have hM := hI.1
   refine Zq (v := v2_1) hE Za (dl rfl) (lk rfl f11) Uw rfl (At.cat (pre := [[(vI p2.Number)], [(vI p2.Version)], Flat.enc p2.Nonce]) (hM.rawAt (pre := [_, _, _])) (cl1 (n := 1) (m := 17) rfl (cl1 (n := 1) (m := 16) rfl (cl1 (n := 16) (m := 0) (Flat.len _) cl0)))) ?_; intro a hE
   exact ⟨_, _, rfl, hE, M.qKeep hM0 rfl, hI.2.put hD rfl ZW rfl⟩
  ·intro a w ux20 D hE hI hD hdc hp
   have d12 : D 12 = true := hp 0 _ rfl rfl
   have g12 := hI.2 12 d12 _ rfl
   have f12 : ux20 12 = v2_1 := g12.2
   have hM0 := hI.1
   have hM := hI.1
   refine Yb hE Za (dl rfl) (lk rfl f12) Tryz.underlying57 (hM.rd hv2_1) ?_; intro a hE
   exact ⟨_, _, rfl, hE, M.qKeep hM0 rfl, hI.2.put hD rfl ZW rfl⟩
  ·intro a w ux20 D hE hI hD hdc hp
   have d13 : D 13 = true := hp 0 _ rfl rfl
   have g13 := hI.2 13 d13 _ rfl
   have f13 : ux20 13 = (vI (p2.Label.length : Int)) := g13.2
   have hM0 := hI.1
   refine YE hE Za (dl rfl) (lk rfl f13) Tryz.underlying3 Tryz.underlying5 ?_; intro a hE
   rw [Z4] at hE
   exact ⟨_, _, rfl, hE, M.qKeep hM0 rfl, hI.2.put hD rfl ZW rfl⟩
  ·intro a w ux20 D hE hI hD hdc hp
   have d14 : D 14 = true := hp 0 _ rfl rfl
   have g14 := hI.2 14 d14 _ rfl
   have f14 : ux20 14 = (vB (Zx (p2.Label.length : Int))) := g14.2
   have hsL : D 20 = false := Bool.eq_false_iff.2 fun hx => Bool.noConfusion (hD.symm.trans (hdc 20 _ _ rfl (List.mem_of_getElem? (i := 3) rfl) rfl hx))
   have hM0 := hI.1
   have hM := hI.1
   refine Ye (xs := [.tmp 31]) (l := ([Zx (p2.Label.length : Int)] : List UInt8)) (vs := [(vB (Zx (p2.Label.length : Int)))]) hE hM Za (dl rfl) (ZZ (ZT (lk rfl f14) Y7)) rfl Tryz.underlying57 ty5 rfl (by decide) rfl ?_; intro u29 w a hM hE
   have hM := M.litOff (its := _ :: [raw b15 (Flat.enc x13), osl NoB (r10 : List UInt8) u12, raw b5 (Flat.enc (Vector.replicate 32 (0 : UInt8))), raw b3 (cat [[(vI p2.Number)], [(vI p2.Version)], Flat.enc p2.Nonce, [v2_1], [v2_2], Flat.enc p2.Tag]), raw b1 (cat [[v1_1], [(vI p1.Next)], [v1_2], [v1_3], Flat.enc p1.Head])]) (mk := ([mkO 4 (fun v => osl NoB (r21 : List UInt8) v), mkO 8 (fun v => osl NoB (([Zx p2.Version] : List UInt8) : List UInt8) v), mkO 15 (fun v => osl NoB (([Zx (p2.Label.length : Int)] : List UInt8) : List UInt8) v)] : Mk)) (i := 20) (ds := [4, 8, 15]) (m := 6) (f := (fun us => [(us.getD 0 undef), (us.getD 1 undef), (ZN (.slice (some ⟨b3, 0 + 2, none⟩) 16 16) ((0 : Int)).toNat ((16 : Int)).toNat 1), (us.getD 2 undef), v2_1, v2_2])) hM hsL
   exact ⟨_, _, rfl, hE, (M.litOn (its := [raw b15 (Flat.enc x13), osl NoB (r10 : List UInt8) u12, raw b5 (Flat.enc (Vector.replicate 32 (0 : UInt8))), raw b3 (cat [[(vI p2.Number)], [(vI p2.Version)], Flat.enc p2.Nonce, [v2_1], [v2_2], Flat.enc p2.Tag]), raw b1 (cat [[v1_1], [(vI p1.Next)], [v1_2], [v1_3], Flat.enc p1.Head])]) (mk := ([mkO 4 (fun v => osl NoB (r21 : List UInt8) v), mkO 8 (fun v => osl NoB (([Zx p2.Version] : List UInt8) : List UInt8) v), mkO 15 (fun v => osl NoB (([Zx (p2.Label.length : Int)] : List UInt8) : List UInt8) v)] : Mk)) (i := 20) (ds := [4, 8, 15]) (m := 6) (f := (fun us => [(us.getD 0 undef), (us.getD 1 undef), (ZN (.slice (some ⟨b3, 0 + 2, none⟩) 16 16) ((0 : Int)).toNat ((16 : Int)).toNat 1), (us.getD 2 undef), v2_1, v2_2])) (M.qFill (its := [raw b15 (Flat.enc x13), osl NoB (r10 : List UInt8) u12, raw b5 (Flat.enc (Vector.replicate 32 (0 : UInt8))), raw b3 (cat [[(vI p2.Number)], [(vI p2.Version)], Flat.enc p2.Nonce, [v2_1], [v2_2], Flat.enc p2.Tag]), raw b1 (cat [[v1_1], [(vI p1.Next)], [v1_2], [v1_3], Flat.enc p1.Head])]) (mk1 := [_, _]) (mk2 := []) (f := (fun v => osl NoB (([Zx (p2.Label.length : Int)] : List UInt8) : List UInt8) v)) hM rfl hD) hsL (by decide)), hI.2.put hD rfl ZW trivial⟩
  ·intro a w ux20 D hE hI hD hdc hp
   have hM0 := hI.1
   refine Zg hE Za (dl rfl) rfl (fd92_3) ?_; intro a hE
   exact ⟨_, _, rfl, hE, M.qKeep hM0 rfl, hI.2.put hD rfl ZW rfl⟩
  ·intro a w ux20 D hE hI hD hdc hp
   have d16 : D 16 = true := hp 0 _ rfl rfl
   have g16 := hI.2 16 d16 _ rfl
   have f16 : ux20 16 = (ptr b3 (0 + 18)) := g16.2
   have hM0 := hI.1
   have hM := hI.1
   refine Zq (v := v2_1) hE Za (dl rfl) (lk rfl f16) Uw rfl (At.cat (pre := [[(vI p2.Number)], [(vI p2.Version)], Flat.enc p2.Nonce]) (hM.rawAt (pre := [_, _, _])) (cl1 (n := 1) (m := 17) rfl (cl1 (n := 1) (m := 16) rfl (cl1 (n := 16) (m := 0) (Flat.len _) cl0)))) ?_; intro a hE
   exact ⟨_, _, rfl, hE, M.qKeep hM0 rfl, hI.2.put hD rfl ZW rfl⟩
  ·intro a w ux20 D hE hI hD hdc hp
   have hM0 := hI.1
   refine Zg hE Za (dl rfl) rfl (fd92_4) ?_; intro a hE
   exact ⟨_, _, rfl, hE, M.qKeep hM0 rfl, hI.2.put hD rfl ZW rfl⟩
  ·intro a w ux20 D hE hI hD hdc hp
   have d18 : D 18 = true := hp 0 _ rfl rfl
   have g18 := hI.2 18 d18 _ rfl
   have f18 : ux20 18 = (ptr b3 (0 + 19)) := g18.2
   have hM0 := hI.1
   have hM := hI.1
   refine Zq (v := v2_2) hE Za (dl rfl) (lk rfl f18) Uw rfl (At.cat (pre := [[(vI p2.Number)], [(vI p2.Version)], Flat.enc p2.Nonce, [v2_1]]) (hM.rawAt (pre := [_, _, _])) (cl1 (n := 1) (m := 18) rfl (cl1 (n := 1) (m := 17) rfl (cl1 (n := 16) (m := 1) (Flat.len _) (cl1 (n := 1) (m := 0) rfl cl0))))) ?_; intro a hE
   exact ⟨_, _, rfl, hE, M.qKeep hM0 rfl, hI.2.put hD rfl ZW rfl⟩
  ·intro a w ux20 D hE hI hD hdc hp
   have d4 : D 4 = true := hp 0 _ rfl rfl
   have g4 := hI.2 4 d4 _ rfl
   have d8 : D 8 = true := hp 1 _ rfl rfl
   have g8 := hI.2 8 d8 _ rfl
   have d10 : D 10 = true := hp 2 _ rfl rfl
   have g10 := hI.2 10 d10 _ rfl
   have f10 : ux20 10 = (ZN (.slice (some ⟨b3, 0 + 2, none⟩) 16 16) ((0 : Int)).toNat ((16 : Int)).toNat 1) := g10.2
   have d15 : D 15 = true := hp 3 _ rfl rfl
   have g15 := hI.2 15 d15 _ rfl
   have d17 : D 17 = true := hp 4 _ rfl rfl
   have g17 := hI.2 17 d17 _ rfl
   have f17 : ux20 17 = v2_1 := g17.2
   have d19 : D 19 = true := hp 5 _ rfl rfl
   have g19 := hI.2 19 d19 _ rfl
   have f19 : ux20 19 = v2_2 := g19.2
   have hM0 := hI.1
   have hM := hI.1
   have hM := hM.sure (pre := [_, _, _, _, _]) d4
   have hM := hM.sure (pre := [_, _, _, _, _, _]) d8
   have hM := hM.sure (pre := [_, _, _, _, _, _, _]) d15
   refine s_buildLit (xs := [.tmp 21, .tmp 25, .tmp 27, .tmp 32, .tmp 34, .tmp 36]) (vs := [(ux20 4), (ux20 8), (ZN (.slice (some ⟨b3, 0 + 2, none⟩) 16 16) ((0 : Int)).toNat ((16 : Int)).toNat 1), (ux20 15), v2_1, v2_2]) hE hM Za (dl rfl) (ZZ (ZT rfl (ZT rfl (ZT (lk rfl f10) (ZT rfl (ZT (lk rfl f17) (ZT (lk rfl f19) Y7))))))) rfl Tryz.underlying42 Uw (by decide) (UI (Xt (hM.sl (pre := [_, _, _, _, _]) noB)) (UI (Xt (hM.sl (pre := [_, _, _, _, _, _]) noB)) (UI (Xt (W5 (At.sat (At.cat (pre := [[(vI p2.Number)], [(vI p2.Version)]]) (hM.rawAt (pre := [_, _, _])) (cl1 (n := 1) (m := 1) rfl (cl1 (n := 1) (m := 0) rfl cl0))) (by simp) (by decide)) e27)) (UI (Xt (hM.sl (pre := [_, _, _, _, _, _, _]) noB)) (UI (Xt (hM.rd hv2_1)) (UI (Xt (hM.rd hv2_2)) fa_nil)))))) ?_; intro b31 w a hM hE
   have hM := hM.unsure (pre := [_, _, _, _, _, _, _, _]) d15
   have hM := hM.unsure (pre := [_, _, _, _, _, _, _]) d8
   have hM := hM.unsure (pre := [_, _, _, _, _, _]) d4
   exact ⟨_, _, rfl, hE, M.litFill (its := [raw b15 (Flat.enc x13), osl NoB (r10 : List UInt8) u12, raw b5 (Flat.enc (Vector.replicate 32 (0 : UInt8))), raw b3 (cat [[(vI p2.Number)], [(vI p2.Version)], Flat.enc p2.Nonce, [v2_1], [v2_2], Flat.enc p2.Tag]), raw b1 (cat [[v1_1], [(vI p1.Next)], [v1_2], [v1_3], Flat.enc p1.Head])]) (mk := ([mkO 4 (fun v => osl NoB (r21 : List UInt8) v), mkO 8 (fun v => osl NoB (([Zx p2.Version] : List UInt8) : List UInt8) v), mkO 15 (fun v => osl NoB (([Zx (p2.Label.length : Int)] : List UInt8) : List UInt8) v)] : Mk)) (i := 20) (ds := [4, 8, 15]) (m := 6) (f := (fun us => [(us.getD 0 undef), (us.getD 1 undef), (ZN (.slice (some ⟨b3, 0 + 2, none⟩) 16 16) ((0 : Int)).toNat ((16 : Int)).toNat 1), (us.getD 2 undef), v2_1, v2_2])) hM rfl hD (by decide), hI.2.put hD rfl (allC d4 (allC d8 (allC d15 ZW))) trivial⟩
  ·intro a w ux20 D hE hI hall
   have hM := hI.1
   have d0 : D 0 = true := hall 0 (by decide)
   have d1 : D 1 = true := hall 1 (by decide)
   have d2 : D 2 = true := hall 2 (by decide)
   have d3 : D 3 = true := hall 3 (by decide)
   have d4 : D 4 = true := hall 4 (by decide)
   have d5 : D 5 = true := hall 5 (by decide)
   have d6 : D 6 = true := hall 6 (by decide)
   have d7 : D 7 = true := hall 7 (by decide)
   have d8 : D 8 = true := hall 8 (by decide)
   have d9 : D 9 = true := hall 9 (by decide)
   have d10 : D 10 = true := hall 10 (by decide)
   have d11 : D 11 = true := hall 11 (by decide)
   have d12 : D 12 = true := hall 12 (by decide)
   have d13 : D 13 = true := hall 13 (by decide)
   have d14 : D 14 = true := hall 14 (by decide)
   have d15 : D 15 = true := hall 15 (by decide)
   have d16 : D 16 = true := hall 16 (by decide)
   have d17 : D 17 = true := hall 17 (by decide)
   have d18 : D 18 = true := hall 18 (by decide)
   have d19 : D 19 = true := hall 19 (by decide)
   have d20 : D 20 = true := hall 20 (by decide)
   have f0 : ux20 0 = v0_1 := (hI.2 0 d0 _ rfl).2
   have f1 : ux20 1 = (Value.agg (Flat.enc x13).toArray) := (hI.2 1 d1 _ rfl).2
   have f2 : ux20 2 = (ptr b3 (0 + 0)) := (hI.2 2 d2 _ rfl).2
   have f3 : ux20 3 = (vI p2.Number) := (hI.2 3 d3 _ rfl).2
   have f5 : ux20 5 = (ptr b3 (0 + 1)) := (hI.2 5 d5 _ rfl).2
   have f6 : ux20 6 = (vI p2.Version) := (hI.2 6 d6 _ rfl).2
   have f7 : ux20 7 = (vB (Zx p2.Version)) := (hI.2 7 d7 _ rfl).2
   have f9 : ux20 9 = (ptr b3 (0 + 2)) := (hI.2 9 d9 _ rfl).2
   have f10 : ux20 10 = (ZN (.slice (some ⟨b3, 0 + 2, none⟩) 16 16) ((0 : Int)).toNat ((16 : Int)).toNat 1) := (hI.2 10 d10 _ rfl).2
   have f11 : ux20 11 = (ptr b3 (0 + 18)) := (hI.2 11 d11 _ rfl).2
   have f12 : ux20 12 = v2_1 := (hI.2 12 d12 _ rfl).2
   have f13 : ux20 13 = (vI (p2.Label.length : Int)) := (hI.2 13 d13 _ rfl).2
   have f14 : ux20 14 = (vB (Zx (p2.Label.length : Int))) := (hI.2 14 d14 _ rfl).2
   have f16 : ux20 16 = (ptr b3 (0 + 18)) := (hI.2 16 d16 _ rfl).2
   have f17 : ux20 17 = v2_1 := (hI.2 17 d17 _ rfl).2
   have f18 : ux20 18 = (ptr b3 (0 + 19)) := (hI.2 18 d18 _ rfl).2
   have f19 : ux20 19 = v2_2 := (hI.2 19 d19 _ rfl).2
   have hM := hM.sure (pre := [_, _, _, _, _]) d4
   have hM := hM.sure (pre := [_, _, _, _, _, _]) d8
   have hM := hM.sure (pre := [_, _, _, _, _, _, _]) d15
   have hM := (hM.sure (pre := [_, _, _, _, _, _, _, _]) d20).pull
   obtain ⟨b33, f34, hM⟩ := M.litOpen hM
   have hE := hE.sub (e' := [(17, v0_1), (18, (Value.agg (Flat.enc x13).toArray)), (19, (ptr b3 (0 + 0))), (20, (vI p2.Number)), (21, (ux20 4)), (22, (ptr b3 (0 + 1))), (23, (vI p2.Version)), (24, (vB (Zx p2.Version))), (25, (ux20 8)), (26, (ptr b3 (0 + 2))), (27, (ZN (.slice (some ⟨b3, 0 + 2, none⟩) 16 16) ((0 : Int)).toNat ((16 : Int)).toNat 1)), (28, (ptr b3 (0 + 18))), (29, v2_1), (30, (vI (p2.Label.length : Int))), (31, (vB (Zx (p2.Label.length : Int)))), (32, (ux20 15)), (33, (ptr b3 (0 + 18))), (34, v2_1), (35, (ptr b3 (0 + 19))), (36, v2_2), (37, (Value.slice (some ⟨b33, 0, none⟩) 6 6)), (0, v0_1), (1, (Value.agg (cat [[v1_1], [(vI p1.Next)], [v1_2], [v1_3], Flat.enc p1.Head]).toArray)), (2, (Value.agg (cat [[(vI p2.Number)], [(vI p2.Version)], Flat.enc p2.Nonce, [v2_1], [v2_2], Flat.enc p2.Tag]).toArray)), (4, (ptr b1 0)), (5, (ptr b3 0)), (6, (ptr b5 0)), (7, (ptr b15 0)), (8, (ptr b1 (0 + 0))), (9, v1_1), (10, (ptr b3 (0 + 1))), (11, (vI p2.Version)), (12, (ptr (sb v1_1) (so v1_1 + (p2.Version).toNat * 16))), (13, (Value.agg (Flat.enc x7).toArray)), (14, u12), (15, (ptr (sb u12) (so u12))), (16, (Value.agg (Flat.enc x13).toArray))]) ⟨lk rfl f0, lk rfl f1, lk rfl f2, lk rfl f3, rfl, lk rfl f5, lk rfl f6, lk rfl f7, rfl, lk rfl f9, lk rfl f10, lk rfl f11, lk rfl f12, lk rfl f13, lk rfl f14, rfl, lk rfl f16, lk rfl f17, lk rfl f18, lk rfl f19, lk rfl f34, rfl, rfl, rfl, rfl, rfl, rfl, rfl, rfl, rfl, rfl, rfl, rfl, rfl, rfl, rfl, rfl, trivial⟩
   obtain ⟨r35, e36, hl18⟩ := bind_some hl18
   refine Zs (vs := [v0_1, (Value.agg (Flat.enc x13).toArray), (Value.slice (some ⟨b33, 0, none⟩) 6 6)]) hE Za (dl rfl) rfl cb140 (c_impl_engine_tag _ p0 v0_1 (hM.rdo hv0_1) x13 ([r21, ([Zx p2.Version] : List UInt8), l26, ([Zx (p2.Label.length : Int)] : List UInt8), p2.Label, p2.Body] : (List (List UInt8))) (Value.slice (some ⟨b33, 0, none⟩) 6 6) (ro_lit (hM.rawAt (pre := [])) (hM.rawLt (pre := [])) ⟨(hM.sl (pre := [_, _, _, _, _, _]) noB), (hM.sl (pre := [_, _, _, _, _, _, _]) noB), (W5 (At.sat (At.cat (pre := [[(vI p2.Number)], [(vI p2.Version)]]) (hM.rawAt (pre := [_, _, _, _])) (cl1 (n := 1) (m := 1) rfl (cl1 (n := 1) (m := 0) rfl cl0))) (by simp) (by decide)) e27), (hM.sl (pre := [_, _, _, _, _, _, _, _]) noB), (hM.rdo hv2_1), (hM.rdo hv2_2), trivial⟩ rfl) r35 e36) ?_
   rintro v w a ⟨rfl, hK⟩ hE
   have hM := hM.keep hK
   have hM := hM.pull (pre := [_, _, _])
   refine Zp (seg := Flat.enc r35) (cs' := Flat.enc r35) hE hM Za rfl rfl rfl Z9 (Flat.len _) (zle flq) (Flat.cell _) (Zl flq) ?_; intro w a hM hE
   refine Zk ?_
   have ht37 := Option.some.inj hl18
   subst ht37
   refine Zn ?_
   have hM := M.fst (l := [_]) hM
   exact ⟨hE.sub ⟨rfl, trivial⟩, hM⟩
 ·skip
  rintro a w ⟨hE, hM⟩
  have hr := Option.some.inj hF19
  subst hr
  have hq38 : Yq Tryz.prog _ _ (.cell 6 29) _ := ZQ hE rfl Z9 rfl (hM.rawAt (pre := [])) (Flat.len _) rfl
  have hM := M.fst (l := []) hM
  exact wp_ret (Zy hE rfl hq38 ⟨_, rfl, rfl, hM.kept⟩)
noncomputable def X4 (p0 : GVault) (p1 : Int) : Option ((Vector UInt8 32) × Int) :=
 (We p0 p1).bind fun r5 => if (r5.2 != 0) = true then (some ((Vector.replicate 32 (0 : UInt8)), r5.2)) else (((X8).bind fun r13 => (idx p0.Records r5.1).bind fun x16 => (XL r13 p0 x16).bind fun r26 => some r26 : Option ((Vector UInt8 32))).bind fun j9 => some (j9, 0))
theorem c_impl_TagOfRecord (w0 : World) (p0 : GVault) (v0_1 : Value) (hv0_1 : Ro w0 p0.Keys [v0_1]) (v0_2 : Value) (hv0_2 : Ro w0 p0.Records [v0_2]) (v0_3 : Value) (hv0_3 : Ro w0 p0.Events [v0_3]) (p1 : Int) (r : (Vector UInt8 32) × Int) (hF : X4 p0 p1 = some r) :
  Calls Tryz.prog 15 [(Value.agg (cat [[v0_1], [(vI p0.Next)], [v0_2], [v0_3], Flat.enc p0.Head]).toArray), (vI p1)].toArray w0 (fun en w' => ∃ v, en = .returned v ∧ (v = (Value.tuple [(Value.agg (Flat.enc r.1).toArray), (vI r.2)].toArray) ∧ Kept (Old w0) w0 w')) := by
 refine ZA (n := 26) Tryz.func15 rfl rfl (Nat.le_of_ble_eq_true rfl) rfl ?_
 intro a hE
 have hM := M.start w0
 unfold X4 at hF
 refine Zc (ZV (cs := cat [[v0_1], [(vI p0.Next)], [v0_2], [v0_3], Flat.enc p0.Head]) hE hM Za (dl rfl) rfl rfl ?_); intro b1 w a hM hE
 refine ZE hE hM Za (dl rfl) Z9 ?_; intro b3 w a hM hE
 refine Ze hE Za (dl rfl) rfl ?_; intro a hE
 refine Zf (Zc (Zm (cs := cat [[v0_1], [(vI p0.Next)], [v0_2], [v0_3], Flat.enc p0.Head]) hE Za (dl rfl) rfl ty36 rfl (hM.rawAt (pre := [_])) (ZB (cl1 (n := 1) (m := 35) rfl (cl1 (n := 1) (m := 34) rfl (cl1 (n := 1) (m := 33) rfl (cl1 (n := 1) (m := 32) rfl (cl1 (n := 32) (m := 0) (Flat.len _) cl0)))))) ?_)); intro a hE
 refine Zd hE Za (dl rfl) rfl ?_; intro a hE
 obtain ⟨r5, e6, hF⟩ := bind_some hF
 refine Zs (vs := [(Value.agg (cat [[v0_1], [(vI p0.Next)], [v0_2], [v0_3], Flat.enc p0.Head]).toArray), (vI p1)]) hE Za (dl rfl) rfl cb59 (c_impl_checkRecord _ p0 v0_1 (hM.rdo hv0_1) v0_2 (hM.rdo hv0_2) v0_3 (hM.rdo hv0_3) p1 r5 e6) ?_
 rintro v w a ⟨rfl, hK⟩ hE
 have hM := hM.keep hK
 refine Zd hE Za (dl rfl) rfl ?_; intro a hE
 refine VN hE Za (dl rfl) rfl rfl ?_; intro a hE
 refine VN hE Za (dl rfl) rfl rfl ?_; intro a hE
 refine Ze hE Za (dl rfl) rfl ?_; intro a hE
 refine Ze hE Za (dl rfl) rfl ?_; intro a hE
 refine Zf (wp_seq (Zc (Zd hE Za (dl rfl) rfl ?_))); intro a hE
 refine Zh hE Za (dl rfl) rfl rfl rfl ?_; intro a hE
 refine Zf ?_
 refine Zw hE rfl ?_ ?_
 ·intro hb7
  have hF := ZD hF hb7
  refine Zc (YO (parts := []) (vs := []) (cs := Flat.enc (Vector.replicate 32 (0 : UInt8))) hE Za (dl rfl) rfl rfl Z9 rfl ty5 Yw ?_); intro a hE
  refine Zd hE Za (dl rfl) rfl ?_; intro a hE
  refine Zp (seg := Flat.enc (Vector.replicate 32 (0 : UInt8))) (cs' := Flat.enc (Vector.replicate 32 (0 : UInt8))) hE hM Za rfl rfl rfl Z9 (Flat.len _) (zle flq) (Flat.cell _) (Zl flq) ?_; intro w a hM hE
  refine Ze hE Za (dl rfl) rfl ?_; intro a hE
  refine Zf ?_
  have hr := Option.some.inj hF
  subst hr
  have hq8 : Yq Tryz.prog _ _ (.cell 4 29) _ := ZQ hE rfl Z9 rfl (hM.rawAt (pre := [])) (Flat.len _) rfl
  have hM := M.fst (l := []) hM
  exact wp_ret (ZG (k_ret2 hE rfl hq8 (Zu hE rfl) ⟨_, rfl, rfl, hM.kept⟩))
 ·intro hb7
  have hF := ZC hF hb7
  refine wp_skip (Zz ?_)
  obtain ⟨j9, hl10, hF11⟩ := bind_some hF
  refine ZR (fun a w => Env 26 a [(4, (ptr b3 0)), (5, (vI 0))] ∧ M (Old w0) w0 w [raw b3 (Flat.enc j9)]) ?_ ?_
  ·skip
   obtain ⟨r13, e14, hl10⟩ := bind_some hl10
   obtain ⟨x16, e17, hl10⟩ := bind_some hl10
   have hi18 := ZY e17
   obtain ⟨cs19, hs20, hA21⟩ := Uf hv0_2 hi18.2 -- ^
   obtain ⟨u22, u24, rfl, h23, h25⟩ := X2 hs20 -- ^
   refine c_draw2 (n := 26) (hd := [_, _, _, _, _, _, _]) (tl := [_, _, _]) (its := [raw b3 (Flat.enc (Vector.replicate 32 (0 : UInt8))), raw b1 (cat [[v0_1], [(vI p0.Next)], [v0_2], [v0_3], Flat.enc p0.Head])]) YU rfl rfl [18, 19, 20, 21, 22, 23, 24] (by decide) [(0, fun v => own NoB (r13 : (Ref Gengine)) [v])] rfl (fun j => ([fun v => True, fun v => v = (Value.agg (cat [[v0_1], [(vI p0.Next)], [v0_2], [v0_3], Flat.enc p0.Head]).toArray), fun v => v = (ptr b1 (0 + 2)), fun v => v = v0_2, fun v => v = (vI r5.1), fun v => v = (ptr (sb v0_2) (so v0_2 + (r5.1).toNat * 52)), fun v => v = (Value.agg (cat [[(vI x16.Number)], [(vI x16.Version)], Flat.enc x16.Nonce, [u22], [u24], Flat.enc x16.Tag]).toArray)] : List (Value → Prop)).getD j (fun _ => True)) hE hM.drew (ZM (Zb ?_ (Zb ?_ (Zb ?_ (Zb ?_ (Zb ?_ (Zb ?_ (Zb ?_ ZH)))))))) ?_
   ·intro a w ux12 D hE hM hD hp
    have hM0 := hM
    have hM : M (Old w0) w0 w [raw b3 (Flat.enc (Vector.replicate 32 (0 : UInt8))), raw b1 (cat [[v0_1], [(vI p0.Next)], [v0_2], [v0_3], Flat.enc p0.Head]), opt (D 0) (own NoB (r13 : (Ref Gengine)) [(ux12 0)])] := hM
    refine Zs (vs := []) hE Za (dl rfl) rfl cb60 (c_impl_vaultEngine _  r13 e14) ?_
    rintro _ w a ⟨_, rfl, hFr, hK⟩ hE
    have hM := hM0.add hK hFr
    exact ⟨_, _, rfl, hE, trivial, M.optFill (mk1 := []) (mk2 := []) (f := (fun v => own NoB (r13 : (Ref Gengine)) [v])) hM rfl hD⟩
   ·intro a w ux12 D hE hM hD hp
    have hM0 := hM
    have hM : M (Old w0) w0 w [raw b3 (Flat.enc (Vector.replicate 32 (0 : UInt8))), raw b1 (cat [[v0_1], [(vI p0.Next)], [v0_2], [v0_3], Flat.enc p0.Head]), opt (D 0) (own NoB (r13 : (Ref Gengine)) [(ux12 0)])] := hM
    refine Zm (cs := cat [[v0_1], [(vI p0.Next)], [v0_2], [v0_3], Flat.enc p0.Head]) hE Za (dl rfl) rfl ty36 rfl (hM.rawAt (pre := [_])) (ZB (cl1 (n := 1) (m := 35) rfl (cl1 (n := 1) (m := 34) rfl (cl1 (n := 1) (m := 33) rfl (cl1 (n := 1) (m := 32) rfl (cl1 (n := 32) (m := 0) (Flat.len _) cl0)))))) ?_; intro a hE
    exact ⟨_, _, rfl, hE, rfl, hM0.optKeep rfl⟩
   ·intro a w ux12 D hE hM hD hp
    have hM0 := hM
    refine Zg hE Za (dl rfl) rfl (U8) ?_; intro a hE
    exact ⟨_, _, rfl, hE, rfl, hM0.optKeep rfl⟩
   ·intro a w ux12 D hE hM hD hp
    have f2 : ux12 2 = (ptr b1 (0 + 2)) := (hp 0 _ rfl rfl).2
    have hM0 := hM
    have hM : M (Old w0) w0 w [raw b3 (Flat.enc (Vector.replicate 32 (0 : UInt8))), raw b1 (cat [[v0_1], [(vI p0.Next)], [v0_2], [v0_3], Flat.enc p0.Head]), opt (D 0) (own NoB (r13 : (Ref Gengine)) [(ux12 0)])] := hM
    refine Zq (v := v0_2) hE Za (dl rfl) (lk rfl f2) ty33 rfl (At.cat (pre := [[v0_1], [(vI p0.Next)]]) (hM.rawAt (pre := [_])) (cl1 (n := 1) (m := 1) rfl (cl1 (n := 1) (m := 0) rfl cl0))) ?_; intro a hE
    exact ⟨_, _, rfl, hE, rfl, hM0.optKeep rfl⟩
   ·intro a w ux12 D hE hM hD hp
    have hM0 := hM
    refine Zd hE Za (dl rfl) rfl ?_; intro a hE
    exact ⟨_, _, rfl, hE, rfl, hM0.optKeep rfl⟩
   ·intro a w ux12 D hE hM hD hp
    have f3 : ux12 3 = v0_2 := (hp 0 _ rfl rfl).2
    have f4 : ux12 4 = (vI r5.1) := (hp 1 _ rfl rfl).2
    have hM0 := hM
    have hM : M (Old w0) w0 w [raw b3 (Flat.enc (Vector.replicate 32 (0 : UInt8))), raw b1 (cat [[v0_1], [(vI p0.Next)], [v0_2], [v0_3], Flat.enc p0.Head]), opt (D 0) (own NoB (r13 : (Ref Gengine)) [(ux12 0)])] := hM
    refine ZX hE Za (dl rfl) (lk rfl f3) (lk rfl f4) Tryz.underlying33 Ug (hM.rd hv0_2) hi18.1 ?_; intro a hE
    exact ⟨_, _, rfl, hE, rfl, hM0.optKeep rfl⟩
   ·intro a w ux12 D hE hM hD hp
    have f5 : ux12 5 = (ptr (sb v0_2) (so v0_2 + (r5.1).toNat * 52)) := (hp 0 _ rfl rfl).2
    have hM0 := hM
    have hM : M (Old w0) w0 w [raw b3 (Flat.enc (Vector.replicate 32 (0 : UInt8))), raw b1 (cat [[v0_1], [(vI p0.Next)], [v0_2], [v0_3], Flat.enc p0.Head]), opt (D 0) (own NoB (r13 : (Ref Gengine)) [(ux12 0)])] := hM
    refine Zm (cs := cat [[(vI x16.Number)], [(vI x16.Version)], Flat.enc x16.Nonce, [u22], [u24], Flat.enc x16.Tag]) hE Za (dl rfl) (lk rfl f5) Ug rfl (hM.atk hA21 (sl_blk hv0_2 hi18.2)) (ZB (cl1 (n := 1) (m := 51) rfl (cl1 (n := 1) (m := 50) rfl (cl1 (n := 16) (m := 34) (Flat.len _) (cl1 (n := 1) (m := 33) rfl (cl1 (n := 1) (m := 32) rfl (cl1 (n := 32) (m := 0) (Flat.len _) cl0))))))) ?_; intro a hE
    exact ⟨_, _, rfl, hE, rfl, hM0.optKeep rfl⟩
   ·intro a w ux12 hE hM hg
    have f1 : ux12 1 = (Value.agg (cat [[v0_1], [(vI p0.Next)], [v0_2], [v0_3], Flat.enc p0.Head]).toArray) := hg 1 (by decide)
    have f2 : ux12 2 = (ptr b1 (0 + 2)) := hg 2 (by decide)
    have f3 : ux12 3 = v0_2 := hg 3 (by decide)
    have f4 : ux12 4 = (vI r5.1) := hg 4 (by decide)
    have f5 : ux12 5 = (ptr (sb v0_2) (so v0_2 + (r5.1).toNat * 52)) := hg 5 (by decide)
    have f6 : ux12 6 = (Value.agg (cat [[(vI x16.Number)], [(vI x16.Version)], Flat.enc x16.Nonce, [u22], [u24], Flat.enc x16.Tag]).toArray) := hg 6 (by decide)
    have hM : M (Old w0) w0 w [raw b3 (Flat.enc (Vector.replicate 32 (0 : UInt8))), raw b1 (cat [[v0_1], [(vI p0.Next)], [v0_2], [v0_3], Flat.enc p0.Head]), own NoB (r13 : (Ref Gengine)) [(ux12 0)]] := hM
    have hE := hE.sub (e' := [(18, (ux12 0)), (19, (Value.agg (cat [[v0_1], [(vI p0.Next)], [v0_2], [v0_3], Flat.enc p0.Head]).toArray)), (20, (ptr b1 (0 + 2))), (21, v0_2), (22, (vI r5.1)), (23, (ptr (sb v0_2) (so v0_2 + (r5.1).toNat * 52))), (24, (Value.agg (cat [[(vI x16.Number)], [(vI x16.Version)], Flat.enc x16.Nonce, [u22], [u24], Flat.enc x16.Tag]).toArray)), (0, (Value.agg (cat [[v0_1], [(vI p0.Next)], [v0_2], [v0_3], Flat.enc p0.Head]).toArray)), (1, (vI p1)), (2, (ptr b1 0)), (4, (ptr b3 0)), (5, (vI 0)), (6, (vI r5.1)), (7, (vI r5.2)), (8, (Value.tuple [(vI r5.1), (vI r5.2)].toArray)), (9, (Value.agg (cat [[v0_1], [(vI p0.Next)], [v0_2], [v0_3], Flat.enc p0.Head]).toArray)), (10, (vI p1)), (11, (Value.tuple [(vI r5.1), (vI r5.2)].toArray)), (12, (vI r5.1)), (13, (vI r5.2)), (14, (vI r5.2)), (15, (vT (r5.2 != 0)))]) ⟨rfl, lk rfl f1, lk rfl f2, lk rfl f3, lk rfl f4, lk rfl f5, lk rfl f6, rfl, rfl, rfl, rfl, rfl, rfl, rfl, rfl, rfl, rfl, rfl, rfl, rfl, rfl, rfl, trivial⟩
    obtain ⟨r26, e27, hl10⟩ := bind_some hl10
    refine Zs (vs := [(ux12 0), (Value.agg (cat [[v0_1], [(vI p0.Next)], [v0_2], [v0_3], Flat.enc p0.Head]).toArray), (Value.agg (cat [[(vI x16.Number)], [(vI x16.Version)], Flat.enc x16.Nonce, [u22], [u24], Flat.enc x16.Tag]).toArray)]) hE Za (dl rfl) rfl cb61 (c_impl_engine_tagOf _ r13 (ux12 0) (hM.ro (pre := [_, _]) noB) p0 v0_1 (hM.rdo hv0_1) v0_2 (hM.rdo hv0_2) v0_3 (hM.rdo hv0_3) x16 u22 (hM.rdo h23) u24 (hM.rdo h25) r26 e27) ?_
    rintro v w a ⟨rfl, hK⟩ hE
    have hM := hM.keep hK
    refine Zp (seg := Flat.enc r26) (cs' := Flat.enc r26) hE hM Za rfl rfl rfl Z9 (Flat.len _) (zle flq) (Flat.cell _) (Zl flq) ?_; intro w a hM hE
    refine Ze hE Za (dl rfl) rfl ?_; intro a hE
    refine Zk ?_
    have ht28 := Option.some.inj hl10
    subst ht28
    refine Zn ?_
    have hM := M.fst (l := [_]) hM
    exact ⟨hE.sub ⟨rfl, rfl, trivial⟩, hM⟩
  ·skip
   rintro a w ⟨hE, hM⟩
   have hr := Option.some.inj hF11
   subst hr
   have hq29 : Yq Tryz.prog _ _ (.cell 4 29) _ := ZQ hE rfl Z9 rfl (hM.rawAt (pre := [])) (Flat.len _) rfl
   have hM := M.fst (l := []) hM
   exact wp_ret (k_ret2 hE rfl hq29 (Zu hE rfl) ⟨_, rfl, rfl, hM.kept⟩)
noncomputable def Us (p0 : (Vector UInt8 32)) (p1 : (Vector UInt8 32)) (s9 : Int) : Option (Fl Int (Fl Unit Bool)) :=
 if (decide (s9 < 32)) = true then (((ZK p0 s9).bind fun x19 => (ZK p1 s9).bind fun x22 => some (x19 != x22) : Option (Bool)).bind fun j14 => if j14 = true then (some (Fl.ex (Fl.ex false))) else (some (Fl.nx (wr (s9 + 1))))) else (some (Fl.ex (Fl.nx ())))
noncomputable def Xa (p0 : (Vector UInt8 32)) (p1 : (Vector UInt8 32)) : Option (Bool) :=
 (ZJ (Us p0 p1) 0 : Option (Fl Unit Bool)).bind fun j5 => j5.el (fun s8 => some true) (fun r => some r)
theorem UG (w0 : World) (p0 : (Vector UInt8 32)) (p1 : (Vector UInt8 32)) (r : Bool) (hF : Xa p0 p1 = some r) :
  Calls Tryz.prog 16 [(Value.agg (Flat.enc p0).toArray), (Value.agg (Flat.enc p1).toArray)].toArray w0 (fun en w' => ∃ v, en = .returned v ∧ (v = (vT r) ∧ Kept (Old w0) w0 w')) := by
 refine ZA (n := 17) Tryz.func16 rfl rfl (Nat.le_of_ble_eq_true rfl) rfl ?_
 intro a hE
 have hM := M.start w0
 unfold Xa at hF
 refine Zc (ZV (cs := Flat.enc p0) hE hM Za (dl rfl) rfl rfl ?_); intro b1 w a hM hE
 refine ZV (cs := Flat.enc p1) hE hM Za (dl rfl) rfl rfl ?_; intro b3 w a hM hE
 refine Ze hE Za (dl rfl) rfl ?_; intro a hE
 refine Zf (wp_seq (Zc (Ze hE Za (dl rfl) rfl ?_))); intro a hE
 refine Zf ?_
 obtain ⟨j5, hl6, hF7⟩ := bind_some hF
 refine ZS (fun a w => ∃ s8 : Unit, j5 = Fl.nx s8 ∧ Env 17 a [] ∧ M (Old w0) w0 w []) ?_ ?_
 ·skip
  refine wp_block ?_
  refine ZL (fun (s9 : Int) a w => Env 17 a [(2, (ptr b1 0)), (3, (ptr b3 0)), (5, (vI s9))] ∧ M (Old w0) w0 w [raw b3 (Flat.enc p1), raw b1 (Flat.enc p0)]) hl6 ⟨hE.sub ⟨rfl, rfl, rfl, trivial⟩, hM⟩ ?_
  rintro s9 a w ⟨hE, hM⟩ o12 hs10 hx11
  unfold Us at hs10
  refine wp_seq (Zc (Zd hE Za (dl rfl) rfl ?_)); intro a hE
  refine Zh hE Za (dl rfl) rfl rfl rfl ?_; intro a hE
  refine Zf ?_
  refine Zw hE rfl ?_ ?_
  ·intro hb13
   have hs10 := ZD hs10 hb13
   refine wp_skip (Zz (wp_seq (wp_block ?_)))
   obtain ⟨j14, hl15, hF16⟩ := bind_some hs10
   refine ZR (fun a w => Env 17 a [(2, (ptr b1 0)), (3, (ptr b3 0)), (5, (vI s9)), (16, (vT j14))] ∧ M (Old w0) w0 w [raw b3 (Flat.enc p1), raw b1 (Flat.enc p0)]) ?_ ?_
   ·skip
    obtain ⟨x19, e20, hl15⟩ := bind_some hl15
    have hi18 := Zi e20
    obtain ⟨x22, e23, hl15⟩ := bind_some hl15
    have hi21 := Zi e23
    refine Yo (n := 17) (hd := [_, _, _, _, _, _, _]) (tl := []) YU rfl rfl [10, 11, 12, 13, 14, 15, 16] (by decide) (fun w => M (Old w0) w0 w [raw b3 (Flat.enc p1), raw b1 (Flat.enc p0)]) (fun j => ([fun v _ => v = (vI s9), fun v _ => v = (ptr b1 (0 + (s9).toNat * 1)), fun v _ => v = (vB x19), fun v _ => v = (vI s9), fun v _ => v = (ptr b3 (0 + (s9).toNat * 1)), fun v _ => v = (vB x22), fun v _ => v = (vT (x19 != x22))] : List (Value → World → Prop)).getD j (fun _ _ => True)) (fun _ _ h hk => h.keep hk) (gup (Zj (Zj (Zj (Zj (Zj (Zj (Zj Vq)))))))) hE hM.drew (ZM (Zb ?_ (Zb ?_ (Zb ?_ (Zb ?_ (Zb ?_ (Zb ?_ (Zb ?_ ZH)))))))) ?_
    ·intro a w ux17 hE hM hp
     refine Zd hE Za (dl rfl) rfl ?_; intro a hE
     exact ⟨Kept.refl _ _, _, _, rfl, hE, rfl⟩
    ·intro a w ux17 hE hM hp
     have f0 : ux17 0 = (vI s9) := hp 0 _ rfl rfl
     refine Zo hE Za (dl rfl) rfl (lk rfl f0) Tryz.underlying29 ty5 hi18.1 ?_; intro a hE
     exact ⟨Kept.refl _ _, _, _, rfl, hE, rfl⟩
    ·intro a w ux17 hE hM hp
     have f1 : ux17 1 = (ptr b1 (0 + (s9).toNat * 1)) := hp 0 _ rfl rfl
     refine Zq (v := (vB x19)) hE Za (dl rfl) (lk rfl f1) ty5 rfl (At.vec (hM.rawAt (pre := [_])) hi18.2) ?_; intro a hE
     exact ⟨Kept.refl _ _, _, _, rfl, hE, rfl⟩
    ·intro a w ux17 hE hM hp
     refine Zd hE Za (dl rfl) rfl ?_; intro a hE
     exact ⟨Kept.refl _ _, _, _, rfl, hE, rfl⟩
    ·intro a w ux17 hE hM hp
     have f3 : ux17 3 = (vI s9) := hp 0 _ rfl rfl
     refine Zo hE Za (dl rfl) rfl (lk rfl f3) Tryz.underlying29 ty5 hi21.1 ?_; intro a hE
     exact ⟨Kept.refl _ _, _, _, rfl, hE, rfl⟩
    ·intro a w ux17 hE hM hp
     have f4 : ux17 4 = (ptr b3 (0 + (s9).toNat * 1)) := hp 0 _ rfl rfl
     refine Zq (v := (vB x22)) hE Za (dl rfl) (lk rfl f4) ty5 rfl (At.vec (hM.rawAt (pre := [])) hi21.2) ?_; intro a hE
     exact ⟨Kept.refl _ _, _, _, rfl, hE, rfl⟩
    ·intro a w ux17 hE hM hp
     have f2 : ux17 2 = (vB x19) := hp 0 _ rfl rfl
     have f5 : ux17 5 = (vB x22) := hp 1 _ rfl rfl
     refine Zh hE Za (dl rfl) (lk rfl f2) (lk rfl f5) (bB_neq x19 x22) ?_; intro a hE
     exact ⟨Kept.refl _ _, _, _, rfl, hE, rfl⟩
    ·intro a w ux17 hE hM hg
     have f0 : ux17 0 = (vI s9) := hg 0 (by decide)
     have f1 : ux17 1 = (ptr b1 (0 + (s9).toNat * 1)) := hg 1 (by decide)
     have f2 : ux17 2 = (vB x19) := hg 2 (by decide)
     have f3 : ux17 3 = (vI s9) := hg 3 (by decide)
     have f4 : ux17 4 = (ptr b3 (0 + (s9).toNat * 1)) := hg 4 (by decide)
     have f5 : ux17 5 = (vB x22) := hg 5 (by decide)
     have f6 : ux17 6 = (vT (x19 != x22)) := hg 6 (by decide)
     have hE := hE.sub (e' := [(10, (vI s9)), (11, (ptr b1 (0 + (s9).toNat * 1))), (12, (vB x19)), (13, (vI s9)), (14, (ptr b3 (0 + (s9).toNat * 1))), (15, (vB x22)), (16, (vT (x19 != x22))), (2, (ptr b1 0)), (3, (ptr b3 0)), (5, (vI s9)), (6, (vI s9)), (7, (vT (decide (s9 < 32))))]) ⟨lk rfl f0, lk rfl f1, lk rfl f2, lk rfl f3, lk rfl f4, lk rfl f5, lk rfl f6, rfl, rfl, rfl, rfl, rfl, trivial⟩
     refine Zk ?_
     have ht24 := Option.some.inj hl15
     subst ht24
     refine Zn ?_
     exact ⟨hE.sub ⟨rfl, rfl, rfl, rfl, trivial⟩, hM⟩
   ·skip
    rintro a w ⟨hE, hM⟩
    refine Zw hE rfl ?_ ?_
    ·intro hb25
     have hF16 := ZD hF16 hb25
     refine Zc (Ze hE Za (dl rfl) rfl ?_); intro a hE
     refine Zf ?_
     have ht26 := hx11 _ (Option.some.inj hF16).symm
     subst ht26
     have hr := Option.some.inj hF7
     subst hr
     have hM := M.fst (l := []) hM
     exact wp_ret (Wg (ZG (ZG (Wg (ZG (ZG (Zy hE rfl (Zu hE rfl) ⟨_, rfl, rfl, hM.kept⟩)))))))
    ·intro hb25
     have hF16 := ZC hF16 hb25
     refine wp_skip (Yl (Zz (wp_region_lit (Zd hE Za (dl rfl) rfl ?_)))); intro a hE
     refine Zh hE Za (dl rfl) rfl rfl rfl ?_; intro a hE
     refine Ze hE Za (dl rfl) rfl ?_; intro a hE
     refine Zk (Zn ?_)
     exact ⟨_, (Option.some.inj hF16).symm, hE.sub ⟨rfl, rfl, rfl, trivial⟩, hM⟩
  ·intro hb13
   have hs10 := ZC hs10 hb13
   refine wp_exit (Zr (Zr (Yk ?_)))
   have ht27 := hx11 _ (Option.some.inj hs10).symm
   subst ht27
   refine Zn ?_
   have hM := M.fst (l := []) hM
   exact ⟨(), rfl, hE.sub trivial, hM⟩
 ·skip
  rintro a w ⟨s8, ht, hE, hM⟩
  subst ht
  have hF7 := el_nx hF7
  refine Zz (Zc (Ze hE Za (dl rfl) rfl ?_)); intro a hE
  refine Zf ?_
  have hr := Option.some.inj hF7
  subst hr
  exact wp_ret (Zy hE rfl (Zu hE rfl) ⟨_, rfl, rfl, hM.kept⟩)
noncomputable def UJ (p0 : (Vector UInt8 16)) (p1 : (Vector UInt8 16)) (s9 : Int) : Option (Fl Int (Fl Unit Bool)) :=
 if (decide (s9 < 16)) = true then (((ZK p0 s9).bind fun x19 => (ZK p1 s9).bind fun x22 => some (x19 != x22) : Option (Bool)).bind fun j14 => if j14 = true then (some (Fl.ex (Fl.ex false))) else (some (Fl.nx (wr (s9 + 1))))) else (some (Fl.ex (Fl.nx ())))
noncomputable def X0 (p0 : (Vector UInt8 16)) (p1 : (Vector UInt8 16)) : Option (Bool) :=
 (ZJ (UJ p0 p1) 0 : Option (Fl Unit Bool)).bind fun j5 => j5.el (fun s8 => some true) (fun r => some r)
theorem c_laws_eqBlock (w0 : World) (p0 : (Vector UInt8 16)) (p1 : (Vector UInt8 16)) (r : Bool) (hF : X0 p0 p1 = some r) :
  Calls Tryz.prog 142 [(Value.agg (Flat.enc p0).toArray), (Value.agg (Flat.enc p1).toArray)].toArray w0 (fun en w' => ∃ v, en = .returned v ∧ (v = (vT r) ∧ Kept (Old w0) w0 w')) := by
 refine ZA (n := 17) Tryz.func142 rfl rfl (Nat.le_of_ble_eq_true rfl) rfl ?_
 intro a hE
 have hM := M.start w0
 unfold X0 at hF
 refine Zc (ZV (cs := Flat.enc p0) hE hM Za (dl rfl) rfl rfl ?_); intro b1 w a hM hE
 refine ZV (cs := Flat.enc p1) hE hM Za (dl rfl) rfl rfl ?_; intro b3 w a hM hE
 refine Ze hE Za (dl rfl) rfl ?_; intro a hE
 refine Zf (wp_seq (Zc (Ze hE Za (dl rfl) rfl ?_))); intro a hE
 refine Zf ?_
 obtain ⟨j5, hl6, hF7⟩ := bind_some hF
 refine ZS (fun a w => ∃ s8 : Unit, j5 = Fl.nx s8 ∧ Env 17 a [] ∧ M (Old w0) w0 w []) ?_ ?_
 ·skip
  refine wp_block ?_
  refine ZL (fun (s9 : Int) a w => Env 17 a [(2, (ptr b1 0)), (3, (ptr b3 0)), (5, (vI s9))] ∧ M (Old w0) w0 w [raw b3 (Flat.enc p1), raw b1 (Flat.enc p0)]) hl6 ⟨hE.sub ⟨rfl, rfl, rfl, trivial⟩, hM⟩ ?_
  rintro s9 a w ⟨hE, hM⟩ o12 hs10 hx11
  unfold UJ at hs10
  refine wp_seq (Zc (Zd hE Za (dl rfl) rfl ?_)); intro a hE
  refine Zh hE Za (dl rfl) rfl rfl rfl ?_; intro a hE
  refine Zf ?_
  refine Zw hE rfl ?_ ?_
  ·intro hb13
   have hs10 := ZD hs10 hb13
   refine wp_skip (Zz (wp_seq (wp_block ?_)))
   obtain ⟨j14, hl15, hF16⟩ := bind_some hs10
   refine ZR (fun a w => Env 17 a [(2, (ptr b1 0)), (3, (ptr b3 0)), (5, (vI s9)), (16, (vT j14))] ∧ M (Old w0) w0 w [raw b3 (Flat.enc p1), raw b1 (Flat.enc p0)]) ?_ ?_
   ·skip
    obtain ⟨x19, e20, hl15⟩ := bind_some hl15
    have hi18 := Zi e20
    obtain ⟨x22, e23, hl15⟩ := bind_some hl15
    have hi21 := Zi e23
    refine Yo (n := 17) (hd := [_, _, _, _, _, _, _]) (tl := []) YU rfl rfl [10, 11, 12, 13, 14, 15, 16] (by decide) (fun w => M (Old w0) w0 w [raw b3 (Flat.enc p1), raw b1 (Flat.enc p0)]) (fun j => ([fun v _ => v = (vI s9), fun v _ => v = (ptr b1 (0 + (s9).toNat * 1)), fun v _ => v = (vB x19), fun v _ => v = (vI s9), fun v _ => v = (ptr b3 (0 + (s9).toNat * 1)), fun v _ => v = (vB x22), fun v _ => v = (vT (x19 != x22))] : List (Value → World → Prop)).getD j (fun _ _ => True)) (fun _ _ h hk => h.keep hk) (gup (Zj (Zj (Zj (Zj (Zj (Zj (Zj Vq)))))))) hE hM.drew (ZM (Zb ?_ (Zb ?_ (Zb ?_ (Zb ?_ (Zb ?_ (Zb ?_ (Zb ?_ ZH)))))))) ?_
    ·intro a w ux17 hE hM hp
     refine Zd hE Za (dl rfl) rfl ?_; intro a hE
     exact ⟨Kept.refl _ _, _, _, rfl, hE, rfl⟩
    ·intro a w ux17 hE hM hp
     have f0 : ux17 0 = (vI s9) := hp 0 _ rfl rfl
     refine Zo hE Za (dl rfl) rfl (lk rfl f0) Tryz.underlying70 ty5 hi18.1 ?_; intro a hE
     exact ⟨Kept.refl _ _, _, _, rfl, hE, rfl⟩
    ·intro a w ux17 hE hM hp
     have f1 : ux17 1 = (ptr b1 (0 + (s9).toNat * 1)) := hp 0 _ rfl rfl
     refine Zq (v := (vB x19)) hE Za (dl rfl) (lk rfl f1) ty5 rfl (At.vec (hM.rawAt (pre := [_])) hi18.2) ?_; intro a hE
     exact ⟨Kept.refl _ _, _, _, rfl, hE, rfl⟩
    ·intro a w ux17 hE hM hp
     refine Zd hE Za (dl rfl) rfl ?_; intro a hE
     exact ⟨Kept.refl _ _, _, _, rfl, hE, rfl⟩
    ·intro a w ux17 hE hM hp
     have f3 : ux17 3 = (vI s9) := hp 0 _ rfl rfl
     refine Zo hE Za (dl rfl) rfl (lk rfl f3) Tryz.underlying70 ty5 hi21.1 ?_; intro a hE
     exact ⟨Kept.refl _ _, _, _, rfl, hE, rfl⟩
    ·intro a w ux17 hE hM hp
     have f4 : ux17 4 = (ptr b3 (0 + (s9).toNat * 1)) := hp 0 _ rfl rfl
     refine Zq (v := (vB x22)) hE Za (dl rfl) (lk rfl f4) ty5 rfl (At.vec (hM.rawAt (pre := [])) hi21.2) ?_; intro a hE
     exact ⟨Kept.refl _ _, _, _, rfl, hE, rfl⟩
    ·intro a w ux17 hE hM hp
     have f2 : ux17 2 = (vB x19) := hp 0 _ rfl rfl
     have f5 : ux17 5 = (vB x22) := hp 1 _ rfl rfl
     refine Zh hE Za (dl rfl) (lk rfl f2) (lk rfl f5) (bB_neq x19 x22) ?_; intro a hE
     exact ⟨Kept.refl _ _, _, _, rfl, hE, rfl⟩
    ·intro a w ux17 hE hM hg
     have f0 : ux17 0 = (vI s9) := hg 0 (by decide)
     have f1 : ux17 1 = (ptr b1 (0 + (s9).toNat * 1)) := hg 1 (by decide)
     have f2 : ux17 2 = (vB x19) := hg 2 (by decide)
     have f3 : ux17 3 = (vI s9) := hg 3 (by decide)
     have f4 : ux17 4 = (ptr b3 (0 + (s9).toNat * 1)) := hg 4 (by decide)
     have f5 : ux17 5 = (vB x22) := hg 5 (by decide)
     have f6 : ux17 6 = (vT (x19 != x22)) := hg 6 (by decide)
     have hE := hE.sub (e' := [(10, (vI s9)), (11, (ptr b1 (0 + (s9).toNat * 1))), (12, (vB x19)), (13, (vI s9)), (14, (ptr b3 (0 + (s9).toNat * 1))), (15, (vB x22)), (16, (vT (x19 != x22))), (2, (ptr b1 0)), (3, (ptr b3 0)), (5, (vI s9)), (6, (vI s9)), (7, (vT (decide (s9 < 16))))]) ⟨lk rfl f0, lk rfl f1, lk rfl f2, lk rfl f3, lk rfl f4, lk rfl f5, lk rfl f6, rfl, rfl, rfl, rfl, rfl, trivial⟩
     refine Zk ?_
     have ht24 := Option.some.inj hl15
     subst ht24
     refine Zn ?_
     exact ⟨hE.sub ⟨rfl, rfl, rfl, rfl, trivial⟩, hM⟩
   ·skip
    rintro a w ⟨hE, hM⟩
    refine Zw hE rfl ?_ ?_
    ·intro hb25
     have hF16 := ZD hF16 hb25
     refine Zc (Ze hE Za (dl rfl) rfl ?_); intro a hE
     refine Zf ?_
     have ht26 := hx11 _ (Option.some.inj hF16).symm
     subst ht26
     have hr := Option.some.inj hF7
     subst hr
     have hM := M.fst (l := []) hM
     exact wp_ret (Wg (ZG (ZG (Wg (ZG (ZG (Zy hE rfl (Zu hE rfl) ⟨_, rfl, rfl, hM.kept⟩)))))))
    ·intro hb25
     have hF16 := ZC hF16 hb25
     refine wp_skip (Yl (Zz (wp_region_lit (Zd hE Za (dl rfl) rfl ?_)))); intro a hE
     refine Zh hE Za (dl rfl) rfl rfl rfl ?_; intro a hE
     refine Ze hE Za (dl rfl) rfl ?_; intro a hE
     refine Zk (Zn ?_)
     exact ⟨_, (Option.some.inj hF16).symm, hE.sub ⟨rfl, rfl, rfl, trivial⟩, hM⟩
  ·intro hb13
   have hs10 := ZC hs10 hb13
   refine wp_exit (Zr (Zr (Yk ?_)))
   have ht27 := hx11 _ (Option.some.inj hs10).symm
   subst ht27
   refine Zn ?_
   have hM := M.fst (l := []) hM
   exact ⟨(), rfl, hE.sub trivial, hM⟩
 ·skip
  rintro a w ⟨s8, ht, hE, hM⟩
  subst ht
  have hF7 := el_nx hF7
  refine Zz (Zc (Ze hE Za (dl rfl) rfl ?_)); intro a hE
  refine Zf ?_
  have hr := Option.some.inj hF7
  subst hr
  exact wp_ret (Zy hE rfl (Zu hE rfl) ⟨_, rfl, rfl, hM.kept⟩)
noncomputable def Ue (p0 : (List (Vector UInt8 16))) (p1 : (List (Vector UInt8 16))) (s6 : Int) : Option (Fl Int (Fl Unit Bool)) :=
 if (decide (s6 < (p0.length : Int))) = true then (((idx p0 s6).bind fun x15 => (idx p1 s6).bind fun x18 => (X0 x15 x18).bind fun r21 => some (!r21) : Option (Bool)).bind fun j11 => if j11 = true then (some (Fl.ex (Fl.ex false))) else (some (Fl.nx (wr (s6 + 1))))) else (some (Fl.ex (Fl.nx ())))
noncomputable def VB (p0 : (List (Vector UInt8 16))) (p1 : (List (Vector UInt8 16))) : Option (Bool) :=
 if ((p0.length : Int) != (p1.length : Int)) = true then (some false) else ((ZJ (Ue p0 p1) 0 : Option (Fl Unit Bool)).bind fun j2 => j2.el (fun s5 => some true) (fun r => some r))
theorem c_laws_eqBlockS (w0 : World) (p0 : (List (Vector UInt8 16))) (v0_1 : Value) (hv0_1 : Ro w0 p0 [v0_1]) (p1 : (List (Vector UInt8 16))) (v1_1 : Value) (hv1_1 : Ro w0 p1 [v1_1]) (r : Bool) (hF : VB p0 p1 = some r) :
  Calls Tryz.prog 62 [v0_1, v1_1].toArray w0 (fun en w' => ∃ v, en = .returned v ∧ (v = (vT r) ∧ Kept (Old w0) w0 w')) := by
 refine ZA (n := 27) Tryz.func62 rfl rfl (Nat.le_of_ble_eq_true rfl) rfl ?_
 intro a hE
 have hM := M.start w0
 unfold VB at hF
 refine Zc (Ze hE Za (dl rfl) rfl ?_); intro a hE
 refine Zf (wp_seq (Zc (Zd hE Za (dl rfl) rfl ?_))); intro a hE
 refine Yb hE Za (dl rfl) rfl Tryz.underlying32 (hM.rd hv0_1) ?_; intro a hE
 refine Zd hE Za (dl rfl) rfl ?_; intro a hE
 refine Yb hE Za (dl rfl) rfl Tryz.underlying32 (hM.rd hv1_1) ?_; intro a hE
 refine Zh hE Za (dl rfl) rfl rfl rfl ?_; intro a hE
 refine Zf ?_
 refine Zw hE rfl ?_ ?_
 ·intro hb1
  have hF := ZD hF hb1
  refine Zc (Ze hE Za (dl rfl) rfl ?_); intro a hE
  refine Zf ?_
  have hr := Option.some.inj hF
  subst hr
  exact wp_ret (ZG (Zy hE rfl (Zu hE rfl) ⟨_, rfl, rfl, hM.kept⟩))
 ·intro hb1
  have hF := ZC hF hb1
  refine wp_skip (Zz (wp_seq (Zc (Ze hE Za (dl rfl) rfl ?_)))); intro a hE
  refine Zf ?_
  obtain ⟨j2, hl3, hF4⟩ := bind_some hF
  refine ZS (fun a w => ∃ s5 : Unit, j2 = Fl.nx s5 ∧ Env 27 a [] ∧ M (Old w0) w0 w []) ?_ ?_
  ·skip
   refine wp_block ?_
   refine ZL (fun (s6 : Int) a w => Env 27 a [(0, v0_1), (1, v1_1), (5, (vI s6))] ∧ M (Old w0) w0 w []) hl3 ⟨hE.sub ⟨rfl, rfl, rfl, trivial⟩, hM⟩ ?_
   rintro s6 a w ⟨hE, hM⟩ o9 hs7 hx8
   unfold Ue at hs7
   refine wp_seq (Zc (Zd hE Za (dl rfl) rfl ?_)); intro a hE
   refine Zd hE Za (dl rfl) rfl ?_; intro a hE
   refine Yb hE Za (dl rfl) rfl Tryz.underlying32 (hM.rd hv0_1) ?_; intro a hE
   refine Zh hE Za (dl rfl) rfl rfl rfl ?_; intro a hE
   refine Zf ?_
   refine Zw hE rfl ?_ ?_
   ·intro hb10
    have hs7 := ZD hs7 hb10
    refine wp_skip (Zz (wp_seq (wp_block ?_)))
    obtain ⟨j11, hl12, hF13⟩ := bind_some hs7
    refine ZR (fun a w => Env 27 a [(0, v0_1), (1, v1_1), (5, (vI s6)), (26, (vT j11))] ∧ M (Old w0) w0 w []) ?_ ?_
    ·skip
     obtain ⟨x15, e16, hl12⟩ := bind_some hl12
     have hi17 := ZY e16
     obtain ⟨x18, e19, hl12⟩ := bind_some hl12
     have hi20 := ZY e19
     obtain ⟨r21, e22, hl12⟩ := bind_some hl12
     refine Yo (n := 27) (hd := [_, _, _, _, _, _, _, _, _, _]) (tl := []) YU rfl rfl [17, 18, 19, 20, 21, 22, 23, 24, 25, 26] (by decide) (fun w => M (Old w0) w0 w []) (fun j => ([fun v _ => v = v0_1, fun v _ => v = (vI s6), fun v _ => v = (ptr (sb v0_1) (so v0_1 + (s6).toNat * 16)), fun v _ => v = (Value.agg (Flat.enc x15).toArray), fun v _ => v = v1_1, fun v _ => v = (vI s6), fun v _ => v = (ptr (sb v1_1) (so v1_1 + (s6).toNat * 16)), fun v _ => v = (Value.agg (Flat.enc x18).toArray), fun v _ => v = (vT r21), fun v _ => v = (vT (!r21))] : List (Value → World → Prop)).getD j (fun _ _ => True)) (fun _ _ h hk => h.keep hk) (gup (Zj (Zj (Zj (Zj (Zj (Zj (Zj (Zj (Zj (Zj Vq))))))))))) hE hM.drew (ZM (Zb ?_ (Zb ?_ (Zb ?_ (Zb ?_ (Zb ?_ (Zb ?_ (Zb ?_ (Zb ?_ (Zb ?_ (Zb ?_ ZH))))))))))) ?_
     ·intro a w ux14 hE hM hp
      refine Zd hE Za (dl rfl) rfl ?_; intro a hE
      exact ⟨Kept.refl _ _, _, _, rfl, hE, rfl⟩
     ·intro a w ux14 hE hM hp
      refine Zd hE Za (dl rfl) rfl ?_; intro a hE
      exact ⟨Kept.refl _ _, _, _, rfl, hE, rfl⟩
     ·intro a w ux14 hE hM hp
      have f0 : ux14 0 = v0_1 := hp 0 _ rfl rfl
      have f1 : ux14 1 = (vI s6) := hp 1 _ rfl rfl
      refine ZX hE Za (dl rfl) (lk rfl f0) (lk rfl f1) Tryz.underlying32 ZF (hM.rd hv0_1) hi17.1 ?_; intro a hE
      exact ⟨Kept.refl _ _, _, _, rfl, hE, rfl⟩
     ·intro a w ux14 hE hM hp
      have f2 : ux14 2 = (ptr (sb v0_1) (so v0_1 + (s6).toNat * 16)) := hp 0 _ rfl rfl
      refine Zm (cs := Flat.enc x15) hE Za (dl rfl) (lk rfl f2) ZF rfl (Wh (hM.rd hv0_1) hi17.2) (Flat.len _) ?_; intro a hE
      exact ⟨Kept.refl _ _, _, _, rfl, hE, rfl⟩
     ·intro a w ux14 hE hM hp
      refine Zd hE Za (dl rfl) rfl ?_; intro a hE
      exact ⟨Kept.refl _ _, _, _, rfl, hE, rfl⟩
     ·intro a w ux14 hE hM hp
      refine Zd hE Za (dl rfl) rfl ?_; intro a hE
      exact ⟨Kept.refl _ _, _, _, rfl, hE, rfl⟩
     ·intro a w ux14 hE hM hp
      have f4 : ux14 4 = v1_1 := hp 0 _ rfl rfl
      have f5 : ux14 5 = (vI s6) := hp 1 _ rfl rfl
      refine ZX hE Za (dl rfl) (lk rfl f4) (lk rfl f5) Tryz.underlying32 ZF (hM.rd hv1_1) hi20.1 ?_; intro a hE
      exact ⟨Kept.refl _ _, _, _, rfl, hE, rfl⟩
     ·intro a w ux14 hE hM hp
      have f6 : ux14 6 = (ptr (sb v1_1) (so v1_1 + (s6).toNat * 16)) := hp 0 _ rfl rfl
      refine Zm (cs := Flat.enc x18) hE Za (dl rfl) (lk rfl f6) ZF rfl (Wh (hM.rd hv1_1) hi20.2) (Flat.len _) ?_; intro a hE
      exact ⟨Kept.refl _ _, _, _, rfl, hE, rfl⟩
     ·intro a w ux14 hE hM hp
      have f3 : ux14 3 = (Value.agg (Flat.enc x15).toArray) := hp 0 _ rfl rfl
      have f7 : ux14 7 = (Value.agg (Flat.enc x18).toArray) := hp 1 _ rfl rfl
      refine Zs (vs := [(Value.agg (Flat.enc x15).toArray), (Value.agg (Flat.enc x18).toArray)]) hE Za (dl rfl) (ZZ (ZT (lk rfl f3) (ZT (lk rfl f7) Y7))) cb142 (c_laws_eqBlock _ x15 x18 r21 e22) ?_
      rintro v w a ⟨rfl, hK⟩ hE
      exact ⟨hK, _, _, rfl, hE, rfl⟩
     ·intro a w ux14 hE hM hp
      have f8 : ux14 8 = (vT r21) := hp 0 _ rfl rfl
      refine WF hE Za (dl rfl) (lk rfl f8) ?_; intro a hE
      exact ⟨Kept.refl _ _, _, _, rfl, hE, rfl⟩
     ·intro a w ux14 hE hM hg
      have f0 : ux14 0 = v0_1 := hg 0 (by decide)
      have f1 : ux14 1 = (vI s6) := hg 1 (by decide)
      have f2 : ux14 2 = (ptr (sb v0_1) (so v0_1 + (s6).toNat * 16)) := hg 2 (by decide)
      have f3 : ux14 3 = (Value.agg (Flat.enc x15).toArray) := hg 3 (by decide)
      have f4 : ux14 4 = v1_1 := hg 4 (by decide)
      have f5 : ux14 5 = (vI s6) := hg 5 (by decide)
      have f6 : ux14 6 = (ptr (sb v1_1) (so v1_1 + (s6).toNat * 16)) := hg 6 (by decide)
      have f7 : ux14 7 = (Value.agg (Flat.enc x18).toArray) := hg 7 (by decide)
      have f8 : ux14 8 = (vT r21) := hg 8 (by decide)
      have f9 : ux14 9 = (vT (!r21)) := hg 9 (by decide)
      have hE := hE.sub (e' := [(17, v0_1), (18, (vI s6)), (19, (ptr (sb v0_1) (so v0_1 + (s6).toNat * 16))), (20, (Value.agg (Flat.enc x15).toArray)), (21, v1_1), (22, (vI s6)), (23, (ptr (sb v1_1) (so v1_1 + (s6).toNat * 16))), (24, (Value.agg (Flat.enc x18).toArray)), (25, (vT r21)), (26, (vT (!r21))), (0, v0_1), (1, v1_1), (5, (vI s6)), (11, (vI s6)), (12, v0_1), (13, (vI (p0.length : Int))), (14, (vT (decide (s6 < (p0.length : Int)))))]) ⟨lk rfl f0, lk rfl f1, lk rfl f2, lk rfl f3, lk rfl f4, lk rfl f5, lk rfl f6, lk rfl f7, lk rfl f8, lk rfl f9, rfl, rfl, rfl, rfl, rfl, rfl, rfl, trivial⟩
      refine Zk ?_
      have ht23 := Option.some.inj hl12
      subst ht23
      refine Zn ?_
      exact ⟨hE.sub ⟨rfl, rfl, rfl, rfl, trivial⟩, hM⟩
    ·skip
     rintro a w ⟨hE, hM⟩
     refine Zw hE rfl ?_ ?_
     ·intro hb24
      have hF13 := ZD hF13 hb24
      refine Zc (Ze hE Za (dl rfl) rfl ?_); intro a hE
      refine Zf ?_
      have ht25 := hx8 _ (Option.some.inj hF13).symm
      subst ht25
      have hr := Option.some.inj hF4
      subst hr
      exact wp_ret (Wg (ZG (ZG (Wg (ZG (ZG (Zy hE rfl (Zu hE rfl) ⟨_, rfl, rfl, hM.kept⟩)))))))
     ·intro hb24
      have hF13 := ZC hF13 hb24
      refine wp_skip (Yl (Zz (wp_region_lit (Zd hE Za (dl rfl) rfl ?_)))); intro a hE
      refine Zh hE Za (dl rfl) rfl rfl rfl ?_; intro a hE
      refine Ze hE Za (dl rfl) rfl ?_; intro a hE
      refine Zk (Zn ?_)
      exact ⟨_, (Option.some.inj hF13).symm, hE.sub ⟨rfl, rfl, rfl, trivial⟩, hM⟩
   ·intro hb10
    have hs7 := ZC hs7 hb10
    refine wp_exit (Zr (Zr (Yk ?_)))
    have ht26 := hx8 _ (Option.some.inj hs7).symm
    subst ht26
    refine Zn ?_
    exact ⟨(), rfl, hE.sub trivial, hM⟩
  ·skip
   rintro a w ⟨s5, ht, hE, hM⟩
   subst ht
   have hF4 := el_nx hF4
   refine Zz (Zc (Ze hE Za (dl rfl) rfl ?_)); intro a hE
   refine Zf ?_
   have hr := Option.some.inj hF4
   subst hr
   exact wp_ret (Zy hE rfl (Zu hE rfl) ⟨_, rfl, rfl, hM.kept⟩)
noncomputable def UK (p0 : (List UInt8)) (p1 : (List UInt8)) (s6 : Int) : Option (Fl Int (Fl Unit Bool)) :=
 if (decide (s6 < (p0.length : Int))) = true then (((idx p0 s6).bind fun x15 => (idx p1 s6).bind fun x18 => some (x15 != x18) : Option (Bool)).bind fun j11 => if j11 = true then (some (Fl.ex (Fl.ex false))) else (some (Fl.nx (wr (s6 + 1))))) else (some (Fl.ex (Fl.nx ())))
noncomputable def Vg (p0 : (List UInt8)) (p1 : (List UInt8)) : Option (Bool) :=
 if ((p0.length : Int) != (p1.length : Int)) = true then (some false) else ((ZJ (UK p0 p1) 0 : Option (Fl Unit Bool)).bind fun j2 => j2.el (fun s5 => some true) (fun r => some r))
theorem c_laws_eqByteS (w0 : World) (p0 : (List UInt8)) (v0_1 : Value) (hv0_1 : Ro w0 p0 [v0_1]) (p1 : (List UInt8)) (v1_1 : Value) (hv1_1 : Ro w0 p1 [v1_1]) (r : Bool) (hF : Vg p0 p1 = some r) :
  Calls Tryz.prog 28 [v0_1, v1_1].toArray w0 (fun en w' => ∃ v, en = .returned v ∧ (v = (vT r) ∧ Kept (Old w0) w0 w')) := by
 refine ZA (n := 26) Tryz.func28 rfl rfl (Nat.le_of_ble_eq_true rfl) rfl ?_
 intro a hE
 have hM := M.start w0
 unfold Vg at hF
 refine Zc (Ze hE Za (dl rfl) rfl ?_); intro a hE
 refine Zf (wp_seq (Zc (Zd hE Za (dl rfl) rfl ?_))); intro a hE
 refine Yb hE Za (dl rfl) rfl Tryz.underlying57 (hM.rd hv0_1) ?_; intro a hE
 refine Zd hE Za (dl rfl) rfl ?_; intro a hE
 refine Yb hE Za (dl rfl) rfl Tryz.underlying57 (hM.rd hv1_1) ?_; intro a hE
 refine Zh hE Za (dl rfl) rfl rfl rfl ?_; intro a hE
 refine Zf ?_
 refine Zw hE rfl ?_ ?_
 ·intro hb1
  have hF := ZD hF hb1
  refine Zc (Ze hE Za (dl rfl) rfl ?_); intro a hE
  refine Zf ?_
  have hr := Option.some.inj hF
  subst hr
  exact wp_ret (ZG (Zy hE rfl (Zu hE rfl) ⟨_, rfl, rfl, hM.kept⟩))
 ·intro hb1
  have hF := ZC hF hb1
  refine wp_skip (Zz (wp_seq (Zc (Ze hE Za (dl rfl) rfl ?_)))); intro a hE
  refine Zf ?_
  obtain ⟨j2, hl3, hF4⟩ := bind_some hF
  refine ZS (fun a w => ∃ s5 : Unit, j2 = Fl.nx s5 ∧ Env 26 a [] ∧ M (Old w0) w0 w []) ?_ ?_
  ·skip
   refine wp_block ?_
   refine ZL (fun (s6 : Int) a w => Env 26 a [(0, v0_1), (1, v1_1), (5, (vI s6))] ∧ M (Old w0) w0 w []) hl3 ⟨hE.sub ⟨rfl, rfl, rfl, trivial⟩, hM⟩ ?_
   rintro s6 a w ⟨hE, hM⟩ o9 hs7 hx8
   unfold UK at hs7
   refine wp_seq (Zc (Zd hE Za (dl rfl) rfl ?_)); intro a hE
   refine Zd hE Za (dl rfl) rfl ?_; intro a hE
   refine Yb hE Za (dl rfl) rfl Tryz.underlying57 (hM.rd hv0_1) ?_; intro a hE
   refine Zh hE Za (dl rfl) rfl rfl rfl ?_; intro a hE
   refine Zf ?_
   refine Zw hE rfl ?_ ?_
   ·intro hb10
    have hs7 := ZD hs7 hb10
    refine wp_skip (Zz (wp_seq (wp_block ?_)))
    obtain ⟨j11, hl12, hF13⟩ := bind_some hs7
    refine ZR (fun a w => Env 26 a [(0, v0_1), (1, v1_1), (5, (vI s6)), (25, (vT j11))] ∧ M (Old w0) w0 w []) ?_ ?_
    ·skip
     obtain ⟨x15, e16, hl12⟩ := bind_some hl12
     have hi17 := ZY e16
     obtain ⟨x18, e19, hl12⟩ := bind_some hl12
     have hi20 := ZY e19
     refine Yo (n := 26) (hd := [_, _, _, _, _, _, _, _, _]) (tl := []) YU rfl rfl [17, 18, 19, 20, 21, 22, 23, 24, 25] (by decide) (fun w => M (Old w0) w0 w []) (fun j => ([fun v _ => v = v0_1, fun v _ => v = (vI s6), fun v _ => v = (ptr (sb v0_1) (so v0_1 + (s6).toNat * 1)), fun v _ => v = (vB x15), fun v _ => v = v1_1, fun v _ => v = (vI s6), fun v _ => v = (ptr (sb v1_1) (so v1_1 + (s6).toNat * 1)), fun v _ => v = (vB x18), fun v _ => v = (vT (x15 != x18))] : List (Value → World → Prop)).getD j (fun _ _ => True)) (fun _ _ h hk => h.keep hk) (gup (Zj (Zj (Zj (Zj (Zj (Zj (Zj (Zj (Zj Vq)))))))))) hE hM.drew (ZM (Zb ?_ (Zb ?_ (Zb ?_ (Zb ?_ (Zb ?_ (Zb ?_ (Zb ?_ (Zb ?_ (Zb ?_ ZH)))))))))) ?_
     ·intro a w ux14 hE hM hp
      refine Zd hE Za (dl rfl) rfl ?_; intro a hE
      exact ⟨Kept.refl _ _, _, _, rfl, hE, rfl⟩
     ·intro a w ux14 hE hM hp
      refine Zd hE Za (dl rfl) rfl ?_; intro a hE
      exact ⟨Kept.refl _ _, _, _, rfl, hE, rfl⟩
     ·intro a w ux14 hE hM hp
      have f0 : ux14 0 = v0_1 := hp 0 _ rfl rfl
      have f1 : ux14 1 = (vI s6) := hp 1 _ rfl rfl
      refine ZX hE Za (dl rfl) (lk rfl f0) (lk rfl f1) Tryz.underlying57 ty5 (hM.rd hv0_1) hi17.1 ?_; intro a hE
      exact ⟨Kept.refl _ _, _, _, rfl, hE, rfl⟩
     ·intro a w ux14 hE hM hp
      have f2 : ux14 2 = (ptr (sb v0_1) (so v0_1 + (s6).toNat * 1)) := hp 0 _ rfl rfl
      refine Zq (v := (vB x15)) hE Za (dl rfl) (lk rfl f2) ty5 rfl (Wh (hM.rd hv0_1) hi17.2) ?_; intro a hE
      exact ⟨Kept.refl _ _, _, _, rfl, hE, rfl⟩
     ·intro a w ux14 hE hM hp
      refine Zd hE Za (dl rfl) rfl ?_; intro a hE
      exact ⟨Kept.refl _ _, _, _, rfl, hE, rfl⟩
     ·intro a w ux14 hE hM hp
      refine Zd hE Za (dl rfl) rfl ?_; intro a hE
      exact ⟨Kept.refl _ _, _, _, rfl, hE, rfl⟩
     ·intro a w ux14 hE hM hp
      have f4 : ux14 4 = v1_1 := hp 0 _ rfl rfl
      have f5 : ux14 5 = (vI s6) := hp 1 _ rfl rfl
      refine ZX hE Za (dl rfl) (lk rfl f4) (lk rfl f5) Tryz.underlying57 ty5 (hM.rd hv1_1) hi20.1 ?_; intro a hE
      exact ⟨Kept.refl _ _, _, _, rfl, hE, rfl⟩
     ·intro a w ux14 hE hM hp
      have f6 : ux14 6 = (ptr (sb v1_1) (so v1_1 + (s6).toNat * 1)) := hp 0 _ rfl rfl
      refine Zq (v := (vB x18)) hE Za (dl rfl) (lk rfl f6) ty5 rfl (Wh (hM.rd hv1_1) hi20.2) ?_; intro a hE
      exact ⟨Kept.refl _ _, _, _, rfl, hE, rfl⟩
     ·intro a w ux14 hE hM hp
      have f3 : ux14 3 = (vB x15) := hp 0 _ rfl rfl
      have f7 : ux14 7 = (vB x18) := hp 1 _ rfl rfl
      refine Zh hE Za (dl rfl) (lk rfl f3) (lk rfl f7) (bB_neq x15 x18) ?_; intro a hE
      exact ⟨Kept.refl _ _, _, _, rfl, hE, rfl⟩
     ·intro a w ux14 hE hM hg
      have f0 : ux14 0 = v0_1 := hg 0 (by decide)
      have f1 : ux14 1 = (vI s6) := hg 1 (by decide)
      have f2 : ux14 2 = (ptr (sb v0_1) (so v0_1 + (s6).toNat * 1)) := hg 2 (by decide)
      have f3 : ux14 3 = (vB x15) := hg 3 (by decide)
      have f4 : ux14 4 = v1_1 := hg 4 (by decide)
      have f5 : ux14 5 = (vI s6) := hg 5 (by decide)
      have f6 : ux14 6 = (ptr (sb v1_1) (so v1_1 + (s6).toNat * 1)) := hg 6 (by decide)
      have f7 : ux14 7 = (vB x18) := hg 7 (by decide)
      have f8 : ux14 8 = (vT (x15 != x18)) := hg 8 (by decide)
      have hE := hE.sub (e' := [(17, v0_1), (18, (vI s6)), (19, (ptr (sb v0_1) (so v0_1 + (s6).toNat * 1))), (20, (vB x15)), (21, v1_1), (22, (vI s6)), (23, (ptr (sb v1_1) (so v1_1 + (s6).toNat * 1))), (24, (vB x18)), (25, (vT (x15 != x18))), (0, v0_1), (1, v1_1), (5, (vI s6)), (11, (vI s6)), (12, v0_1), (13, (vI (p0.length : Int))), (14, (vT (decide (s6 < (p0.length : Int)))))]) ⟨lk rfl f0, lk rfl f1, lk rfl f2, lk rfl f3, lk rfl f4, lk rfl f5, lk rfl f6, lk rfl f7, lk rfl f8, rfl, rfl, rfl, rfl, rfl, rfl, rfl, trivial⟩
      refine Zk ?_
      have ht21 := Option.some.inj hl12
      subst ht21
      refine Zn ?_
      exact ⟨hE.sub ⟨rfl, rfl, rfl, rfl, trivial⟩, hM⟩
    ·skip
     rintro a w ⟨hE, hM⟩
     refine Zw hE rfl ?_ ?_
     ·intro hb22
      have hF13 := ZD hF13 hb22
      refine Zc (Ze hE Za (dl rfl) rfl ?_); intro a hE
      refine Zf ?_
      have ht23 := hx8 _ (Option.some.inj hF13).symm
      subst ht23
      have hr := Option.some.inj hF4
      subst hr
      exact wp_ret (Wg (ZG (ZG (Wg (ZG (ZG (Zy hE rfl (Zu hE rfl) ⟨_, rfl, rfl, hM.kept⟩)))))))
     ·intro hb22
      have hF13 := ZC hF13 hb22
      refine wp_skip (Yl (Zz (wp_region_lit (Zd hE Za (dl rfl) rfl ?_)))); intro a hE
      refine Zh hE Za (dl rfl) rfl rfl rfl ?_; intro a hE
      refine Ze hE Za (dl rfl) rfl ?_; intro a hE
      refine Zk (Zn ?_)
      exact ⟨_, (Option.some.inj hF13).symm, hE.sub ⟨rfl, rfl, rfl, trivial⟩, hM⟩
   ·intro hb10
    have hs7 := ZC hs7 hb10
    refine wp_exit (Zr (Zr (Yk ?_)))
    have ht24 := hx8 _ (Option.some.inj hs7).symm
    subst ht24
    refine Zn ?_
    exact ⟨(), rfl, hE.sub trivial, hM⟩
  ·skip
   rintro a w ⟨s5, ht, hE, hM⟩
   subst ht
   have hF4 := el_nx hF4
   refine Zz (Zc (Ze hE Za (dl rfl) rfl ?_)); intro a hE
   refine Zf ?_
   have hr := Option.some.inj hF4
   subst hr
   exact wp_ret (Zy hE rfl (Zu hE rfl) ⟨_, rfl, rfl, hM.kept⟩)
noncomputable def Wv (p0 : GRecord) (p1 : GRecord) : Option (Bool) :=
 if (p0.Number != p1.Number) = true then (some false) else (if (p0.Version != p1.Version) = true then (some false) else ((X0 p0.Nonce p1.Nonce).bind fun r7 => if (!r7) = true then (some false) else ((Vg p0.Label p1.Label).bind fun r10 => if (!r10) = true then (some false) else ((Vg p0.Body p1.Body).bind fun r13 => if (!r13) = true then (some false) else ((Xa p0.Tag p1.Tag).bind fun r16 => if (!r16) = true then (some false) else (some true))))))
theorem c_laws_eqRecord (w0 : World) (p0 : GRecord) (v0_1 : Value) (hv0_1 : Ro w0 p0.Label [v0_1]) (v0_2 : Value) (hv0_2 : Ro w0 p0.Body [v0_2]) (p1 : GRecord) (v1_1 : Value) (hv1_1 : Ro w0 p1.Label [v1_1]) (v1_2 : Value) (hv1_2 : Ro w0 p1.Body [v1_2]) (r : Bool) (hF : Wv p0 p1 = some r) :
  Calls Tryz.prog 143 [(Value.agg (cat [[(vI p0.Number)], [(vI p0.Version)], Flat.enc p0.Nonce, [v0_1], [v0_2], Flat.enc p0.Tag]).toArray), (Value.agg (cat [[(vI p1.Number)], [(vI p1.Version)], Flat.enc p1.Nonce, [v1_1], [v1_2], Flat.enc p1.Tag]).toArray)].toArray w0 (fun en w' => ∃ v, en = .returned v ∧ (v = (vT r) ∧ Kept (Old w0) w0 w')) := by
 refine ZA (n := 39) Tryz.func143 rfl rfl (Nat.le_of_ble_eq_true rfl) rfl ?_
 intro a hE
 have hM := M.start w0
 unfold Wv at hF
 refine Zc (ZV (cs := cat [[(vI p0.Number)], [(vI p0.Version)], Flat.enc p0.Nonce, [v0_1], [v0_2], Flat.enc p0.Tag]) hE hM Za (dl rfl) rfl rfl ?_); intro b1 w a hM hE
 refine ZV (cs := cat [[(vI p1.Number)], [(vI p1.Version)], Flat.enc p1.Nonce, [v1_1], [v1_2], Flat.enc p1.Tag]) hE hM Za (dl rfl) rfl rfl ?_; intro b3 w a hM hE
 refine Ze hE Za (dl rfl) rfl ?_; intro a hE
 refine Zf (wp_seq (Zc (Zg hE Za (dl rfl) rfl (UQ) ?_))); intro a hE
 refine Zq (v := (vI p0.Number)) hE Za (dl rfl) rfl ty2 rfl (At.cat (pre := []) (hM.rawAt (pre := [_])) cl0) ?_; intro a hE
 refine Zg hE Za (dl rfl) rfl (UQ) ?_; intro a hE
 refine Zq (v := (vI p1.Number)) hE Za (dl rfl) rfl ty2 rfl (At.cat (pre := []) (hM.rawAt (pre := [])) cl0) ?_; intro a hE
 refine Zh hE Za (dl rfl) rfl rfl rfl ?_; intro a hE
 refine Zf ?_
 refine Zw hE rfl ?_ ?_
 ·intro hb5
  have hF := ZD hF hb5
  refine Zc (Ze hE Za (dl rfl) rfl ?_); intro a hE
  refine Zf ?_
  have hr := Option.some.inj hF
  subst hr
  have hM := M.fst (l := []) hM
  exact wp_ret (ZG (Zy hE rfl (Zu hE rfl) ⟨_, rfl, rfl, hM.kept⟩))
 ·intro hb5
  have hF := ZC hF hb5
  refine wp_skip (Zz (wp_seq (Zc (Zg hE Za (dl rfl) rfl (fd92_1) ?_)))); intro a hE
  refine Zq (v := (vI p0.Version)) hE Za (dl rfl) rfl ty2 rfl (At.cat (pre := [[(vI p0.Number)]]) (hM.rawAt (pre := [_])) (cl1 (n := 1) (m := 0) rfl cl0)) ?_; intro a hE
  refine Zg hE Za (dl rfl) rfl (fd92_1) ?_; intro a hE
  refine Zq (v := (vI p1.Version)) hE Za (dl rfl) rfl ty2 rfl (At.cat (pre := [[(vI p1.Number)]]) (hM.rawAt (pre := [])) (cl1 (n := 1) (m := 0) rfl cl0)) ?_; intro a hE
  refine Zh hE Za (dl rfl) rfl rfl rfl ?_; intro a hE
  refine Zf ?_
  refine Zw hE rfl ?_ ?_
  ·intro hb6
   have hF := ZD hF hb6
   refine Zc (Ze hE Za (dl rfl) rfl ?_); intro a hE
   refine Zf ?_
   have hr := Option.some.inj hF
   subst hr
   have hM := M.fst (l := []) hM
   exact wp_ret (ZG (Zy hE rfl (Zu hE rfl) ⟨_, rfl, rfl, hM.kept⟩))
  ·intro hb6
   have hF := ZC hF hb6
   refine wp_skip (Zz (wp_seq (Zc (Zg hE Za (dl rfl) rfl (fd92_2) ?_)))); intro a hE
   refine Zm (cs := Flat.enc p0.Nonce) hE Za (dl rfl) rfl ZF rfl (At.cat (pre := [[(vI p0.Number)], [(vI p0.Version)]]) (hM.rawAt (pre := [_])) (cl1 (n := 1) (m := 1) rfl (cl1 (n := 1) (m := 0) rfl cl0))) (Flat.len _) ?_; intro a hE
   refine Zg hE Za (dl rfl) rfl (fd92_2) ?_; intro a hE
   refine Zm (cs := Flat.enc p1.Nonce) hE Za (dl rfl) rfl ZF rfl (At.cat (pre := [[(vI p1.Number)], [(vI p1.Version)]]) (hM.rawAt (pre := [])) (cl1 (n := 1) (m := 1) rfl (cl1 (n := 1) (m := 0) rfl cl0))) (Flat.len _) ?_; intro a hE
   obtain ⟨r7, e8, hF⟩ := bind_some hF
   refine Zs (vs := [(Value.agg (Flat.enc p0.Nonce).toArray), (Value.agg (Flat.enc p1.Nonce).toArray)]) hE Za (dl rfl) rfl cb142 (c_laws_eqBlock _ p0.Nonce p1.Nonce r7 e8) ?_
   rintro v w a ⟨rfl, hK⟩ hE
   have hM := hM.keep hK
   refine WF hE Za (dl rfl) rfl ?_; intro a hE
   refine Zf ?_
   refine Zw hE rfl ?_ ?_
   ·intro hb9
    have hF := ZD hF hb9
    refine Zc (Ze hE Za (dl rfl) rfl ?_); intro a hE
    refine Zf ?_
    have hr := Option.some.inj hF
    subst hr
    have hM := M.fst (l := []) hM
    exact wp_ret (ZG (Zy hE rfl (Zu hE rfl) ⟨_, rfl, rfl, hM.kept⟩))
   ·intro hb9
    have hF := ZC hF hb9
    refine wp_skip (Zz (wp_seq (Zc (Zg hE Za (dl rfl) rfl (fd92_3) ?_)))); intro a hE
    refine Zq (v := v0_1) hE Za (dl rfl) rfl Uw rfl (At.cat (pre := [[(vI p0.Number)], [(vI p0.Version)], Flat.enc p0.Nonce]) (hM.rawAt (pre := [_])) (cl1 (n := 1) (m := 17) rfl (cl1 (n := 1) (m := 16) rfl (cl1 (n := 16) (m := 0) (Flat.len _) cl0)))) ?_; intro a hE
    refine Zg hE Za (dl rfl) rfl (fd92_3) ?_; intro a hE
    refine Zq (v := v1_1) hE Za (dl rfl) rfl Uw rfl (At.cat (pre := [[(vI p1.Number)], [(vI p1.Version)], Flat.enc p1.Nonce]) (hM.rawAt (pre := [])) (cl1 (n := 1) (m := 17) rfl (cl1 (n := 1) (m := 16) rfl (cl1 (n := 16) (m := 0) (Flat.len _) cl0)))) ?_; intro a hE
    obtain ⟨r10, e11, hF⟩ := bind_some hF
    refine Zs (vs := [v0_1, v1_1]) hE Za (dl rfl) rfl cb28 (c_laws_eqByteS _ p0.Label v0_1 (hM.rdo hv0_1) p1.Label v1_1 (hM.rdo hv1_1) r10 e11) ?_
    rintro v w a ⟨rfl, hK⟩ hE
    have hM := hM.keep hK
    refine WF hE Za (dl rfl) rfl ?_; intro a hE
    refine Zf ?_
    refine Zw hE rfl ?_ ?_
    ·intro hb12
     have hF := ZD hF hb12
     refine Zc (Ze hE Za (dl rfl) rfl ?_); intro a hE
     refine Zf ?_
     have hr := Option.some.inj hF
     subst hr
     have hM := M.fst (l := []) hM
     exact wp_ret (ZG (Zy hE rfl (Zu hE rfl) ⟨_, rfl, rfl, hM.kept⟩))
    ·intro hb12
     have hF := ZC hF hb12
     refine wp_skip (Zz (wp_seq (Zc (Zg hE Za (dl rfl) rfl (fd92_4) ?_)))); intro a hE
     refine Zq (v := v0_2) hE Za (dl rfl) rfl Uw rfl (At.cat (pre := [[(vI p0.Number)], [(vI p0.Version)], Flat.enc p0.Nonce, [v0_1]]) (hM.rawAt (pre := [_])) (cl1 (n := 1) (m := 18) rfl (cl1 (n := 1) (m := 17) rfl (cl1 (n := 16) (m := 1) (Flat.len _) (cl1 (n := 1) (m := 0) rfl cl0))))) ?_; intro a hE
     refine Zg hE Za (dl rfl) rfl (fd92_4) ?_; intro a hE
     refine Zq (v := v1_2) hE Za (dl rfl) rfl Uw rfl (At.cat (pre := [[(vI p1.Number)], [(vI p1.Version)], Flat.enc p1.Nonce, [v1_1]]) (hM.rawAt (pre := [])) (cl1 (n := 1) (m := 18) rfl (cl1 (n := 1) (m := 17) rfl (cl1 (n := 16) (m := 1) (Flat.len _) (cl1 (n := 1) (m := 0) rfl cl0))))) ?_; intro a hE
     obtain ⟨r13, e14, hF⟩ := bind_some hF
     refine Zs (vs := [v0_2, v1_2]) hE Za (dl rfl) rfl cb28 (c_laws_eqByteS _ p0.Body v0_2 (hM.rdo hv0_2) p1.Body v1_2 (hM.rdo hv1_2) r13 e14) ?_
     rintro v w a ⟨rfl, hK⟩ hE
     have hM := hM.keep hK
     refine WF hE Za (dl rfl) rfl ?_; intro a hE
     refine Zf ?_
     refine Zw hE rfl ?_ ?_
     ·intro hb15
      have hF := ZD hF hb15
      refine Zc (Ze hE Za (dl rfl) rfl ?_); intro a hE
      refine Zf ?_
      have hr := Option.some.inj hF
      subst hr
      have hM := M.fst (l := []) hM
      exact wp_ret (ZG (Zy hE rfl (Zu hE rfl) ⟨_, rfl, rfl, hM.kept⟩))
     ·intro hb15
      have hF := ZC hF hb15
      refine wp_skip (Zz (wp_seq (Zc (Zg hE Za (dl rfl) rfl (fd92_5) ?_)))); intro a hE
      refine Zm (cs := Flat.enc p0.Tag) hE Za (dl rfl) rfl Z9 rfl (At.cat (pre := [[(vI p0.Number)], [(vI p0.Version)], Flat.enc p0.Nonce, [v0_1], [v0_2]]) (hM.rawAt (pre := [_])) (cl1 (n := 1) (m := 19) rfl (cl1 (n := 1) (m := 18) rfl (cl1 (n := 16) (m := 2) (Flat.len _) (cl1 (n := 1) (m := 1) rfl (cl1 (n := 1) (m := 0) rfl cl0)))))) (Flat.len _) ?_; intro a hE
      refine Zg hE Za (dl rfl) rfl (fd92_5) ?_; intro a hE
      refine Zm (cs := Flat.enc p1.Tag) hE Za (dl rfl) rfl Z9 rfl (At.cat (pre := [[(vI p1.Number)], [(vI p1.Version)], Flat.enc p1.Nonce, [v1_1], [v1_2]]) (hM.rawAt (pre := [])) (cl1 (n := 1) (m := 19) rfl (cl1 (n := 1) (m := 18) rfl (cl1 (n := 16) (m := 2) (Flat.len _) (cl1 (n := 1) (m := 1) rfl (cl1 (n := 1) (m := 0) rfl cl0)))))) (Flat.len _) ?_; intro a hE
      obtain ⟨r16, e17, hF⟩ := bind_some hF
      refine Zs (vs := [(Value.agg (Flat.enc p0.Tag).toArray), (Value.agg (Flat.enc p1.Tag).toArray)]) hE Za (dl rfl) rfl cb16 (UG _ p0.Tag p1.Tag r16 e17) ?_
      rintro v w a ⟨rfl, hK⟩ hE
      have hM := hM.keep hK
      refine WF hE Za (dl rfl) rfl ?_; intro a hE
      refine Zf ?_
      refine Zw hE rfl ?_ ?_
      ·intro hb18
       have hF := ZD hF hb18
       refine Zc (Ze hE Za (dl rfl) rfl ?_); intro a hE
       refine Zf ?_
       have hr := Option.some.inj hF
       subst hr
       have hM := M.fst (l := []) hM
       exact wp_ret (ZG (Zy hE rfl (Zu hE rfl) ⟨_, rfl, rfl, hM.kept⟩))
      ·intro hb18
       have hF := ZC hF hb18
       refine wp_skip (Zz (Zc (Ze hE Za (dl rfl) rfl ?_))); intro a hE
       refine Zf ?_
       have hr := Option.some.inj hF
       subst hr
       have hM := M.fst (l := []) hM
       exact wp_ret (Zy hE rfl (Zu hE rfl) ⟨_, rfl, rfl, hM.kept⟩)
noncomputable def VT (p0 : (List GRecord)) (p1 : (List GRecord)) (s6 : Int) : Option (Fl Int (Fl Unit Bool)) :=
 if (decide (s6 < (p0.length : Int))) = true then (((idx p0 s6).bind fun x15 => (idx p1 s6).bind fun x25 => (Wv x15 x25).bind fun r35 => some (!r35) : Option (Bool)).bind fun j11 => if j11 = true then (some (Fl.ex (Fl.ex false))) else (some (Fl.nx (wr (s6 + 1))))) else (some (Fl.ex (Fl.nx ())))
noncomputable def Va (p0 : (List GRecord)) (p1 : (List GRecord)) : Option (Bool) :=
 if ((p0.length : Int) != (p1.length : Int)) = true then (some false) else ((ZJ (VT p0 p1) 0 : Option (Fl Unit Bool)).bind fun j2 => j2.el (fun s5 => some true) (fun r => some r))
theorem c_laws_eqRecordS (w0 : World) (p0 : (List GRecord)) (v0_1 : Value) (hv0_1 : Ro w0 p0 [v0_1]) (p1 : (List GRecord)) (v1_1 : Value) (hv1_1 : Ro w0 p1 [v1_1]) (r : Bool) (hF : Va p0 p1 = some r) :
  Calls Tryz.prog 63 [v0_1, v1_1].toArray w0 (fun en w' => ∃ v, en = .returned v ∧ (v = (vT r) ∧ Kept (Old w0) w0 w')) := by
 refine ZA (n := 27) Tryz.func63 rfl rfl (Nat.le_of_ble_eq_true rfl) rfl ?_
 intro a hE
 have hM := M.start w0
 unfold Va at hF
 refine Zc (Ze hE Za (dl rfl) rfl ?_); intro a hE
 refine Zf (wp_seq (Zc (Zd hE Za (dl rfl) rfl ?_))); intro a hE
 refine Yb hE Za (dl rfl) rfl Tryz.underlying33 (hM.rd hv0_1) ?_; intro a hE
 refine Zd hE Za (dl rfl) rfl ?_; intro a hE
 refine Yb hE Za (dl rfl) rfl Tryz.underlying33 (hM.rd hv1_1) ?_; intro a hE
 refine Zh hE Za (dl rfl) rfl rfl rfl ?_; intro a hE
 refine Zf ?_
 refine Zw hE rfl ?_ ?_
 ·intro hb1
  have hF := ZD hF hb1
  refine Zc (Ze hE Za (dl rfl) rfl ?_); intro a hE
  refine Zf ?_
  have hr := Option.some.inj hF
  subst hr
  exact wp_ret (ZG (Zy hE rfl (Zu hE rfl) ⟨_, rfl, rfl, hM.kept⟩))
 ·intro hb1
  have hF := ZC hF hb1
  refine wp_skip (Zz (wp_seq (Zc (Ze hE Za (dl rfl) rfl ?_)))); intro a hE
  refine Zf ?_
  obtain ⟨j2, hl3, hF4⟩ := bind_some hF
  refine ZS (fun a w => ∃ s5 : Unit, j2 = Fl.nx s5 ∧ Env 27 a [] ∧ M (Old w0) w0 w []) ?_ ?_
  ·skip
   refine wp_block ?_
   refine ZL (fun (s6 : Int) a w => Env 27 a [(0, v0_1), (1, v1_1), (5, (vI s6))] ∧ M (Old w0) w0 w []) hl3 ⟨hE.sub ⟨rfl, rfl, rfl, trivial⟩, hM⟩ ?_
   rintro s6 a w ⟨hE, hM⟩ o9 hs7 hx8
   unfold VT at hs7
   refine wp_seq (Zc (Zd hE Za (dl rfl) rfl ?_)); intro a hE
   refine Zd hE Za (dl rfl) rfl ?_; intro a hE
   refine Yb hE Za (dl rfl) rfl Tryz.underlying33 (hM.rd hv0_1) ?_; intro a hE
   refine Zh hE Za (dl rfl) rfl rfl rfl ?_; intro a hE
   refine Zf ?_
   refine Zw hE rfl ?_ ?_
   ·intro hb10
    have hs7 := ZD hs7 hb10
    refine wp_skip (Zz (wp_seq (wp_block ?_)))
    obtain ⟨j11, hl12, hF13⟩ := bind_some hs7
    refine ZR (fun a w => Env 27 a [(0, v0_1), (1, v1_1), (5, (vI s6)), (26, (vT j11))] ∧ M (Old w0) w0 w []) ?_ ?_
    ·skip
     obtain ⟨x15, e16, hl12⟩ := bind_some hl12
     have hi17 := ZY e16
     obtain ⟨cs18, hs19, hA20⟩ := Uf hv0_1 hi17.2 -- ^
     obtain ⟨u21, u23, rfl, h22, h24⟩ := X2 hs19 -- ^
     obtain ⟨x25, e26, hl12⟩ := bind_some hl12
     have hi27 := ZY e26
     obtain ⟨cs28, hs29, hA30⟩ := Uf hv1_1 hi27.2 -- ^
     obtain ⟨u31, u33, rfl, h32, h34⟩ := X2 hs29 -- ^
     obtain ⟨r35, e36, hl12⟩ := bind_some hl12
     refine Yo (n := 27) (hd := [_, _, _, _, _, _, _, _, _, _]) (tl := []) YU rfl rfl [17, 18, 19, 20, 21, 22, 23, 24, 25, 26] (by decide) (fun w => M (Old w0) w0 w []) (fun j => ([fun v _ => v = v0_1, fun v _ => v = (vI s6), fun v _ => v = (ptr (sb v0_1) (so v0_1 + (s6).toNat * 52)), fun v _ => v = (Value.agg (cat [[(vI x15.Number)], [(vI x15.Version)], Flat.enc x15.Nonce, [u21], [u23], Flat.enc x15.Tag]).toArray), fun v _ => v = v1_1, fun v _ => v = (vI s6), fun v _ => v = (ptr (sb v1_1) (so v1_1 + (s6).toNat * 52)), fun v _ => v = (Value.agg (cat [[(vI x25.Number)], [(vI x25.Version)], Flat.enc x25.Nonce, [u31], [u33], Flat.enc x25.Tag]).toArray), fun v _ => v = (vT r35), fun v _ => v = (vT (!r35))] : List (Value → World → Prop)).getD j (fun _ _ => True)) (fun _ _ h hk => h.keep hk) (gup (Zj (Zj (Zj (Zj (Zj (Zj (Zj (Zj (Zj (Zj Vq))))))))))) hE hM.drew (ZM (Zb ?_ (Zb ?_ (Zb ?_ (Zb ?_ (Zb ?_ (Zb ?_ (Zb ?_ (Zb ?_ (Zb ?_ (Zb ?_ ZH))))))))))) ?_
     ·intro a w ux14 hE hM hp
      refine Zd hE Za (dl rfl) rfl ?_; intro a hE
      exact ⟨Kept.refl _ _, _, _, rfl, hE, rfl⟩
     ·intro a w ux14 hE hM hp
      refine Zd hE Za (dl rfl) rfl ?_; intro a hE
      exact ⟨Kept.refl _ _, _, _, rfl, hE, rfl⟩
     ·intro a w ux14 hE hM hp
      have f0 : ux14 0 = v0_1 := hp 0 _ rfl rfl
      have f1 : ux14 1 = (vI s6) := hp 1 _ rfl rfl
      refine ZX hE Za (dl rfl) (lk rfl f0) (lk rfl f1) Tryz.underlying33 Ug (hM.rd hv0_1) hi17.1 ?_; intro a hE
      exact ⟨Kept.refl _ _, _, _, rfl, hE, rfl⟩
     ·intro a w ux14 hE hM hp
      have f2 : ux14 2 = (ptr (sb v0_1) (so v0_1 + (s6).toNat * 52)) := hp 0 _ rfl rfl
      refine Zm (cs := cat [[(vI x15.Number)], [(vI x15.Version)], Flat.enc x15.Nonce, [u21], [u23], Flat.enc x15.Tag]) hE Za (dl rfl) (lk rfl f2) Ug rfl (hM.atk hA20 (sl_blk hv0_1 hi17.2)) (ZB (cl1 (n := 1) (m := 51) rfl (cl1 (n := 1) (m := 50) rfl (cl1 (n := 16) (m := 34) (Flat.len _) (cl1 (n := 1) (m := 33) rfl (cl1 (n := 1) (m := 32) rfl (cl1 (n := 32) (m := 0) (Flat.len _) cl0))))))) ?_; intro a hE
      exact ⟨Kept.refl _ _, _, _, rfl, hE, rfl⟩
     ·intro a w ux14 hE hM hp
      refine Zd hE Za (dl rfl) rfl ?_; intro a hE
      exact ⟨Kept.refl _ _, _, _, rfl, hE, rfl⟩
     ·intro a w ux14 hE hM hp
      refine Zd hE Za (dl rfl) rfl ?_; intro a hE
      exact ⟨Kept.refl _ _, _, _, rfl, hE, rfl⟩
     ·intro a w ux14 hE hM hp
      have f4 : ux14 4 = v1_1 := hp 0 _ rfl rfl
      have f5 : ux14 5 = (vI s6) := hp 1 _ rfl rfl
      refine ZX hE Za (dl rfl) (lk rfl f4) (lk rfl f5) Tryz.underlying33 Ug (hM.rd hv1_1) hi27.1 ?_; intro a hE
      exact ⟨Kept.refl _ _, _, _, rfl, hE, rfl⟩
     ·intro a w ux14 hE hM hp
      have f6 : ux14 6 = (ptr (sb v1_1) (so v1_1 + (s6).toNat * 52)) := hp 0 _ rfl rfl
      refine Zm (cs := cat [[(vI x25.Number)], [(vI x25.Version)], Flat.enc x25.Nonce, [u31], [u33], Flat.enc x25.Tag]) hE Za (dl rfl) (lk rfl f6) Ug rfl (hM.atk hA30 (sl_blk hv1_1 hi27.2)) (ZB (cl1 (n := 1) (m := 51) rfl (cl1 (n := 1) (m := 50) rfl (cl1 (n := 16) (m := 34) (Flat.len _) (cl1 (n := 1) (m := 33) rfl (cl1 (n := 1) (m := 32) rfl (cl1 (n := 32) (m := 0) (Flat.len _) cl0))))))) ?_; intro a hE
      exact ⟨Kept.refl _ _, _, _, rfl, hE, rfl⟩
     ·intro a w ux14 hE hM hp
      have f3 : ux14 3 = (Value.agg (cat [[(vI x15.Number)], [(vI x15.Version)], Flat.enc x15.Nonce, [u21], [u23], Flat.enc x15.Tag]).toArray) := hp 0 _ rfl rfl
      have f7 : ux14 7 = (Value.agg (cat [[(vI x25.Number)], [(vI x25.Version)], Flat.enc x25.Nonce, [u31], [u33], Flat.enc x25.Tag]).toArray) := hp 1 _ rfl rfl
      refine Zs (vs := [(Value.agg (cat [[(vI x15.Number)], [(vI x15.Version)], Flat.enc x15.Nonce, [u21], [u23], Flat.enc x15.Tag]).toArray), (Value.agg (cat [[(vI x25.Number)], [(vI x25.Version)], Flat.enc x25.Nonce, [u31], [u33], Flat.enc x25.Tag]).toArray)]) hE Za (dl rfl) (ZZ (ZT (lk rfl f3) (ZT (lk rfl f7) Y7))) cb143 (c_laws_eqRecord _ x15 u21 (hM.rdo h22) u23 (hM.rdo h24) x25 u31 (hM.rdo h32) u33 (hM.rdo h34) r35 e36) ?_
      rintro v w a ⟨rfl, hK⟩ hE
      exact ⟨hK, _, _, rfl, hE, rfl⟩
     ·intro a w ux14 hE hM hp
      have f8 : ux14 8 = (vT r35) := hp 0 _ rfl rfl
      refine WF hE Za (dl rfl) (lk rfl f8) ?_; intro a hE
      exact ⟨Kept.refl _ _, _, _, rfl, hE, rfl⟩
     ·intro a w ux14 hE hM hg
      have f0 : ux14 0 = v0_1 := hg 0 (by decide)
      have f1 : ux14 1 = (vI s6) := hg 1 (by decide)
      have f2 : ux14 2 = (ptr (sb v0_1) (so v0_1 + (s6).toNat * 52)) := hg 2 (by decide)
      have f3 : ux14 3 = (Value.agg (cat [[(vI x15.Number)], [(vI x15.Version)], Flat.enc x15.Nonce, [u21], [u23], Flat.enc x15.Tag]).toArray) := hg 3 (by decide)
      have f4 : ux14 4 = v1_1 := hg 4 (by decide)
      have f5 : ux14 5 = (vI s6) := hg 5 (by decide)
      have f6 : ux14 6 = (ptr (sb v1_1) (so v1_1 + (s6).toNat * 52)) := hg 6 (by decide)
      have f7 : ux14 7 = (Value.agg (cat [[(vI x25.Number)], [(vI x25.Version)], Flat.enc x25.Nonce, [u31], [u33], Flat.enc x25.Tag]).toArray) := hg 7 (by decide)
      have f8 : ux14 8 = (vT r35) := hg 8 (by decide)
      have f9 : ux14 9 = (vT (!r35)) := hg 9 (by decide)
      have hE := hE.sub (e' := [(17, v0_1), (18, (vI s6)), (19, (ptr (sb v0_1) (so v0_1 + (s6).toNat * 52))), (20, (Value.agg (cat [[(vI x15.Number)], [(vI x15.Version)], Flat.enc x15.Nonce, [u21], [u23], Flat.enc x15.Tag]).toArray)), (21, v1_1), (22, (vI s6)), (23, (ptr (sb v1_1) (so v1_1 + (s6).toNat * 52))), (24, (Value.agg (cat [[(vI x25.Number)], [(vI x25.Version)], Flat.enc x25.Nonce, [u31], [u33], Flat.enc x25.Tag]).toArray)), (25, (vT r35)), (26, (vT (!r35))), (0, v0_1), (1, v1_1), (5, (vI s6)), (11, (vI s6)), (12, v0_1), (13, (vI (p0.length : Int))), (14, (vT (decide (s6 < (p0.length : Int)))))]) ⟨lk rfl f0, lk rfl f1, lk rfl f2, lk rfl f3, lk rfl f4, lk rfl f5, lk rfl f6, lk rfl f7, lk rfl f8, lk rfl f9, rfl, rfl, rfl, rfl, rfl, rfl, rfl, trivial⟩
      refine Zk ?_
      have ht37 := Option.some.inj hl12
      subst ht37
      refine Zn ?_
      exact ⟨hE.sub ⟨rfl, rfl, rfl, rfl, trivial⟩, hM⟩
    ·skip
     rintro a w ⟨hE, hM⟩
     refine Zw hE rfl ?_ ?_
     ·intro hb38
      have hF13 := ZD hF13 hb38
      refine Zc (Ze hE Za (dl rfl) rfl ?_); intro a hE
      refine Zf ?_
      have ht39 := hx8 _ (Option.some.inj hF13).symm
      subst ht39
      have hr := Option.some.inj hF4
      subst hr
      exact wp_ret (Wg (ZG (ZG (Wg (ZG (ZG (Zy hE rfl (Zu hE rfl) ⟨_, rfl, rfl, hM.kept⟩)))))))
     ·intro hb38
      have hF13 := ZC hF13 hb38
      refine wp_skip (Yl (Zz (wp_region_lit (Zd hE Za (dl rfl) rfl ?_)))); intro a hE
      refine Zh hE Za (dl rfl) rfl rfl rfl ?_; intro a hE
      refine Ze hE Za (dl rfl) rfl ?_; intro a hE
      refine Zk (Zn ?_)
      exact ⟨_, (Option.some.inj hF13).symm, hE.sub ⟨rfl, rfl, rfl, trivial⟩, hM⟩
   ·intro hb10
    have hs7 := ZC hs7 hb10
    refine wp_exit (Zr (Zr (Yk ?_)))
    have ht40 := hx8 _ (Option.some.inj hs7).symm
    subst ht40
    refine Zn ?_
    exact ⟨(), rfl, hE.sub trivial, hM⟩
  ·skip
   rintro a w ⟨s5, ht, hE, hM⟩
   subst ht
   have hF4 := el_nx hF4
   refine Zz (Zc (Ze hE Za (dl rfl) rfl ?_)); intro a hE
   refine Zf ?_
   have hr := Option.some.inj hF4
   subst hr
   exact wp_ret (Zy hE rfl (Zu hE rfl) ⟨_, rfl, rfl, hM.kept⟩)
noncomputable def W7 (p0 : GEvent) (p1 : GEvent) : Option (Bool) :=
 if (p0.Kind != p1.Kind) = true then (some false) else (if (p0.Number != p1.Number) = true then (some false) else ((Xa p0.Tag p1.Tag).bind fun r7 => if (!r7) = true then (some false) else (some true)))
theorem c_laws_eqEvent (w0 : World) (p0 : GEvent) (p1 : GEvent) (r : Bool) (hF : W7 p0 p1 = some r) :
  Calls Tryz.prog 144 [(Value.agg (Flat.enc p0).toArray), (Value.agg (Flat.enc p1).toArray)].toArray w0 (fun en w' => ∃ v, en = .returned v ∧ (v = (vT r) ∧ Kept (Old w0) w0 w')) := by
 refine ZA (n := 21) Tryz.func144 rfl rfl (Nat.le_of_ble_eq_true rfl) rfl ?_
 intro a hE
 have hM := M.start w0
 unfold W7 at hF
 refine Zc (ZV (cs := cat [[(vI p0.Kind)], [(vI p0.Number)], Flat.enc p0.Tag]) hE hM Za (dl rfl) rfl rfl ?_); intro b1 w a hM hE
 refine ZV (cs := cat [[(vI p1.Kind)], [(vI p1.Number)], Flat.enc p1.Tag]) hE hM Za (dl rfl) rfl rfl ?_; intro b3 w a hM hE
 refine Ze hE Za (dl rfl) rfl ?_; intro a hE
 refine Zf (wp_seq (Zc (Zg hE Za (dl rfl) rfl (fd146_0) ?_))); intro a hE
 refine Zq (v := (vI p0.Kind)) hE Za (dl rfl) rfl ty2 rfl (At.cat (pre := []) (hM.rawAt (pre := [_])) cl0) ?_; intro a hE
 refine Zg hE Za (dl rfl) rfl (fd146_0) ?_; intro a hE
 refine Zq (v := (vI p1.Kind)) hE Za (dl rfl) rfl ty2 rfl (At.cat (pre := []) (hM.rawAt (pre := [])) cl0) ?_; intro a hE
 refine Zh hE Za (dl rfl) rfl rfl rfl ?_; intro a hE
 refine Zf ?_
 refine Zw hE rfl ?_ ?_
 ·intro hb5
  have hF := ZD hF hb5
  refine Zc (Ze hE Za (dl rfl) rfl ?_); intro a hE
  refine Zf ?_
  have hr := Option.some.inj hF
  subst hr
  have hM := M.fst (l := []) hM
  exact wp_ret (ZG (Zy hE rfl (Zu hE rfl) ⟨_, rfl, rfl, hM.kept⟩))
 ·intro hb5
  have hF := ZC hF hb5
  refine wp_skip (Zz (wp_seq (Zc (Zg hE Za (dl rfl) rfl (fd146_1) ?_)))); intro a hE
  refine Zq (v := (vI p0.Number)) hE Za (dl rfl) rfl ty2 rfl (At.cat (pre := [[(vI p0.Kind)]]) (hM.rawAt (pre := [_])) (cl1 (n := 1) (m := 0) rfl cl0)) ?_; intro a hE
  refine Zg hE Za (dl rfl) rfl (fd146_1) ?_; intro a hE
  refine Zq (v := (vI p1.Number)) hE Za (dl rfl) rfl ty2 rfl (At.cat (pre := [[(vI p1.Kind)]]) (hM.rawAt (pre := [])) (cl1 (n := 1) (m := 0) rfl cl0)) ?_; intro a hE
  refine Zh hE Za (dl rfl) rfl rfl rfl ?_; intro a hE
  refine Zf ?_
  refine Zw hE rfl ?_ ?_
  ·intro hb6
   have hF := ZD hF hb6
   refine Zc (Ze hE Za (dl rfl) rfl ?_); intro a hE
   refine Zf ?_
   have hr := Option.some.inj hF
   subst hr
   have hM := M.fst (l := []) hM
   exact wp_ret (ZG (Zy hE rfl (Zu hE rfl) ⟨_, rfl, rfl, hM.kept⟩))
  ·intro hb6
   have hF := ZC hF hb6
   refine wp_skip (Zz (wp_seq (Zc (Zg hE Za (dl rfl) rfl (fd146_2) ?_)))); intro a hE
   refine Zm (cs := Flat.enc p0.Tag) hE Za (dl rfl) rfl Z9 rfl (At.cat (pre := [[(vI p0.Kind)], [(vI p0.Number)]]) (hM.rawAt (pre := [_])) (cl1 (n := 1) (m := 1) rfl (cl1 (n := 1) (m := 0) rfl cl0))) (Flat.len _) ?_; intro a hE
   refine Zg hE Za (dl rfl) rfl (fd146_2) ?_; intro a hE
   refine Zm (cs := Flat.enc p1.Tag) hE Za (dl rfl) rfl Z9 rfl (At.cat (pre := [[(vI p1.Kind)], [(vI p1.Number)]]) (hM.rawAt (pre := [])) (cl1 (n := 1) (m := 1) rfl (cl1 (n := 1) (m := 0) rfl cl0))) (Flat.len _) ?_; intro a hE
   obtain ⟨r7, e8, hF⟩ := bind_some hF
   refine Zs (vs := [(Value.agg (Flat.enc p0.Tag).toArray), (Value.agg (Flat.enc p1.Tag).toArray)]) hE Za (dl rfl) rfl cb16 (UG _ p0.Tag p1.Tag r7 e8) ?_
   rintro v w a ⟨rfl, hK⟩ hE
   have hM := hM.keep hK
   refine WF hE Za (dl rfl) rfl ?_; intro a hE
   refine Zf ?_
   refine Zw hE rfl ?_ ?_
   ·intro hb9
    have hF := ZD hF hb9
    refine Zc (Ze hE Za (dl rfl) rfl ?_); intro a hE
    refine Zf ?_
    have hr := Option.some.inj hF
    subst hr
    have hM := M.fst (l := []) hM
    exact wp_ret (ZG (Zy hE rfl (Zu hE rfl) ⟨_, rfl, rfl, hM.kept⟩))
   ·intro hb9
    have hF := ZC hF hb9
    refine wp_skip (Zz (Zc (Ze hE Za (dl rfl) rfl ?_))); intro a hE
    refine Zf ?_
    have hr := Option.some.inj hF
    subst hr
    have hM := M.fst (l := []) hM
    exact wp_ret (Zy hE rfl (Zu hE rfl) ⟨_, rfl, rfl, hM.kept⟩)
noncomputable def Um (p0 : (List GEvent)) (p1 : (List GEvent)) (s6 : Int) : Option (Fl Int (Fl Unit Bool)) :=
 if (decide (s6 < (p0.length : Int))) = true then (((idx p0 s6).bind fun x15 => (idx p1 s6).bind fun x18 => (W7 x15 x18).bind fun r21 => some (!r21) : Option (Bool)).bind fun j11 => if j11 = true then (some (Fl.ex (Fl.ex false))) else (some (Fl.nx (wr (s6 + 1))))) else (some (Fl.ex (Fl.nx ())))
noncomputable def VH (p0 : (List GEvent)) (p1 : (List GEvent)) : Option (Bool) :=
 if ((p0.length : Int) != (p1.length : Int)) = true then (some false) else ((ZJ (Um p0 p1) 0 : Option (Fl Unit Bool)).bind fun j2 => j2.el (fun s5 => some true) (fun r => some r))
theorem c_laws_eqEventS (w0 : World) (p0 : (List GEvent)) (v0_1 : Value) (hv0_1 : Ro w0 p0 [v0_1]) (p1 : (List GEvent)) (v1_1 : Value) (hv1_1 : Ro w0 p1 [v1_1]) (r : Bool) (hF : VH p0 p1 = some r) :
  Calls Tryz.prog 64 [v0_1, v1_1].toArray w0 (fun en w' => ∃ v, en = .returned v ∧ (v = (vT r) ∧ Kept (Old w0) w0 w')) := by
 refine ZA (n := 27) Tryz.func64 rfl rfl (Nat.le_of_ble_eq_true rfl) rfl ?_
 intro a hE
 have hM := M.start w0
 unfold VH at hF
 refine Zc (Ze hE Za (dl rfl) rfl ?_); intro a hE
 refine Zf (wp_seq (Zc (Zd hE Za (dl rfl) rfl ?_))); intro a hE
 refine Yb hE Za (dl rfl) rfl Tryz.underlying34 (hM.rd hv0_1) ?_; intro a hE
 refine Zd hE Za (dl rfl) rfl ?_; intro a hE
 refine Yb hE Za (dl rfl) rfl Tryz.underlying34 (hM.rd hv1_1) ?_; intro a hE
 refine Zh hE Za (dl rfl) rfl rfl rfl ?_; intro a hE
 refine Zf ?_
 refine Zw hE rfl ?_ ?_
 ·intro hb1
  have hF := ZD hF hb1
  refine Zc (Ze hE Za (dl rfl) rfl ?_); intro a hE
  refine Zf ?_
  have hr := Option.some.inj hF
  subst hr
  exact wp_ret (ZG (Zy hE rfl (Zu hE rfl) ⟨_, rfl, rfl, hM.kept⟩))
 ·intro hb1
  have hF := ZC hF hb1
  refine wp_skip (Zz (wp_seq (Zc (Ze hE Za (dl rfl) rfl ?_)))); intro a hE
  refine Zf ?_
  obtain ⟨j2, hl3, hF4⟩ := bind_some hF
  refine ZS (fun a w => ∃ s5 : Unit, j2 = Fl.nx s5 ∧ Env 27 a [] ∧ M (Old w0) w0 w []) ?_ ?_
  ·skip
   refine wp_block ?_
   refine ZL (fun (s6 : Int) a w => Env 27 a [(0, v0_1), (1, v1_1), (5, (vI s6))] ∧ M (Old w0) w0 w []) hl3 ⟨hE.sub ⟨rfl, rfl, rfl, trivial⟩, hM⟩ ?_
   rintro s6 a w ⟨hE, hM⟩ o9 hs7 hx8
   unfold Um at hs7
   refine wp_seq (Zc (Zd hE Za (dl rfl) rfl ?_)); intro a hE
   refine Zd hE Za (dl rfl) rfl ?_; intro a hE
   refine Yb hE Za (dl rfl) rfl Tryz.underlying34 (hM.rd hv0_1) ?_; intro a hE
   refine Zh hE Za (dl rfl) rfl rfl rfl ?_; intro a hE
   refine Zf ?_
   refine Zw hE rfl ?_ ?_
   ·intro hb10
    have hs7 := ZD hs7 hb10
    refine wp_skip (Zz (wp_seq (wp_block ?_)))
    obtain ⟨j11, hl12, hF13⟩ := bind_some hs7
    refine ZR (fun a w => Env 27 a [(0, v0_1), (1, v1_1), (5, (vI s6)), (26, (vT j11))] ∧ M (Old w0) w0 w []) ?_ ?_
    ·skip
     obtain ⟨x15, e16, hl12⟩ := bind_some hl12
     have hi17 := ZY e16
     obtain ⟨x18, e19, hl12⟩ := bind_some hl12
     have hi20 := ZY e19
     obtain ⟨r21, e22, hl12⟩ := bind_some hl12
     refine Yo (n := 27) (hd := [_, _, _, _, _, _, _, _, _, _]) (tl := []) YU rfl rfl [17, 18, 19, 20, 21, 22, 23, 24, 25, 26] (by decide) (fun w => M (Old w0) w0 w []) (fun j => ([fun v _ => v = v0_1, fun v _ => v = (vI s6), fun v _ => v = (ptr (sb v0_1) (so v0_1 + (s6).toNat * 34)), fun v _ => v = (Value.agg (Flat.enc x15).toArray), fun v _ => v = v1_1, fun v _ => v = (vI s6), fun v _ => v = (ptr (sb v1_1) (so v1_1 + (s6).toNat * 34)), fun v _ => v = (Value.agg (Flat.enc x18).toArray), fun v _ => v = (vT r21), fun v _ => v = (vT (!r21))] : List (Value → World → Prop)).getD j (fun _ _ => True)) (fun _ _ h hk => h.keep hk) (gup (Zj (Zj (Zj (Zj (Zj (Zj (Zj (Zj (Zj (Zj Vq))))))))))) hE hM.drew (ZM (Zb ?_ (Zb ?_ (Zb ?_ (Zb ?_ (Zb ?_ (Zb ?_ (Zb ?_ (Zb ?_ (Zb ?_ (Zb ?_ ZH))))))))))) ?_
     ·intro a w ux14 hE hM hp
      refine Zd hE Za (dl rfl) rfl ?_; intro a hE
      exact ⟨Kept.refl _ _, _, _, rfl, hE, rfl⟩
     ·intro a w ux14 hE hM hp
      refine Zd hE Za (dl rfl) rfl ?_; intro a hE
      exact ⟨Kept.refl _ _, _, _, rfl, hE, rfl⟩
     ·intro a w ux14 hE hM hp
      have f0 : ux14 0 = v0_1 := hp 0 _ rfl rfl
      have f1 : ux14 1 = (vI s6) := hp 1 _ rfl rfl
      refine ZX hE Za (dl rfl) (lk rfl f0) (lk rfl f1) Tryz.underlying34 UY (hM.rd hv0_1) hi17.1 ?_; intro a hE
      exact ⟨Kept.refl _ _, _, _, rfl, hE, rfl⟩
     ·intro a w ux14 hE hM hp
      have f2 : ux14 2 = (ptr (sb v0_1) (so v0_1 + (s6).toNat * 34)) := hp 0 _ rfl rfl
      refine Zm (cs := Flat.enc x15) hE Za (dl rfl) (lk rfl f2) UY rfl (Wh (hM.rd hv0_1) hi17.2) (ZB (cl1 (n := 1) (m := 33) rfl (cl1 (n := 1) (m := 32) rfl (cl1 (n := 32) (m := 0) (Flat.len _) cl0)))) ?_; intro a hE
      exact ⟨Kept.refl _ _, _, _, rfl, hE, rfl⟩
     ·intro a w ux14 hE hM hp
      refine Zd hE Za (dl rfl) rfl ?_; intro a hE
      exact ⟨Kept.refl _ _, _, _, rfl, hE, rfl⟩
     ·intro a w ux14 hE hM hp
      refine Zd hE Za (dl rfl) rfl ?_; intro a hE
      exact ⟨Kept.refl _ _, _, _, rfl, hE, rfl⟩
     ·intro a w ux14 hE hM hp
      have f4 : ux14 4 = v1_1 := hp 0 _ rfl rfl
      have f5 : ux14 5 = (vI s6) := hp 1 _ rfl rfl
      refine ZX hE Za (dl rfl) (lk rfl f4) (lk rfl f5) Tryz.underlying34 UY (hM.rd hv1_1) hi20.1 ?_; intro a hE
      exact ⟨Kept.refl _ _, _, _, rfl, hE, rfl⟩
     ·intro a w ux14 hE hM hp
      have f6 : ux14 6 = (ptr (sb v1_1) (so v1_1 + (s6).toNat * 34)) := hp 0 _ rfl rfl
      refine Zm (cs := Flat.enc x18) hE Za (dl rfl) (lk rfl f6) UY rfl (Wh (hM.rd hv1_1) hi20.2) (ZB (cl1 (n := 1) (m := 33) rfl (cl1 (n := 1) (m := 32) rfl (cl1 (n := 32) (m := 0) (Flat.len _) cl0)))) ?_; intro a hE
      exact ⟨Kept.refl _ _, _, _, rfl, hE, rfl⟩
     ·intro a w ux14 hE hM hp
      have f3 : ux14 3 = (Value.agg (Flat.enc x15).toArray) := hp 0 _ rfl rfl
      have f7 : ux14 7 = (Value.agg (Flat.enc x18).toArray) := hp 1 _ rfl rfl
      refine Zs (vs := [(Value.agg (Flat.enc x15).toArray), (Value.agg (Flat.enc x18).toArray)]) hE Za (dl rfl) (ZZ (ZT (lk rfl f3) (ZT (lk rfl f7) Y7))) cb144 (c_laws_eqEvent _ x15 x18 r21 e22) ?_
      rintro v w a ⟨rfl, hK⟩ hE
      exact ⟨hK, _, _, rfl, hE, rfl⟩
     ·intro a w ux14 hE hM hp
      have f8 : ux14 8 = (vT r21) := hp 0 _ rfl rfl
      refine WF hE Za (dl rfl) (lk rfl f8) ?_; intro a hE
      exact ⟨Kept.refl _ _, _, _, rfl, hE, rfl⟩
     ·intro a w ux14 hE hM hg
      have f0 : ux14 0 = v0_1 := hg 0 (by decide)
      have f1 : ux14 1 = (vI s6) := hg 1 (by decide)
      have f2 : ux14 2 = (ptr (sb v0_1) (so v0_1 + (s6).toNat * 34)) := hg 2 (by decide)
      have f3 : ux14 3 = (Value.agg (Flat.enc x15).toArray) := hg 3 (by decide)
      have f4 : ux14 4 = v1_1 := hg 4 (by decide)
      have f5 : ux14 5 = (vI s6) := hg 5 (by decide)
      have f6 : ux14 6 = (ptr (sb v1_1) (so v1_1 + (s6).toNat * 34)) := hg 6 (by decide)
      have f7 : ux14 7 = (Value.agg (Flat.enc x18).toArray) := hg 7 (by decide)
      have f8 : ux14 8 = (vT r21) := hg 8 (by decide)
      have f9 : ux14 9 = (vT (!r21)) := hg 9 (by decide)
      have hE := hE.sub (e' := [(17, v0_1), (18, (vI s6)), (19, (ptr (sb v0_1) (so v0_1 + (s6).toNat * 34))), (20, (Value.agg (Flat.enc x15).toArray)), (21, v1_1), (22, (vI s6)), (23, (ptr (sb v1_1) (so v1_1 + (s6).toNat * 34))), (24, (Value.agg (Flat.enc x18).toArray)), (25, (vT r21)), (26, (vT (!r21))), (0, v0_1), (1, v1_1), (5, (vI s6)), (11, (vI s6)), (12, v0_1), (13, (vI (p0.length : Int))), (14, (vT (decide (s6 < (p0.length : Int)))))]) ⟨lk rfl f0, lk rfl f1, lk rfl f2, lk rfl f3, lk rfl f4, lk rfl f5, lk rfl f6, lk rfl f7, lk rfl f8, lk rfl f9, rfl, rfl, rfl, rfl, rfl, rfl, rfl, trivial⟩
      refine Zk ?_
      have ht23 := Option.some.inj hl12
      subst ht23
      refine Zn ?_
      exact ⟨hE.sub ⟨rfl, rfl, rfl, rfl, trivial⟩, hM⟩
    ·skip
     rintro a w ⟨hE, hM⟩
     refine Zw hE rfl ?_ ?_
     ·intro hb24
      have hF13 := ZD hF13 hb24
      refine Zc (Ze hE Za (dl rfl) rfl ?_); intro a hE
      refine Zf ?_
      have ht25 := hx8 _ (Option.some.inj hF13).symm
      subst ht25
      have hr := Option.some.inj hF4
      subst hr
      exact wp_ret (Wg (ZG (ZG (Wg (ZG (ZG (Zy hE rfl (Zu hE rfl) ⟨_, rfl, rfl, hM.kept⟩)))))))
     ·intro hb24
      have hF13 := ZC hF13 hb24
      refine wp_skip (Yl (Zz (wp_region_lit (Zd hE Za (dl rfl) rfl ?_)))); intro a hE
      refine Zh hE Za (dl rfl) rfl rfl rfl ?_; intro a hE
      refine Ze hE Za (dl rfl) rfl ?_; intro a hE
      refine Zk (Zn ?_)
      exact ⟨_, (Option.some.inj hF13).symm, hE.sub ⟨rfl, rfl, rfl, trivial⟩, hM⟩
   ·intro hb10
    have hs7 := ZC hs7 hb10
    refine wp_exit (Zr (Zr (Yk ?_)))
    have ht26 := hx8 _ (Option.some.inj hs7).symm
    subst ht26
    refine Zn ?_
    exact ⟨(), rfl, hE.sub trivial, hM⟩
  ·skip
   rintro a w ⟨s5, ht, hE, hM⟩
   subst ht
   have hF4 := el_nx hF4
   refine Zz (Zc (Ze hE Za (dl rfl) rfl ?_)); intro a hE
   refine Zf ?_
   have hr := Option.some.inj hF4
   subst hr
   exact wp_ret (Zy hE rfl (Zu hE rfl) ⟨_, rfl, rfl, hM.kept⟩)
noncomputable def Ub (p0 : GVault) (p1 : GVault) : Option (Bool) :=
 (VB p0.Keys p1.Keys).bind fun r5 => if (!r5) = true then (some false) else (if (p0.Next != p1.Next) = true then (some false) else ((Va p0.Records p1.Records).bind fun r9 => if (!r9) = true then (some false) else ((VH p0.Events p1.Events).bind fun r12 => if (!r12) = true then (some false) else ((Xa p0.Head p1.Head).bind fun r15 => if (!r15) = true then (some false) else (some true)))))
theorem c_laws_eqVault (w0 : World) (p0 : GVault) (v0_1 : Value) (hv0_1 : Ro w0 p0.Keys [v0_1]) (v0_2 : Value) (hv0_2 : Ro w0 p0.Records [v0_2]) (v0_3 : Value) (hv0_3 : Ro w0 p0.Events [v0_3]) (p1 : GVault) (v1_1 : Value) (hv1_1 : Ro w0 p1.Keys [v1_1]) (v1_2 : Value) (hv1_2 : Ro w0 p1.Records [v1_2]) (v1_3 : Value) (hv1_3 : Ro w0 p1.Events [v1_3]) (r : Bool) (hF : Ub p0 p1 = some r) :
  Calls Tryz.prog 17 [(Value.agg (cat [[v0_1], [(vI p0.Next)], [v0_2], [v0_3], Flat.enc p0.Head]).toArray), (Value.agg (cat [[v1_1], [(vI p1.Next)], [v1_2], [v1_3], Flat.enc p1.Head]).toArray)].toArray w0 (fun en w' => ∃ v, en = .returned v ∧ (v = (vT r) ∧ Kept (Old w0) w0 w')) := by
 refine ZA (n := 34) Tryz.func17 rfl rfl (Nat.le_of_ble_eq_true rfl) rfl ?_
 intro a hE
 have hM := M.start w0
 unfold Ub at hF
 refine Zc (ZV (cs := cat [[v0_1], [(vI p0.Next)], [v0_2], [v0_3], Flat.enc p0.Head]) hE hM Za (dl rfl) rfl rfl ?_); intro b1 w a hM hE
 refine ZV (cs := cat [[v1_1], [(vI p1.Next)], [v1_2], [v1_3], Flat.enc p1.Head]) hE hM Za (dl rfl) rfl rfl ?_; intro b3 w a hM hE
 refine Ze hE Za (dl rfl) rfl ?_; intro a hE
 refine Zf (wp_seq (Zc (Zg hE Za (dl rfl) rfl (fd36_0) ?_))); intro a hE
 refine Zq (v := v0_1) hE Za (dl rfl) rfl ty32 rfl (At.cat (pre := []) (hM.rawAt (pre := [_])) cl0) ?_; intro a hE
 refine Zg hE Za (dl rfl) rfl (fd36_0) ?_; intro a hE
 refine Zq (v := v1_1) hE Za (dl rfl) rfl ty32 rfl (At.cat (pre := []) (hM.rawAt (pre := [])) cl0) ?_; intro a hE
 obtain ⟨r5, e6, hF⟩ := bind_some hF
 refine Zs (vs := [v0_1, v1_1]) hE Za (dl rfl) rfl cb62 (c_laws_eqBlockS _ p0.Keys v0_1 (hM.rdo hv0_1) p1.Keys v1_1 (hM.rdo hv1_1) r5 e6) ?_
 rintro v w a ⟨rfl, hK⟩ hE
 have hM := hM.keep hK
 refine WF hE Za (dl rfl) rfl ?_; intro a hE
 refine Zf ?_
 refine Zw hE rfl ?_ ?_
 ·intro hb7
  have hF := ZD hF hb7
  refine Zc (Ze hE Za (dl rfl) rfl ?_); intro a hE
  refine Zf ?_
  have hr := Option.some.inj hF
  subst hr
  have hM := M.fst (l := []) hM
  exact wp_ret (ZG (Zy hE rfl (Zu hE rfl) ⟨_, rfl, rfl, hM.kept⟩))
 ·intro hb7
  have hF := ZC hF hb7
  refine wp_skip (Zz (wp_seq (Zc (Zg hE Za (dl rfl) rfl (fd36_1) ?_)))); intro a hE
  refine Zq (v := (vI p0.Next)) hE Za (dl rfl) rfl ty2 rfl (At.cat (pre := [[v0_1]]) (hM.rawAt (pre := [_])) (cl1 (n := 1) (m := 0) rfl cl0)) ?_; intro a hE
  refine Zg hE Za (dl rfl) rfl (fd36_1) ?_; intro a hE
  refine Zq (v := (vI p1.Next)) hE Za (dl rfl) rfl ty2 rfl (At.cat (pre := [[v1_1]]) (hM.rawAt (pre := [])) (cl1 (n := 1) (m := 0) rfl cl0)) ?_; intro a hE
  refine Zh hE Za (dl rfl) rfl rfl rfl ?_; intro a hE
  refine Zf ?_
  refine Zw hE rfl ?_ ?_
  ·intro hb8
   have hF := ZD hF hb8
   refine Zc (Ze hE Za (dl rfl) rfl ?_); intro a hE
   refine Zf ?_
   have hr := Option.some.inj hF
   subst hr
   have hM := M.fst (l := []) hM
   exact wp_ret (ZG (Zy hE rfl (Zu hE rfl) ⟨_, rfl, rfl, hM.kept⟩))
  ·intro hb8
   have hF := ZC hF hb8
   refine wp_skip (Zz (wp_seq (Zc (Zg hE Za (dl rfl) rfl (U8) ?_)))); intro a hE
   refine Zq (v := v0_2) hE Za (dl rfl) rfl ty33 rfl (At.cat (pre := [[v0_1], [(vI p0.Next)]]) (hM.rawAt (pre := [_])) (cl1 (n := 1) (m := 1) rfl (cl1 (n := 1) (m := 0) rfl cl0))) ?_; intro a hE
   refine Zg hE Za (dl rfl) rfl (U8) ?_; intro a hE
   refine Zq (v := v1_2) hE Za (dl rfl) rfl ty33 rfl (At.cat (pre := [[v1_1], [(vI p1.Next)]]) (hM.rawAt (pre := [])) (cl1 (n := 1) (m := 1) rfl (cl1 (n := 1) (m := 0) rfl cl0))) ?_; intro a hE
   obtain ⟨r9, e10, hF⟩ := bind_some hF
   refine Zs (vs := [v0_2, v1_2]) hE Za (dl rfl) rfl cb63 (c_laws_eqRecordS _ p0.Records v0_2 (hM.rdo hv0_2) p1.Records v1_2 (hM.rdo hv1_2) r9 e10) ?_
   rintro v w a ⟨rfl, hK⟩ hE
   have hM := hM.keep hK
   refine WF hE Za (dl rfl) rfl ?_; intro a hE
   refine Zf ?_
   refine Zw hE rfl ?_ ?_
   ·intro hb11
    have hF := ZD hF hb11
    refine Zc (Ze hE Za (dl rfl) rfl ?_); intro a hE
    refine Zf ?_
    have hr := Option.some.inj hF
    subst hr
    have hM := M.fst (l := []) hM
    exact wp_ret (ZG (Zy hE rfl (Zu hE rfl) ⟨_, rfl, rfl, hM.kept⟩))
   ·intro hb11
    have hF := ZC hF hb11
    refine wp_skip (Zz (wp_seq (Zc (Zg hE Za (dl rfl) rfl (fd36_3) ?_)))); intro a hE
    refine Zq (v := v0_3) hE Za (dl rfl) rfl ty34 rfl (At.cat (pre := [[v0_1], [(vI p0.Next)], [v0_2]]) (hM.rawAt (pre := [_])) (cl1 (n := 1) (m := 2) rfl (cl1 (n := 1) (m := 1) rfl (cl1 (n := 1) (m := 0) rfl cl0)))) ?_; intro a hE
    refine Zg hE Za (dl rfl) rfl (fd36_3) ?_; intro a hE
    refine Zq (v := v1_3) hE Za (dl rfl) rfl ty34 rfl (At.cat (pre := [[v1_1], [(vI p1.Next)], [v1_2]]) (hM.rawAt (pre := [])) (cl1 (n := 1) (m := 2) rfl (cl1 (n := 1) (m := 1) rfl (cl1 (n := 1) (m := 0) rfl cl0)))) ?_; intro a hE
    obtain ⟨r12, e13, hF⟩ := bind_some hF
    refine Zs (vs := [v0_3, v1_3]) hE Za (dl rfl) rfl cb64 (c_laws_eqEventS _ p0.Events v0_3 (hM.rdo hv0_3) p1.Events v1_3 (hM.rdo hv1_3) r12 e13) ?_
    rintro v w a ⟨rfl, hK⟩ hE
    have hM := hM.keep hK
    refine WF hE Za (dl rfl) rfl ?_; intro a hE
    refine Zf ?_
    refine Zw hE rfl ?_ ?_
    ·intro hb14
     have hF := ZD hF hb14
     refine Zc (Ze hE Za (dl rfl) rfl ?_); intro a hE
     refine Zf ?_
     have hr := Option.some.inj hF
     subst hr
     have hM := M.fst (l := []) hM
     exact wp_ret (ZG (Zy hE rfl (Zu hE rfl) ⟨_, rfl, rfl, hM.kept⟩))
    ·intro hb14
     have hF := ZC hF hb14
     refine wp_skip (Zz (wp_seq (Zc (Zg hE Za (dl rfl) rfl (fd36_4) ?_)))); intro a hE
     refine Zm (cs := Flat.enc p0.Head) hE Za (dl rfl) rfl Z9 rfl (At.cat (pre := [[v0_1], [(vI p0.Next)], [v0_2], [v0_3]]) (hM.rawAt (pre := [_])) (cl1 (n := 1) (m := 3) rfl (cl1 (n := 1) (m := 2) rfl (cl1 (n := 1) (m := 1) rfl (cl1 (n := 1) (m := 0) rfl cl0))))) (Flat.len _) ?_; intro a hE
     refine Zg hE Za (dl rfl) rfl (fd36_4) ?_; intro a hE
     refine Zm (cs := Flat.enc p1.Head) hE Za (dl rfl) rfl Z9 rfl (At.cat (pre := [[v1_1], [(vI p1.Next)], [v1_2], [v1_3]]) (hM.rawAt (pre := [])) (cl1 (n := 1) (m := 3) rfl (cl1 (n := 1) (m := 2) rfl (cl1 (n := 1) (m := 1) rfl (cl1 (n := 1) (m := 0) rfl cl0))))) (Flat.len _) ?_; intro a hE
     obtain ⟨r15, e16, hF⟩ := bind_some hF
     refine Zs (vs := [(Value.agg (Flat.enc p0.Head).toArray), (Value.agg (Flat.enc p1.Head).toArray)]) hE Za (dl rfl) rfl cb16 (UG _ p0.Head p1.Head r15 e16) ?_
     rintro v w a ⟨rfl, hK⟩ hE
     have hM := hM.keep hK
     refine WF hE Za (dl rfl) rfl ?_; intro a hE
     refine Zf ?_
     refine Zw hE rfl ?_ ?_
     ·intro hb17
      have hF := ZD hF hb17
      refine Zc (Ze hE Za (dl rfl) rfl ?_); intro a hE
      refine Zf ?_
      have hr := Option.some.inj hF
      subst hr
      have hM := M.fst (l := []) hM
      exact wp_ret (ZG (Zy hE rfl (Zu hE rfl) ⟨_, rfl, rfl, hM.kept⟩))
     ·intro hb17
      have hF := ZC hF hb17
      refine wp_skip (Zz (Zc (Ze hE Za (dl rfl) rfl ?_))); intro a hE
      refine Zf ?_
      have hr := Option.some.inj hF
      subst hr
      have hM := M.fst (l := []) hM
      exact wp_ret (Zy hE rfl (Zu hE rfl) ⟨_, rfl, rfl, hM.kept⟩)
noncomputable def Xb (p0 : GVault) (p1 : Int) : Option (Bool) :=
 (U0 p0 1048576).bind fun r3 => if (decide (r3 < 0)) = true then (some true) else ((Wc p0).bind fun r6 => (X3 r6 p1).bind fun r11 => (Wc p0).bind fun r15 => (X4 r15 p1).bind fun r22 => ((Xa r22.1 r11.1).bind fun r29 => if (!r29) = true then (some true) else (some (r22.2 != r11.2)) : Option (Bool)).bind fun j26 => if j26 = true then (some false) else (((Wc p0).bind fun r39 => (Ub r15 r39).bind fun r48 => some (!r48) : Option (Bool)).bind fun j35 => if j35 = true then (some false) else (some true)))
theorem c_laws_FnExactTagOfRecord (w0 : World) (p0 : GVault) (v0_1 : Value) (hv0_1 : Ro w0 p0.Keys [v0_1]) (v0_2 : Value) (hv0_2 : Ro w0 p0.Records [v0_2]) (v0_3 : Value) (hv0_3 : Ro w0 p0.Events [v0_3]) (p1 : Int) (r : Bool) (hF : Xb p0 p1 = some r) :
  Calls Tryz.prog 3 [(Value.agg (cat [[v0_1], [(vI p0.Next)], [v0_2], [v0_3], Flat.enc p0.Head]).toArray), (vI p1)].toArray w0 (fun en w' => ∃ v, en = .returned v ∧ (v = (vT r) ∧ Kept (Old w0) w0 w')) := by
 refine ZA (n := 45) Tryz.func3 rfl rfl (Nat.le_of_ble_eq_true rfl) rfl ?_
 intro a hE
 have hM := M.start w0
 unfold Xb at hF
 refine Zc (ZV (cs := cat [[v0_1], [(vI p0.Next)], [v0_2], [v0_3], Flat.enc p0.Head]) hE hM Za (dl rfl) rfl rfl ?_); intro b1 w a hM hE
 refine Ze hE Za (dl rfl) rfl ?_; intro a hE
 refine Zf (Zc (Ze hE Za (dl rfl) rfl ?_)); intro a hE
 refine Zf (Zc (Zm (cs := cat [[v0_1], [(vI p0.Next)], [v0_2], [v0_3], Flat.enc p0.Head]) hE Za (dl rfl) rfl ty27 rfl (hM.rawAt (pre := [])) (ZB (cl1 (n := 1) (m := 35) rfl (cl1 (n := 1) (m := 34) rfl (cl1 (n := 1) (m := 33) rfl (cl1 (n := 1) (m := 32) rfl (cl1 (n := 32) (m := 0) (Flat.len _) cl0)))))) ?_)); intro a hE
 refine Zd hE Za (dl rfl) rfl ?_; intro a hE
 obtain ⟨r3, e4, hF⟩ := bind_some hF
 refine Zs (vs := [(Value.agg (cat [[v0_1], [(vI p0.Next)], [v0_2], [v0_3], Flat.enc p0.Head]).toArray), (vI 1048576)]) hE Za (dl rfl) rfl cb12 (c_laws_szVault _ p0 v0_1 (hM.rdo hv0_1) v0_2 (hM.rdo hv0_2) v0_3 (hM.rdo hv0_3) 1048576 r3 e4) ?_
 rintro v w a ⟨rfl, hK⟩ hE
 have hM := hM.keep hK
 refine Ze hE Za (dl rfl) rfl ?_; intro a hE
 refine Zf (wp_seq (Zc (Zd hE Za (dl rfl) rfl ?_))); intro a hE
 refine Zh hE Za (dl rfl) rfl rfl rfl ?_; intro a hE
 refine Zf ?_
 refine Zw hE rfl ?_ ?_
 ·intro hb5
  have hF := ZD hF hb5
  refine Zc (Ze hE Za (dl rfl) rfl ?_); intro a hE
  refine Zf ?_
  have hr := Option.some.inj hF
  subst hr
  have hM := M.fst (l := []) hM
  exact wp_ret (ZG (Zy hE rfl (Zu hE rfl) ⟨_, rfl, rfl, hM.kept⟩))
 ·intro hb5
  have hF := ZC hF hb5
  refine wp_skip (Zz (Zc (Zm (cs := cat [[v0_1], [(vI p0.Next)], [v0_2], [v0_3], Flat.enc p0.Head]) hE Za (dl rfl) rfl ty27 rfl (hM.rawAt (pre := [])) (ZB (cl1 (n := 1) (m := 35) rfl (cl1 (n := 1) (m := 34) rfl (cl1 (n := 1) (m := 33) rfl (cl1 (n := 1) (m := 32) rfl (cl1 (n := 32) (m := 0) (Flat.len _) cl0)))))) ?_))); intro a hE
  obtain ⟨r6, e7, hF⟩ := bind_some hF
  refine Zs (vs := [(Value.agg (cat [[v0_1], [(vI p0.Next)], [v0_2], [v0_3], Flat.enc p0.Head]).toArray)]) hE Za (dl rfl) rfl cb14 (c_laws_toVault _ p0 v0_1 (hM.rdo hv0_1) v0_2 (hM.rdo hv0_2) v0_3 (hM.rdo hv0_3) r6 e7) ?_
  rintro v w a ⟨u8, u9, u10, rfl, hFr, hK⟩ hE
  have hM := hM.add hK hFr
  refine Zd hE Za (dl rfl) rfl ?_; intro a hE
  obtain ⟨r11, e12, hF⟩ := bind_some hF
  refine Zs (vs := [(Value.agg (cat [[u8], [(vI r6.Next)], [u9], [u10], Flat.enc r6.Head]).toArray), (vI p1)]) hE Za (dl rfl) rfl cb13 (c_spec_TagOfRecord _ r6 u8 (hM.sl (pre := []) noB) u9 (hM.sl (pre := [_]) noB) u10 (hM.sl (pre := [_, _]) noB) p1 r11 e12) ?_
  rintro v w a ⟨rfl, hK⟩ hE
  have hM := hM.keep hK
  refine Zd hE Za (dl rfl) rfl ?_; intro a hE
  refine VN hE Za (dl rfl) rfl rfl ?_; intro a hE
  refine VN hE Za (dl rfl) rfl rfl ?_; intro a hE
  refine ZE hE hM Za (dl rfl) Z9 ?_; intro b13 w a hM hE
  refine Zp (seg := Flat.enc r11.1) (cs' := Flat.enc r11.1) hE hM Za rfl rfl rfl Z9 (Flat.len _) (zle flq) (Flat.cell _) (Zl flq) ?_; intro w a hM hE
  refine Ze hE Za (dl rfl) rfl ?_; intro a hE
  refine Zf (Zc (Zm (cs := cat [[v0_1], [(vI p0.Next)], [v0_2], [v0_3], Flat.enc p0.Head]) hE Za (dl rfl) rfl ty27 rfl (hM.rawAt (pre := [_, _, _, _])) (ZB (cl1 (n := 1) (m := 35) rfl (cl1 (n := 1) (m := 34) rfl (cl1 (n := 1) (m := 33) rfl (cl1 (n := 1) (m := 32) rfl (cl1 (n := 32) (m := 0) (Flat.len _) cl0)))))) ?_)); intro a hE
  obtain ⟨r15, e16, hF⟩ := bind_some hF
  refine Zs (vs := [(Value.agg (cat [[v0_1], [(vI p0.Next)], [v0_2], [v0_3], Flat.enc p0.Head]).toArray)]) hE Za (dl rfl) rfl cb14 (c_laws_toVault _ p0 v0_1 (hM.rdo hv0_1) v0_2 (hM.rdo hv0_2) v0_3 (hM.rdo hv0_3) r15 e16) ?_
  rintro v w a ⟨u17, u18, u19, rfl, hFr, hK⟩ hE
  have hM := hM.add hK hFr
  refine ZE hE hM Za (dl rfl) ty36 ?_; intro b20 w a hM hE
  refine Zp (seg := cat [[u17], [(vI r15.Next)], [u18], [u19], Flat.enc r15.Head]) (cs' := cat [[u17], [(vI r15.Next)], [u18], [u19], Flat.enc r15.Head]) hE hM Za rfl rfl rfl ty36 (ZB (cl1 (n := 1) (m := 35) rfl (cl1 (n := 1) (m := 34) rfl (cl1 (n := 1) (m := 33) rfl (cl1 (n := 1) (m := 32) rfl (cl1 (n := 32) (m := 0) (Flat.len _) cl0)))))) (Nat.le_of_eq ((Nat.zero_add _).trans (Eq.trans (ZB (cl1 (n := 1) (m := 35) rfl (cl1 (n := 1) (m := 34) rfl (cl1 (n := 1) (m := 33) rfl (cl1 (n := 1) (m := 32) rfl (cl1 (n := 32) (m := 0) (Flat.len _) cl0)))))) (Eq.symm (ZB (cl1 (n := 1) (m := 35) rfl (cl1 (n := 1) (m := 34) rfl (cl1 (n := 1) (m := 33) rfl (cl1 (n := 1) (m := 32) rfl (cl1 (n := 32) (m := 0) (Flat.len _) cl0)))))))))) (WH (cc1 (Rep.cell (hM.sl (pre := [_]) noB)) (cc1 (Flat.cell (r15.Next : Int)) (cc1 (Rep.cell (hM.sl (pre := [_, _]) noB)) (cc1 (Rep.cell (hM.sl (pre := [_, _, _]) noB)) (cc1 (Flat.cell _) cc0)))))) (Zl (Eq.trans (ZB (cl1 (n := 1) (m := 35) rfl (cl1 (n := 1) (m := 34) rfl (cl1 (n := 1) (m := 33) rfl (cl1 (n := 1) (m := 32) rfl (cl1 (n := 32) (m := 0) (Flat.len _) cl0)))))) (Eq.symm (ZB (cl1 (n := 1) (m := 35) rfl (cl1 (n := 1) (m := 34) rfl (cl1 (n := 1) (m := 33) rfl (cl1 (n := 1) (m := 32) rfl (cl1 (n := 32) (m := 0) (Flat.len _) cl0))))))))) ?_; intro w a hM hE
  refine Zf (Zc (Zm (cs := cat [[u17], [(vI r15.Next)], [u18], [u19], Flat.enc r15.Head]) hE Za (dl rfl) rfl ty36 rfl (hM.rawAt (pre := [])) (ZB (cl1 (n := 1) (m := 35) rfl (cl1 (n := 1) (m := 34) rfl (cl1 (n := 1) (m := 33) rfl (cl1 (n := 1) (m := 32) rfl (cl1 (n := 32) (m := 0) (Flat.len _) cl0)))))) ?_)); intro a hE
  refine Zd hE Za (dl rfl) rfl ?_; intro a hE
  obtain ⟨r22, e23, hF⟩ := bind_some hF
  refine Zs (vs := [(Value.agg (cat [[u17], [(vI r15.Next)], [u18], [u19], Flat.enc r15.Head]).toArray), (vI p1)]) hE Za (dl rfl) rfl cb15 (c_impl_TagOfRecord _ r15 u17 (hM.sl (pre := [_]) noB) u18 (hM.sl (pre := [_, _]) noB) u19 (hM.sl (pre := [_, _, _]) noB) p1 r22 e23) ?_
  rintro v w a ⟨rfl, hK⟩ hE
  have hM := hM.keep hK
  refine Zd hE Za (dl rfl) rfl ?_; intro a hE
  refine VN hE Za (dl rfl) rfl rfl ?_; intro a hE
  refine VN hE Za (dl rfl) rfl rfl ?_; intro a hE
  refine ZE hE hM Za (dl rfl) Z9 ?_; intro b24 w a hM hE
  refine Zp (seg := Flat.enc r22.1) (cs' := Flat.enc r22.1) hE hM Za rfl rfl rfl Z9 (Flat.len _) (zle flq) (Flat.cell _) (Zl flq) ?_; intro w a hM hE
  refine Ze hE Za (dl rfl) rfl ?_; intro a hE
  refine Zf (wp_seq ?_)
  obtain ⟨j26, hl27, hF28⟩ := bind_some hF
  refine ZR (fun a w => Env 45 a [(2, (ptr b1 0)), (8, (ptr b20 0)), (39, (vT j26))] ∧ M (Old w0) w0 w [raw b20 (cat [[u17], [(vI r15.Next)], [u18], [u19], Flat.enc r15.Head]), osl NoB (r15.Keys : List (Vector UInt8 16)) u17, osl NoB (r15.Records : List GRecord) u18, osl NoB (r15.Events : List GEvent) u19, raw b1 (cat [[v0_1], [(vI p0.Next)], [v0_2], [v0_3], Flat.enc p0.Head])]) ?_ ?_
  ·skip
   refine wp_region_lit (Zm (cs := Flat.enc r22.1) hE Za (dl rfl) rfl Z9 rfl (hM.rawAt (pre := [])) (Flat.len _) ?_); intro a hE
   refine Zm (cs := Flat.enc r11.1) hE Za (dl rfl) rfl Z9 rfl (hM.rawAt (pre := [_, _, _, _, _])) (Flat.len _) ?_; intro a hE
   obtain ⟨r29, e30, hl27⟩ := bind_some hl27
   refine Zs (vs := [(Value.agg (Flat.enc r22.1).toArray), (Value.agg (Flat.enc r11.1).toArray)]) hE Za (dl rfl) rfl cb16 (UG _ r22.1 r11.1 r29 e30) ?_
   rintro v w a ⟨rfl, hK⟩ hE
   have hM := hM.keep hK
   refine WF hE Za (dl rfl) rfl ?_; intro a hE
   refine Zd hE Za (dl rfl) rfl ?_; intro a hE
   refine Wj (!r29) (fun hb31 => ?_) (fun hb31 => ?_)
   ·have hl27 := ZD hl27 hb31
    refine Zt hE rfl (lkb rfl hb31) rfl (by decide) ?_; intro a hE
    refine Zt hE rfl (lkb rfl hb31) rfl (by decide) ?_; intro a hE
    refine Zt hE rfl (lkb rfl hb31) rfl (by decide) ?_; intro a hE
    refine Ya hE Za (dl rfl) (lkb rfl hb31) rfl ?_; intro a hE
    refine Zk ?_
    have ht32 := Option.some.inj hl27
    subst ht32
    refine Zn ?_
    have hM := hM.pull (pre := [_, _, _, _, _, _, _, _, _])
    have hM := hM.pull (pre := [_, _, _, _, _])
    have hM := hM.pull (pre := [_, _, _, _, _])
    have hM := hM.pull (pre := [_, _, _, _, _])
    have hM := hM.pull (pre := [_, _, _, _, _])
    have hM := M.fst (l := [_, _, _, _, _]) hM
    exact ⟨hE.sub ⟨rfl, rfl, rfl, trivial⟩, hM⟩
   ·have hl27 := ZC hl27 hb31
    refine Zd hE (Zv hE rfl (lkb rfl hb31)) (by decide) rfl ?_; intro a hE
    refine Zd hE (Zv hE rfl (lkb rfl hb31)) (by decide) rfl ?_; intro a hE
    refine Zh hE (Zv hE rfl (lkb rfl hb31)) (by decide) rfl rfl rfl ?_; intro a hE
    refine YT hE Za (dl rfl) (lkb rfl hb31) rfl ?_; intro a hE
    refine Zk ?_
    have ht33 := Option.some.inj hl27
    subst ht33
    refine Zn ?_
    have hM := hM.pull (pre := [_, _, _, _, _, _, _, _, _])
    have hM := hM.pull (pre := [_, _, _, _, _])
    have hM := hM.pull (pre := [_, _, _, _, _])
    have hM := hM.pull (pre := [_, _, _, _, _])
    have hM := hM.pull (pre := [_, _, _, _, _])
    have hM := M.fst (l := [_, _, _, _, _]) hM
    exact ⟨hE.sub ⟨rfl, rfl, rfl, trivial⟩, hM⟩
  ·skip
   rintro a w ⟨hE, hM⟩
   refine Zw hE rfl ?_ ?_
   ·intro hb34
    have hF28 := ZD hF28 hb34
    refine Zc (Ze hE Za (dl rfl) rfl ?_); intro a hE
    refine Zf ?_
    have hr := Option.some.inj hF28
    subst hr
    have hM := M.fst (l := []) hM
    exact wp_ret (ZG (Zy hE rfl (Zu hE rfl) ⟨_, rfl, rfl, hM.kept⟩))
   ·intro hb34
    have hF28 := ZC hF28 hb34
    refine wp_skip (Zz (wp_seq ?_))
    obtain ⟨j35, hl36, hF37⟩ := bind_some hF28
    refine ZR (fun a w => Env 45 a [(44, (vT j35))] ∧ M (Old w0) w0 w []) ?_ ?_
    ·skip
     obtain ⟨r39, e40, hl36⟩ := bind_some hl36
     refine c_draw2 (n := 45) (hd := [_, _, _]) (tl := [_, _]) (its := [raw b20 (cat [[u17], [(vI r15.Next)], [u18], [u19], Flat.enc r15.Head]), osl NoB (r15.Keys : List (Vector UInt8 16)) u17, osl NoB (r15.Records : List GRecord) u18, osl NoB (r15.Events : List GEvent) u19, raw b1 (cat [[v0_1], [(vI p0.Next)], [v0_2], [v0_3], Flat.enc p0.Head])]) YU rfl rfl [40, 41, 42] (by decide) [(2, fun v => own NoB r39 (Value.cells v).toList)] rfl (fun j => ([fun v => v = (Value.agg (cat [[u17], [(vI r15.Next)], [u18], [u19], Flat.enc r15.Head]).toArray), fun v => v = (Value.agg (cat [[v0_1], [(vI p0.Next)], [v0_2], [v0_3], Flat.enc p0.Head]).toArray), fun v => ∃ cs, v = .agg cs] : List (Value → Prop)).getD j (fun _ => True)) hE hM.drew (ZM (Zb ?_ (Zb ?_ (Zb ?_ ZH)))) ?_
     ·intro a w ux38 D hE hM hD hp
      have hM0 := hM
      have hM : M (Old w0) w0 w [raw b20 (cat [[u17], [(vI r15.Next)], [u18], [u19], Flat.enc r15.Head]), osl NoB (r15.Keys : List (Vector UInt8 16)) u17, osl NoB (r15.Records : List GRecord) u18, osl NoB (r15.Events : List GEvent) u19, raw b1 (cat [[v0_1], [(vI p0.Next)], [v0_2], [v0_3], Flat.enc p0.Head]), opt (D 2) (own NoB r39 (Value.cells (ux38 2)).toList)] := hM
      refine Zm (cs := cat [[u17], [(vI r15.Next)], [u18], [u19], Flat.enc r15.Head]) hE Za (dl rfl) rfl ty36 rfl (hM.rawAt (pre := [])) (ZB (cl1 (n := 1) (m := 35) rfl (cl1 (n := 1) (m := 34) rfl (cl1 (n := 1) (m := 33) rfl (cl1 (n := 1) (m := 32) rfl (cl1 (n := 32) (m := 0) (Flat.len _) cl0)))))) ?_; intro a hE
      exact ⟨_, _, rfl, hE, rfl, hM0.optKeep rfl⟩
     ·intro a w ux38 D hE hM hD hp
      have hM0 := hM
      have hM : M (Old w0) w0 w [raw b20 (cat [[u17], [(vI r15.Next)], [u18], [u19], Flat.enc r15.Head]), osl NoB (r15.Keys : List (Vector UInt8 16)) u17, osl NoB (r15.Records : List GRecord) u18, osl NoB (r15.Events : List GEvent) u19, raw b1 (cat [[v0_1], [(vI p0.Next)], [v0_2], [v0_3], Flat.enc p0.Head]), opt (D 2) (own NoB r39 (Value.cells (ux38 2)).toList)] := hM
      refine Zm (cs := cat [[v0_1], [(vI p0.Next)], [v0_2], [v0_3], Flat.enc p0.Head]) hE Za (dl rfl) rfl ty27 rfl (hM.rawAt (pre := [_, _, _, _])) (ZB (cl1 (n := 1) (m := 35) rfl (cl1 (n := 1) (m := 34) rfl (cl1 (n := 1) (m := 33) rfl (cl1 (n := 1) (m := 32) rfl (cl1 (n := 32) (m := 0) (Flat.len _) cl0)))))) ?_; intro a hE
      exact ⟨_, _, rfl, hE, rfl, hM0.optKeep rfl⟩
     ·intro a w ux38 D hE hM hD hp
      have f1 : ux38 1 = (Value.agg (cat [[v0_1], [(vI p0.Next)], [v0_2], [v0_3], Flat.enc p0.Head]).toArray) := (hp 0 _ rfl rfl).2
      have hM0 := hM
      have hM : M (Old w0) w0 w [raw b20 (cat [[u17], [(vI r15.Next)], [u18], [u19], Flat.enc r15.Head]), osl NoB (r15.Keys : List (Vector UInt8 16)) u17, osl NoB (r15.Records : List GRecord) u18, osl NoB (r15.Events : List GEvent) u19, raw b1 (cat [[v0_1], [(vI p0.Next)], [v0_2], [v0_3], Flat.enc p0.Head]), opt (D 2) (own NoB r39 (Value.cells (ux38 2)).toList)] := hM
      refine Zs (vs := [(Value.agg (cat [[v0_1], [(vI p0.Next)], [v0_2], [v0_3], Flat.enc p0.Head]).toArray)]) hE Za (dl rfl) (ZZ (ZT (lk rfl f1) Y7)) cb14 (c_laws_toVault _ p0 v0_1 (hM.rdo hv0_1) v0_2 (hM.rdo hv0_2) v0_3 (hM.rdo hv0_3) r39 e40) ?_
      rintro _ w a ⟨u41, u42, u43, rfl, hFr, hK⟩ hE
      have hM := hM0.add hK hFr
      have hM := hM.packL (m := [osl NoB (r39.Keys : List (Vector UInt8 16)) u41, osl NoB (r39.Records : List GRecord) u42, osl NoB (r39.Events : List GEvent) u43]) (it := own NoB r39 (cat [[u41], [(vI r39.Next)], [u42], [u43], Flat.enc r39.Head])) (own_loc noB) (fun fp h => by obtain ⟨_, _, rfl, _, s1, _, _, rfl, _, s2, _, _, rfl, _, s3, rfl⟩ := h; exact pk_GVault (Vk.sat s1) (Vk.sat s2) (Vk.sat s3) (by simp))
      exact ⟨_, _, rfl, hE, ⟨_, rfl⟩, M.optFill (mk1 := []) (mk2 := []) (f := (fun v => own NoB r39 (Value.cells v).toList)) hM rfl hD⟩
     ·intro a w ux38 hE hM hg
      have f0 : ux38 0 = (Value.agg (cat [[u17], [(vI r15.Next)], [u18], [u19], Flat.enc r15.Head]).toArray) := hg 0 (by decide)
      have f1 : ux38 1 = (Value.agg (cat [[v0_1], [(vI p0.Next)], [v0_2], [v0_3], Flat.enc p0.Head]).toArray) := hg 1 (by decide)
      have hM : M (Old w0) w0 w [raw b20 (cat [[u17], [(vI r15.Next)], [u18], [u19], Flat.enc r15.Head]), osl NoB (r15.Keys : List (Vector UInt8 16)) u17, osl NoB (r15.Records : List GRecord) u18, osl NoB (r15.Events : List GEvent) u19, raw b1 (cat [[v0_1], [(vI p0.Next)], [v0_2], [v0_3], Flat.enc p0.Head]), own NoB r39 (Value.cells (ux38 2)).toList] := hM
      obtain ⟨q2_1, q2_2, q2_3, hcz, hq2_1, hq2_2, hq2_3⟩ := un_GVault (hM.ro (pre := [_, _, _, _, _]) noB)
      obtain ⟨cz, hvz⟩ := hg 2 (by decide)
      have f2 : ux38 2 = (Value.agg (cat [[q2_1], [(vI r39.Next)], [q2_2], [q2_3], Flat.enc r39.Head]).toArray) := by rw [hvz] at hcz ⊢; exact congrArg Value.agg (toList_eq hcz)
      have hM := hM.pull (pre := [_, _, _, _, _])
      rw [f2] at hM
      have hM := hM.unpackL (m := [own NoB (r39.Keys : (List (Vector UInt8 16))) [q2_1], own NoB (r39.Records : (List GRecord)) [q2_2], own NoB (r39.Events : (List GEvent)) [q2_3]]) (fun fp h => by obtain ⟨_, _, _, rfl, s1, s2, s3⟩ := unc_GVault h; exact (XN.cons (own_loc noB) s1 (XN.cons (own_loc noB) s2 (XN.one (own_loc noB) s3))))
      simp only [List.cons_append, List.nil_append] at hM
      have hE := hE.sub (e' := [(40, (Value.agg (cat [[u17], [(vI r15.Next)], [u18], [u19], Flat.enc r15.Head]).toArray)), (41, (Value.agg (cat [[v0_1], [(vI p0.Next)], [v0_2], [v0_3], Flat.enc p0.Head]).toArray)), (42, (Value.agg (cat [[q2_1], [(vI r39.Next)], [q2_2], [q2_3], Flat.enc r39.Head]).toArray)), (2, (ptr b1 0)), (8, (ptr b20 0)), (39, (vT j26))]) ⟨lk rfl f0, lk rfl f1, lk rfl f2, rfl, rfl, rfl, trivial⟩
      obtain ⟨r48, e49, hl36⟩ := bind_some hl36
      refine Zs (vs := [(Value.agg (cat [[u17], [(vI r15.Next)], [u18], [u19], Flat.enc r15.Head]).toArray), (Value.agg (cat [[q2_1], [(vI r39.Next)], [q2_2], [q2_3], Flat.enc r39.Head]).toArray)]) hE Za (dl rfl) rfl cb17 (c_laws_eqVault _ r15 u17 (hM.sl (pre := [_, _, _, _]) noB) u18 (hM.sl (pre := [_, _, _, _, _]) noB) u19 (hM.sl (pre := [_, _, _, _, _, _]) noB) r39 q2_1 (hM.ro (pre := []) noB) q2_2 (hM.ro (pre := [_]) noB) q2_3 (hM.ro (pre := [_, _]) noB) r48 e49) ?_
      rintro v w a ⟨rfl, hK⟩ hE
      have hM := hM.keep hK
      refine WF hE Za (dl rfl) rfl ?_; intro a hE
      refine Zk ?_
      have ht50 := Option.some.inj hl36
      subst ht50
      refine Zn ?_
      have hM := M.fst (l := []) hM
      exact ⟨hE.sub ⟨rfl, trivial⟩, hM⟩
    ·skip
     rintro a w ⟨hE, hM⟩
     refine Zw hE rfl ?_ ?_
     ·intro hb51
      have hF37 := ZD hF37 hb51
      refine Zc (Ze hE Za (dl rfl) rfl ?_); intro a hE
      refine Zf ?_
      have hr := Option.some.inj hF37
      subst hr
      exact wp_ret (ZG (Zy hE rfl (Zu hE rfl) ⟨_, rfl, rfl, hM.kept⟩))
     ·intro hb51
      have hF37 := ZC hF37 hb51
      refine wp_skip (Zz (Zc (Ze hE Za (dl rfl) rfl ?_))); intro a hE
      refine Zf ?_
      have hr := Option.some.inj hF37
      subst hr
      exact wp_ret (Zy hE rfl (Zu hE rfl) ⟨_, rfl, rfl, hM.kept⟩)
end Go.Proofs.YtifdeoikcebbjaaGreat
