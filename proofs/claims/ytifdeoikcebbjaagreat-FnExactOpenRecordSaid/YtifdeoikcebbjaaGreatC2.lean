/- The walk of what the law reaches: contracts of functions. -/
import Derived.Test.YtifdeoikcebbjaaGreatC1
set_option linter.unusedVariables false
set_option linter.unusedSimpArgs false
set_option maxRecDepth 20000
set_option maxHeartbeats 400000
namespace Go.Proofs.YtifdeoikcebbjaaGreat
open Go
open Flat (enc)
theorem Ad (w0 : World) (p0 : Int) (p1 : (Vector (Vector UInt8 4) 4)) (p2 : (Vector UInt8 16)) (r : (Vector UInt8 16)) (hF : Tl p0 p1 p2 = some r) :
  Calls Tryz.prog 244 [vI p0, (Value.agg (enc p1).toArray), (Value.agg (enc p2).toArray)].toArray w0 (fun en w' => ∃ v, en = .returned v ∧ (v = (Value.agg (enc r).toArray) ∧ Kept (Old w0) w0 w')) := by
 refine ZD (n := 50) Tryz.func244 rfl rfl (Nat.le_of_ble_eq_true rfl) rfl ?_
 intro a hE
 have hM := M.start w0
 unfold Tl at hF
 refine Zc (ZX (cs := enc p1) hE hM Za ld rfl rfl fun b1 w a hM hE => ZX (cs := enc p2) hE hM Za ld rfl rfl fun b3 w a hM hE => ZI hE hM Za ld ZH fun b5 w a hM hE => Zf (Zc (XG (parts := []) (vs := []) (cs := enc (Vector.replicate 16 (0 : UInt8))) hE Za ld rfl rfl ZH rfl ty5 Y0 fun a hE => ZI hE hM Za ld ZH fun b7 w a hM hE => Zt (seg := enc (Vector.replicate 16 (0 : UInt8))) (cs' := enc (Vector.replicate 16 (0 : UInt8))) hE hM Za rfl rfl rfl ZH (Flat.len _) (zle flq) (Flat.cell _) (Zo flq) fun w a hM hE => Zf (wp_seq (Zc (Ze hE Za ld rfl ?_)))))); intro a hE
 refine Zf ?_
 obtain ⟨j9, hl10, hF11⟩ := bind_some hF
 refine ZR (fun a w => Env 50 a [(6, (ptr b5 0)), (7, (ptr b7 0))] ∧ M (Old w0) w0 w [raw b7 (enc j9), raw b5 (enc (Vector.replicate 16 (0 : UInt8)))]) ?_ ?_
 ·skip
  refine wp_block ?_
  refine ZK (fun (s12 : (Vector UInt8 16) × Int) a w => Env 50 a [(0, vI p0), (4, (ptr b1 0)), (5, (ptr b3 0)), (6, (ptr b5 0)), (7, (ptr b7 0)), (8, vI s12.2)] ∧ M (Old w0) w0 w [raw b7 (enc s12.1), raw b5 (enc (Vector.replicate 16 (0 : UInt8))), raw b3 (enc p2), raw b1 (enc p1)]) hl10 ⟨hE.sub ⟨rfl, rfl, rfl, rfl, rfl, rfl, trivial⟩, hM⟩ ?_
  rintro s12 a w ⟨hE, hM⟩ o15 hs13 hx14
  unfold VD at hs13
  refine wp_seq (Zc (Zd hE Za ld rfl fun a hE => Zh hE Za ld rfl rfl rfl fun a hE => Zf ?_))
  refine Zv hE rfl ?_ ?_
  ·intro hb16
   have hs13 := ZA hs13 hb16
   refine wp_skip (Zz (wp_seq (wp_block (Zc (Ze hE Za ld rfl fun a hE => Zf ?_)))))
   obtain ⟨j17, hl18, hF19⟩ := bind_some hs13
   refine ZR (fun a w => Env 50 a [(0, vI p0), (4, (ptr b1 0)), (5, (ptr b3 0)), (6, (ptr b5 0)), (7, (ptr b7 0)), (8, vI s12.2)] ∧ M (Old w0) w0 w [raw b7 (enc j17), raw b5 (enc (Vector.replicate 16 (0 : UInt8))), raw b3 (enc p2), raw b1 (enc p1)]) ?_ ?_
   ·skip
    refine wp_block ?_
    refine ZK (fun (s20 : (Vector UInt8 16) × Int) a w => Env 50 a [(0, vI p0), (4, (ptr b1 0)), (5, (ptr b3 0)), (6, (ptr b5 0)), (7, (ptr b7 0)), (8, vI s12.2), (9, vI s20.2)] ∧ M (Old w0) w0 w [raw b7 (enc s20.1), raw b5 (enc (Vector.replicate 16 (0 : UInt8))), raw b3 (enc p2), raw b1 (enc p1)]) hl18 ⟨hE.sub ⟨rfl, rfl, rfl, rfl, rfl, rfl, rfl, trivial⟩, hM⟩ ?_
    rintro s20 a w ⟨hE, hM⟩ o23 hs21 hx22
    unfold VE at hs21
    refine wp_seq (Zc (Zd hE Za ld rfl fun a hE => Zh hE Za ld rfl rfl rfl fun a hE => Zf ?_))
    refine Zv hE rfl ?_ ?_
    ·intro hb24
     have hs21 := ZA hs21 hb24
     refine wp_skip (Zz (wp_seq (wp_block (Zc (Ze hE Za ld rfl fun a hE => Zf ?_)))))
     obtain ⟨j25, hl26, hF27⟩ := bind_some hs21
     refine ZR (fun a w => Env 50 a [(0, vI p0), (4, (ptr b1 0)), (5, (ptr b3 0)), (6, (ptr b5 0)), (7, (ptr b7 0)), (8, vI s12.2), (9, vI s20.2)] ∧ M (Old w0) w0 w [raw b7 (enc j25), raw b5 (enc (Vector.replicate 16 (0 : UInt8))), raw b3 (enc p2), raw b1 (enc p1)]) ?_ ?_
     ·skip
      refine wp_block ?_
      refine ZK (fun (s28 : (Vector UInt8 16) × Int) a w => Env 50 a [(0, vI p0), (4, (ptr b1 0)), (5, (ptr b3 0)), (6, (ptr b5 0)), (7, (ptr b7 0)), (8, vI s12.2), (9, vI s20.2), (10, vI s28.2)] ∧ M (Old w0) w0 w [raw b7 (enc s28.1), raw b5 (enc (Vector.replicate 16 (0 : UInt8))), raw b3 (enc p2), raw b1 (enc p1)]) hl26 ⟨hE.sub ⟨rfl, rfl, rfl, rfl, rfl, rfl, rfl, rfl, trivial⟩, hM⟩ ?_
      rintro s28 a w ⟨hE, hM⟩ o31 hs29 hx30
      unfold XL at hs29
      refine wp_seq (Zc (Zd hE Za ld rfl fun a hE => Zh hE Za ld rfl rfl rfl fun a hE => Zf ?_))
      refine Zv hE rfl ?_ ?_
      ·intro hb32
       have hs29 := ZA hs29 hb32
       refine wp_skip (Zz (wp_seq (wp_block ?_)))
       obtain ⟨x35, e36, hs29⟩ := bind_some hs29
       have hi34 := Zj e36
       obtain ⟨x38, e39, hs29⟩ := bind_some hs29
       have hi37 := Zj e39
       obtain ⟨x41, e42, hs29⟩ := bind_some hs29
       have hi40 := Zj e42
       obtain ⟨x44, e45, hs29⟩ := bind_some hs29
       have hi43 := Zj e45
       obtain ⟨r46, e47, hs29⟩ := bind_some hs29
       obtain ⟨x49, e50, hs29⟩ := bind_some hs29
       have hi48 := Zj e50
       refine Yr (n := 50) (hd := [_, _, _, _, _, _, _, _, _, _, _, _, _, _, _, _, _, _, _, _, _, _, _, _, _]) (tl := [_]) YN rfl rfl [24, 25, 26, 27, 28, 29, 30, 31, 32, 33, 34, 35, 36, 37, 38, 39, 40, 41, 42, 43, 44, 45, 46, 47, 48] (by decide) (fun w => M (Old w0) w0 w [raw b7 (enc s28.1), raw b5 (enc (Vector.replicate 16 (0 : UInt8))), raw b3 (enc p2), raw b1 (enc p1)]) (fun j => ([fun v _ => v = (vI s12.2), fun v _ => v = (vI (wr (4 * s12.2))), fun v _ => v = (vI s20.2), fun v _ => v = (vI (wr ((wr (4 * s12.2)) + s20.2))), fun v _ => v = (vI s12.2), fun v _ => v = (vI (wr (4 * s12.2))), fun v _ => v = (vI s20.2), fun v _ => v = (vI (wr ((wr (4 * s12.2)) + s20.2))), fun v _ => v = (ptr b7 (0 + ((wr ((wr (4 * s12.2)) + s20.2))).toNat * 1)), fun v _ => v = (vB x35), fun v _ => v = (vI p0), fun v _ => v = (vI s20.2), fun v _ => v = (vI s28.2), fun v _ => v = (ptr b1 (0 + (s20.2).toNat * 4)), fun v _ => v = (ptr b1 (0 + (s20.2).toNat * 4 + (s28.2).toNat * 1)), fun v _ => v = (vB x41), fun v _ => v = (vI s12.2), fun v _ => v = (vI (wr (4 * s12.2))), fun v _ => v = (vI s28.2), fun v _ => v = (vI (wr ((wr (4 * s12.2)) + s28.2))), fun v _ => v = (ptr b3 (0 + ((wr ((wr (4 * s12.2)) + s28.2))).toNat * 1)), fun v _ => v = (vB x44), fun v _ => v = (vB r46), fun v _ => v = (vB (x35 ^^^ r46)), fun v _ => v = (ptr b7 (0 + ((wr ((wr (4 * s12.2)) + s20.2))).toNat * 1))] : List (Value → World → Prop)).getD j (fun _ _ => True)) (fun _ _ h hk => h.keep hk) (gup (Zk (Zk (Zk (Zk (Zk (Zk (Zk (Zk (Zk (Zk (Zk (Zk (Zk (Zk (Zk (Zk (Zk (Zk (Zk (Zk (Zk (Zk (Zk (Zk (Zk VK)))))))))))))))))))))))))) hE hM.drew (ZL (Zb ?_ (Zb ?_ (Zb ?_ (Zb ?_ (Zb ?_ (Zb ?_ (Zb ?_ (Zb ?_ (Zb ?_ (Zb ?_ (Zb ?_ (Zb ?_ (Zb ?_ (Zb ?_ (Zb ?_ (Zb ?_ (Zb ?_ (Zb ?_ (Zb ?_ (Zb ?_ (Zb ?_ (Zb ?_ (Zb ?_ (Zb ?_ (Zb ?_ ZF)))))))))))))))))))))))))) ?_
       ·exact fun a w ux33 hE hM hp => Zd hE Za ld rfl fun a hE => ⟨Kept.refl _ _, _, _, rfl, hE, rfl⟩
       ·intro a w ux33 hE hM hp
        have f0 : ux33 0 = (vI s12.2) := hp 0 _ rfl rfl
        exact Zh hE Za ld rfl (lk rfl f0) rfl fun a hE => ⟨Kept.refl _ _, _, _, rfl, hE, rfl⟩
       ·exact fun a w ux33 hE hM hp => Zd hE Za ld rfl fun a hE => ⟨Kept.refl _ _, _, _, rfl, hE, rfl⟩
       ·intro a w ux33 hE hM hp
        have f1 : ux33 1 = (vI (wr (4 * s12.2))) := hp 0 _ rfl rfl
        have f2 : ux33 2 = (vI s20.2) := hp 1 _ rfl rfl
        exact Zh hE Za ld (lk rfl f1) (lk rfl f2) rfl fun a hE => ⟨Kept.refl _ _, _, _, rfl, hE, rfl⟩
       ·exact fun a w ux33 hE hM hp => Zd hE Za ld rfl fun a hE => ⟨Kept.refl _ _, _, _, rfl, hE, rfl⟩
       ·intro a w ux33 hE hM hp
        have f4 : ux33 4 = (vI s12.2) := hp 0 _ rfl rfl
        exact Zh hE Za ld rfl (lk rfl f4) rfl fun a hE => ⟨Kept.refl _ _, _, _, rfl, hE, rfl⟩
       ·exact fun a w ux33 hE hM hp => Zd hE Za ld rfl fun a hE => ⟨Kept.refl _ _, _, _, rfl, hE, rfl⟩
       ·intro a w ux33 hE hM hp
        have f5 : ux33 5 = (vI (wr (4 * s12.2))) := hp 0 _ rfl rfl
        have f6 : ux33 6 = (vI s20.2) := hp 1 _ rfl rfl
        exact Zh hE Za ld (lk rfl f5) (lk rfl f6) rfl fun a hE => ⟨Kept.refl _ _, _, _, rfl, hE, rfl⟩
       ·intro a w ux33 hE hM hp
        have f7 : ux33 7 = (vI (wr ((wr (4 * s12.2)) + s20.2))) := hp 0 _ rfl rfl
        exact Zn hE Za ld rfl (lk rfl f7) Tryz.underlying70 ty5 hi34.1 fun a hE => ⟨Kept.refl _ _, _, _, rfl, hE, rfl⟩
       ·intro a w ux33 hE hM hp
        have f8 : ux33 8 = (ptr b7 (0 + ((wr ((wr (4 * s12.2)) + s20.2))).toNat * 1)) := hp 0 _ rfl rfl
        exact Zq (v := (vB x35)) hE Za ld (lk rfl f8) ty5 rfl (At.vec (hM.rawAt (pre := [])) hi34.2) fun a hE => ⟨Kept.refl _ _, _, _, rfl, hE, rfl⟩
       ·exact fun a w ux33 hE hM hp => Zd hE Za ld rfl fun a hE => ⟨Kept.refl _ _, _, _, rfl, hE, rfl⟩
       ·exact fun a w ux33 hE hM hp => Zd hE Za ld rfl fun a hE => ⟨Kept.refl _ _, _, _, rfl, hE, rfl⟩
       ·exact fun a w ux33 hE hM hp => Zd hE Za ld rfl fun a hE => ⟨Kept.refl _ _, _, _, rfl, hE, rfl⟩
       ·intro a w ux33 hE hM hp
        have f11 : ux33 11 = (vI s20.2) := hp 0 _ rfl rfl
        exact Zn hE Za ld rfl (lk rfl f11) Tryz.underlying170 Xm hi37.1 fun a hE => ⟨Kept.refl _ _, _, _, rfl, hE, rfl⟩
       ·intro a w ux33 hE hM hp
        have f12 : ux33 12 = (vI s28.2) := hp 1 _ rfl rfl
        have f13 : ux33 13 = (ptr b1 (0 + (s20.2).toNat * 4)) := hp 0 _ rfl rfl
        exact Zn hE Za ld (lk rfl f13) (lk rfl f12) Tryz.underlying168 ty5 hi40.1 fun a hE => ⟨Kept.refl _ _, _, _, rfl, hE, rfl⟩
       ·intro a w ux33 hE hM hp
        have f14 : ux33 14 = (ptr b1 (0 + (s20.2).toNat * 4 + (s28.2).toNat * 1)) := hp 0 _ rfl rfl
        exact Zq (v := (vB x41)) hE Za ld (lk rfl f14) ty5 rfl (At.vec (At.vec (hM.rawAt (pre := [_, _, _])) hi37.2) hi40.2) fun a hE => ⟨Kept.refl _ _, _, _, rfl, hE, rfl⟩
       ·exact fun a w ux33 hE hM hp => Zd hE Za ld rfl fun a hE => ⟨Kept.refl _ _, _, _, rfl, hE, rfl⟩
       ·intro a w ux33 hE hM hp
        have f16 : ux33 16 = (vI s12.2) := hp 0 _ rfl rfl
        exact Zh hE Za ld rfl (lk rfl f16) rfl fun a hE => ⟨Kept.refl _ _, _, _, rfl, hE, rfl⟩
       ·exact fun a w ux33 hE hM hp => Zd hE Za ld rfl fun a hE => ⟨Kept.refl _ _, _, _, rfl, hE, rfl⟩
       ·intro a w ux33 hE hM hp
        have f17 : ux33 17 = (vI (wr (4 * s12.2))) := hp 0 _ rfl rfl
        have f18 : ux33 18 = (vI s28.2) := hp 1 _ rfl rfl
        exact Zh hE Za ld (lk rfl f17) (lk rfl f18) rfl fun a hE => ⟨Kept.refl _ _, _, _, rfl, hE, rfl⟩
       ·intro a w ux33 hE hM hp
        have f19 : ux33 19 = (vI (wr ((wr (4 * s12.2)) + s28.2))) := hp 0 _ rfl rfl
        exact Zn hE Za ld rfl (lk rfl f19) Tryz.underlying70 ty5 hi43.1 fun a hE => ⟨Kept.refl _ _, _, _, rfl, hE, rfl⟩
       ·intro a w ux33 hE hM hp
        have f20 : ux33 20 = (ptr b3 (0 + ((wr ((wr (4 * s12.2)) + s28.2))).toNat * 1)) := hp 0 _ rfl rfl
        exact Zq (v := (vB x44)) hE Za ld (lk rfl f20) ty5 rfl (At.vec (hM.rawAt (pre := [_, _])) hi43.2) fun a hE => ⟨Kept.refl _ _, _, _, rfl, hE, rfl⟩
       ·intro a w ux33 hE hM hp
        have f10 : ux33 10 = (vI p0) := hp 0 _ rfl rfl
        have f15 : ux33 15 = (vB x41) := hp 1 _ rfl rfl
        have f21 : ux33 21 = (vB x44) := hp 2 _ rfl rfl
        refine Zs hE Za ld (ZY (ZS (lk rfl f10) (ZS (lk rfl f15) (ZS (lk rfl f21) YT)))) zJ (Ug _ p0 x41 x44 r46 e47) ?_
        rintro v w a ⟨rfl, hK⟩ hE
        exact ⟨hK, _, _, rfl, hE, rfl⟩
       ·intro a w ux33 hE hM hp
        have f9 : ux33 9 = (vB x35) := hp 0 _ rfl rfl
        have f22 : ux33 22 = (vB r46) := hp 1 _ rfl rfl
        exact Zh hE Za ld (lk rfl f9) (lk rfl f22) (WJ x35 r46) fun a hE => ⟨Kept.refl _ _, _, _, rfl, hE, rfl⟩
       ·intro a w ux33 hE hM hp
        have f3 : ux33 3 = (vI (wr ((wr (4 * s12.2)) + s20.2))) := hp 0 _ rfl rfl
        exact Zn hE Za ld rfl (lk rfl f3) Tryz.underlying70 ty5 hi48.1 fun a hE => ⟨Kept.refl _ _, _, _, rfl, hE, rfl⟩
       ·intro a w ux33 hE hM hg
        have hE := hE.sub (e' := [(47, (vB (x35 ^^^ r46))), (48, (ptr b7 (0 + ((wr ((wr (4 * s12.2)) + s20.2))).toNat * 1))), (0, vI p0), (4, (ptr b1 0)), (5, (ptr b3 0)), (6, (ptr b5 0)), (7, (ptr b7 0)), (8, vI s12.2), (9, vI s20.2), (10, vI s28.2), (20, vI s28.2), (21, (vT (decide (s28.2 < 4))))]) ⟨lk rfl (hg 23 (by decide)), lk rfl (hg 24 (by decide)), rfl, rfl, rfl, rfl, rfl, rfl, rfl, rfl, rfl, rfl, trivial⟩
        refine Zt (seg := [(vB (x35 ^^^ r46))]) (cs' := enc (s28.1.setIfInBounds ((wr ((wr (4 * s12.2)) + s20.2))).toNat (x35 ^^^ r46))) hE hM Za rfl rfl rfl ty5 rfl (ZQ (v := s28.1) (x := x35 ^^^ r46) hi48.1) (Flat.cell (x35 ^^^ r46 : UInt8)) (ZJ (v := s28.1) (x := x35 ^^^ r46) hi48.1) fun w a hM hE => Zi (Ye (Zz (wp_region_lit (Zd hE Za ld rfl fun a hE => Zh hE Za ld rfl rfl rfl fun a hE => Ze hE Za ld rfl fun a hE => Zi (Zl ?_)))))
        exact ⟨_, (Option.some.inj hs29).symm, hE.sub ⟨rfl, rfl, rfl, rfl, rfl, rfl, rfl, rfl, trivial⟩, hM⟩
      ·intro hb32
       have hs29 := ZB hs29 hb32
       refine wp_exit (Zp (Zp (Yc ?_)))
       have ht51 := hx30 _ (Option.some.inj hs29).symm
       subst ht51
       refine Zl ?_
       exact ⟨hE.sub ⟨rfl, rfl, rfl, rfl, rfl, rfl, rfl, trivial⟩, hM⟩
     ·skip
      rintro a w ⟨hE, hM⟩
      refine Ye (Zz (wp_region_lit (Zd hE Za ld rfl fun a hE => Zh hE Za ld rfl rfl rfl fun a hE => Ze hE Za ld rfl fun a hE => Zi (Zl ?_))))
      exact ⟨_, (Option.some.inj hF27).symm, hE.sub ⟨rfl, rfl, rfl, rfl, rfl, rfl, rfl, trivial⟩, hM⟩
    ·intro hb24
     have hs21 := ZB hs21 hb24
     refine wp_exit (Zp (Zp (Yc ?_)))
     have ht52 := hx22 _ (Option.some.inj hs21).symm
     subst ht52
     refine Zl ?_
     exact ⟨hE.sub ⟨rfl, rfl, rfl, rfl, rfl, rfl, trivial⟩, hM⟩
   ·skip
    rintro a w ⟨hE, hM⟩
    refine Ye (Zz (wp_region_lit (Zd hE Za ld rfl fun a hE => Zh hE Za ld rfl rfl rfl fun a hE => Ze hE Za ld rfl fun a hE => Zi (Zl ?_))))
    exact ⟨_, (Option.some.inj hF19).symm, hE.sub ⟨rfl, rfl, rfl, rfl, rfl, rfl, trivial⟩, hM⟩
  ·intro hb16
   have hs13 := ZB hs13 hb16
   refine wp_exit (Zp (Zp (Yc ?_)))
   have ht53 := hx14 _ (Option.some.inj hs13).symm
   subst ht53
   refine Zl ?_
   have hM := hM.pull (pre := [_])
   have hM := hM.pull (pre := [_])
   have hM := M.fst (l := [_, _]) hM
   exact ⟨hE.sub ⟨rfl, rfl, trivial⟩, hM⟩
 ·skip
  rintro a w ⟨hE, hM⟩
  refine Zz (Zc (Zm (cs := enc j9) hE Za ld rfl ZH rfl (hM.rawAt (pre := [])) (Flat.len _) ?_)); intro a hE
  have hM := hM.pull (pre := [_])
  refine Zt (seg := enc j9) (cs' := enc j9) hE hM Za rfl rfl rfl ZH (Flat.len _) (zle flq) (Flat.cell _) (Zo flq) fun w a hM hE => Zf ?_
  have hr := Option.some.inj hF11
  subst hr
  have hq54 : YB Tryz.prog _ _ (.cell 6 70) _ := ZZ hE rfl ZH rfl (hM.rawAt (pre := [])) (Flat.len _) rfl
  have hM := M.fst (l := []) hM
  exact wp_ret (Zy hE rfl hq54 ⟨_, rfl, rfl, hM.kept⟩)
noncomputable def Xe (p0 : GCipher) (p3 : Int) (r9 : (List (Vector UInt8 16))) (s25 : (Vector UInt8 16) × Int) : Option (Fl ((Vector UInt8 16) × Int) (Vector UInt8 16)) :=
 if (decide (s25.2 ≤ p3)) = true then ((((Uf p0.Box s25.1).bind fun r37 => (UV p0.Places r37).bind fun r39 => some r39 : Option ((Vector UInt8 16))).bind fun j33 => (if (decide (s25.2 < p3)) = true then ((Tl p0.Field p0.Mix j33).bind fun r46 => some r46) else (some j33) : Option ((Vector UInt8 16))).bind fun j42 => (idx r9 s25.2).bind fun x51 => (Y5 j42 x51).bind fun r54 => some r54 : Option ((Vector UInt8 16))).bind fun j30 => some (Fl.nx (j30, wr (s25.2 + 1)))) else (some (Fl.ex s25.1))
noncomputable def YW (p0 : GCipher) (p1 : (Vector UInt8 16)) (p2 : (Vector UInt8 16)) (p3 : Int) : Option ((Vector UInt8 16)) :=
 (US p0 p1 p3).bind fun r9 => ((idx r9 (0 : Int)).bind fun x16 => (Y5 p2 x16).bind fun r19 => some r19 : Option ((Vector UInt8 16))).bind fun j12 => (ZG (Xe p0 p3 r9) (j12, 1) : Option ((Vector UInt8 16))).bind fun j22 => some j22
theorem Qr (w0 : World) (p0 : GCipher) (p1 : (Vector UInt8 16)) (p2 : (Vector UInt8 16)) (p3 : Int) (r : (Vector UInt8 16)) (hF : YW p0 p1 p2 p3 = some r) :
  Calls Tryz.prog 223 [(Value.agg (enc p0).toArray), (Value.agg (enc p1).toArray), (Value.agg (enc p2).toArray), vI p3].toArray w0 (fun en w' => ∃ v, en = .returned v ∧ (v = (Value.agg (enc r).toArray) ∧ Kept (Old w0) w0 w')) := by
 refine ZD (n := 48) Tryz.func223 rfl rfl (Nat.le_of_ble_eq_true rfl) rfl ?_
 intro a hE
 have hM := M.start w0
 unfold YW at hF
 refine Zc (ZX (cs := cat [[vI p0.Field], enc p0.Box, enc p0.Mix, enc p0.Places, [vI p0.Rounds]]) hE hM Za ld rfl rfl fun b1 w a hM hE => ZX (cs := enc p1) hE hM Za ld rfl rfl fun b3 w a hM hE => ZX (cs := enc p2) hE hM Za ld rfl rfl fun b5 w a hM hE => ZI hE hM Za ld ZH fun b7 w a hM hE => Zf (Zc (Zm (cs := enc p0) hE Za ld rfl Va rfl (hM.rawAt (pre := [_, _, _])) (ZC (cl1 (n := 1) (m := 289) rfl (cl1 (n := 256) (m := 33) (Flat.len _) (cl1 (n := 16) (m := 17) (Flat.len _) (cl1 (n := 16) (m := 1) (Flat.len _) (cl1 (n := 1) (m := 0) rfl cl0)))))) fun a hE => Zm (cs := enc p1) hE Za ld rfl ZH rfl (hM.rawAt (pre := [_, _])) (Flat.len _) fun a hE => Zd hE Za ld rfl ?_))); intro a hE
 obtain ⟨r9, e10, hF⟩ := bind_some hF
 refine Zs hE Za ld rfl cb241 (B7 _ p0 p1 p3 r9 e10) ?_
 rintro u11 w a ⟨_, rfl, hFr, hK⟩ hE
 have hM := hM.add hK hFr
 refine Ze hE Za ld rfl fun a hE => Zf ?_
 obtain ⟨j12, hl13, hF14⟩ := bind_some hF
 refine ZU (fun a w => Env 48 a [(3, vI p3), (4, (ptr b1 0)), (6, (ptr b5 0)), (8, (ptr b7 0)), (9, u11)] ∧ M (Old w0) w0 w [osl NoB (r9 : List (Vector UInt8 16)) u11, raw b7 (enc (Vector.replicate 16 (0 : UInt8))), raw b5 (enc j12), raw b1 (cat [[vI p0.Field], enc p0.Box, enc p0.Mix, enc p0.Places, [vI p0.Rounds]])]) ?_ ?_
 ·skip
  obtain ⟨x16, e17, hl13⟩ := bind_some hl13
  have hi18 := ZO e17
  obtain ⟨r19, e20, hl13⟩ := bind_some hl13
  refine Yr (n := 48) (hd := [_, _, _, _, _]) (tl := [_]) YN rfl rfl [15, 16, 17, 18, 19] (by decide) (fun w => M (Old w0) w0 w [osl NoB (r9 : List (Vector UInt8 16)) u11, raw b7 (enc (Vector.replicate 16 (0 : UInt8))), raw b5 (enc p2), raw b3 (enc p1), raw b1 (cat [[vI p0.Field], enc p0.Box, enc p0.Mix, enc p0.Places, [vI p0.Rounds]])]) (fun j => ([fun v _ => v = (Value.agg (enc p2).toArray), fun v _ => v = u11, fun v _ => v = (ptr (sb u11) (so u11 + ((0 : Int)).toNat * 16)), fun v _ => v = (Value.agg (enc x16).toArray), fun v _ => v = (Value.agg (enc r19).toArray)] : List (Value → World → Prop)).getD j (fun _ _ => True)) (fun _ _ h hk => h.keep hk) (gup (Zk (Zk (Zk (Zk (Zk VK)))))) hE hM.drew (ZL (Zb ?_ (Zb ?_ (Zb ?_ (Zb ?_ (Zb ?_ ZF)))))) ?_
  ·exact fun a w ux15 hE hM hp => Zm (cs := enc p2) hE Za ld rfl ZH rfl (hM.rawAt (pre := [_, _])) (Flat.len _) fun a hE => ⟨Kept.refl _ _, _, _, rfl, hE, rfl⟩
  ·exact fun a w ux15 hE hM hp => Zd hE Za ld rfl fun a hE => ⟨Kept.refl _ _, _, _, rfl, hE, rfl⟩
  ·intro a w ux15 hE hM hp
   have f1 : ux15 1 = u11 := hp 0 _ rfl rfl
   exact ZN hE Za ld (lk rfl f1) rfl Tryz.underlying32 ZH (hM.sl (pre := []) noB) hi18.1 fun a hE => ⟨Kept.refl _ _, _, _, rfl, hE, rfl⟩
  ·intro a w ux15 hE hM hp
   have f2 : ux15 2 = (ptr (sb u11) (so u11 + ((0 : Int)).toNat * 16)) := hp 0 _ rfl rfl
   exact Zm (cs := enc x16) hE Za ld (lk rfl f2) ZH rfl (Xa (hM.sl (pre := []) noB) hi18.2) (Flat.len _) fun a hE => ⟨Kept.refl _ _, _, _, rfl, hE, rfl⟩
  ·intro a w ux15 hE hM hp
   have f0 : ux15 0 = (Value.agg (enc p2).toArray) := hp 0 _ rfl rfl
   have f3 : ux15 3 = (Value.agg (enc x16).toArray) := hp 1 _ rfl rfl
   refine Zs hE Za ld (ZY (ZS (lk rfl f0) (ZS (lk rfl f3) YT))) AJ (Ur _ p2 x16 r19 e20) ?_
   rintro v w a ⟨rfl, hK⟩ hE
   exact ⟨hK, _, _, rfl, hE, rfl⟩
  ·intro a w ux15 hE hM hg
   have hE := hE.sub (e' := [(19, (Value.agg (enc r19).toArray)), (0, (Value.agg (enc p0).toArray)), (1, (Value.agg (enc p1).toArray)), (2, (Value.agg (enc p2).toArray)), (3, vI p3), (4, (ptr b1 0)), (5, (ptr b3 0)), (6, (ptr b5 0)), (8, (ptr b7 0)), (9, u11), (11, (Value.agg (enc p0).toArray)), (12, (Value.agg (enc p1).toArray)), (13, vI p3), (14, u11)]) ⟨lk rfl (hg 4 (by decide)), rfl, rfl, rfl, rfl, rfl, rfl, rfl, rfl, rfl, rfl, rfl, rfl, rfl, trivial⟩
   have hM := hM.pull (pre := [_, _])
   refine Zt (seg := enc r19) (cs' := enc r19) hE hM Za rfl rfl rfl ZH (Flat.len _) (zle flq) (Flat.cell _) (Zo flq) fun w a hM hE => Zi ?_
   have ht21 := Option.some.inj hl13
   subst ht21
   refine Zl ?_
   have hM := hM.pull (pre := [_, _, _, _])
   have hM := hM.pull (pre := [_])
   have hM := hM.pull (pre := [_, _, _])
   have hM := hM.pull (pre := [_, _, _])
   have hM := M.fst (l := [_, _, _, _]) hM
   exact ⟨hE.sub ⟨rfl, rfl, rfl, rfl, rfl, trivial⟩, hM⟩
 ·skip
  rintro a w ⟨hE, hM⟩
  refine wp_seq (Zc (Ze hE Za ld rfl fun a hE => Zf ?_))
  obtain ⟨j22, hl23, hF24⟩ := bind_some hF14
  refine ZR (fun a w => Env 48 a [(6, (ptr b5 0)), (8, (ptr b7 0))] ∧ M (Old w0) w0 w [raw b7 (enc (Vector.replicate 16 (0 : UInt8))), raw b5 (enc j22)]) ?_ ?_
  ·skip
   refine wp_block ?_
   refine ZK (fun (s25 : (Vector UInt8 16) × Int) a w => Env 48 a [(3, vI p3), (4, (ptr b1 0)), (6, (ptr b5 0)), (8, (ptr b7 0)), (9, u11), (10, vI s25.2)] ∧ M (Old w0) w0 w [osl NoB (r9 : List (Vector UInt8 16)) u11, raw b7 (enc (Vector.replicate 16 (0 : UInt8))), raw b5 (enc s25.1), raw b1 (cat [[vI p0.Field], enc p0.Box, enc p0.Mix, enc p0.Places, [vI p0.Rounds]])]) hl23 ⟨hE.sub ⟨rfl, rfl, rfl, rfl, rfl, rfl, trivial⟩, hM⟩ ?_
   rintro s25 a w ⟨hE, hM⟩ o28 hs26 hx27
   unfold Xe at hs26
   refine wp_seq (Zc (Zd hE Za ld rfl fun a hE => Zd hE Za ld rfl fun a hE => Zh hE Za ld rfl rfl rfl fun a hE => Zf ?_))
   refine Zv hE rfl ?_ ?_
   ·intro hb29
    have hs26 := ZA hs26 hb29
    refine wp_skip (Zz ?_)
    obtain ⟨j30, hl31, hF32⟩ := bind_some hs26
    refine ZU (fun a w => Env 48 a [(3, vI p3), (4, (ptr b1 0)), (6, (ptr b5 0)), (8, (ptr b7 0)), (9, u11), (10, vI s25.2)] ∧ M (Old w0) w0 w [osl NoB (r9 : List (Vector UInt8 16)) u11, raw b7 (enc (Vector.replicate 16 (0 : UInt8))), raw b5 (enc j30), raw b1 (cat [[vI p0.Field], enc p0.Box, enc p0.Mix, enc p0.Places, [vI p0.Rounds]])]) ?_ ?_
    ·skip
     refine wp_block ?_
     obtain ⟨j33, hl34, hF35⟩ := bind_some hl31
     refine ZU (fun a w => Env 48 a [(3, vI p3), (4, (ptr b1 0)), (6, (ptr b5 0)), (8, (ptr b7 0)), (9, u11), (10, vI s25.2)] ∧ M (Old w0) w0 w [osl NoB (r9 : List (Vector UInt8 16)) u11, raw b7 (enc (Vector.replicate 16 (0 : UInt8))), raw b5 (enc j33), raw b1 (cat [[vI p0.Field], enc p0.Box, enc p0.Mix, enc p0.Places, [vI p0.Rounds]])]) ?_ ?_
     ·skip
      obtain ⟨r37, e38, hl34⟩ := bind_some hl34
      obtain ⟨r39, e40, hl34⟩ := bind_some hl34
      refine Yr (n := 48) (hd := [_, _, _, _, _, _, _]) (tl := [_]) YN rfl rfl [25, 26, 27, 28, 29, 30, 31] (by decide) (fun w => M (Old w0) w0 w [osl NoB (r9 : List (Vector UInt8 16)) u11, raw b7 (enc (Vector.replicate 16 (0 : UInt8))), raw b5 (enc s25.1), raw b1 (cat [[vI p0.Field], enc p0.Box, enc p0.Mix, enc p0.Places, [vI p0.Rounds]])]) (fun j => ([fun v _ => v = (ptr b1 (0 + 273)), fun v _ => v = (Value.agg (enc p0.Places).toArray), fun v _ => v = (ptr b1 (0 + 1)), fun v _ => v = (Value.agg (enc p0.Box).toArray), fun v _ => v = (Value.agg (enc s25.1).toArray), fun v _ => v = (Value.agg (enc r37).toArray), fun v _ => v = (Value.agg (enc r39).toArray)] : List (Value → World → Prop)).getD j (fun _ _ => True)) (fun _ _ h hk => h.keep hk) (gup (Zk (Zk (Zk (Zk (Zk (Zk (Zk VK)))))))) hE hM.drew (ZL (Zb ?_ (Zb ?_ (Zb ?_ (Zb ?_ (Zb ?_ (Zb ?_ (Zb ?_ ZF)))))))) ?_
      ·exact fun a w ux36 hE hM hp => Zg hE Za ld rfl (JD) fun a hE => ⟨Kept.refl _ _, _, _, rfl, hE, rfl⟩
      ·intro a w ux36 hE hM hp
       have f0 : ux36 0 = (ptr b1 (0 + 273)) := hp 0 _ rfl rfl
       exact Zm (cs := enc p0.Places) hE Za ld (lk rfl f0) T8 rfl (At.cat (pre := [[vI p0.Field], enc p0.Box, enc p0.Mix]) (hM.rawAt (pre := [_, _, _])) (cl1 (n := 1) (m := 272) rfl (cl1 (n := 256) (m := 16) (Flat.len _) (cl1 (n := 16) (m := 0) (Flat.len _) cl0)))) (Flat.len _) fun a hE => ⟨Kept.refl _ _, _, _, rfl, hE, rfl⟩
      ·exact fun a w ux36 hE hM hp => Zg hE Za ld rfl (KF) fun a hE => ⟨Kept.refl _ _, _, _, rfl, hE, rfl⟩
      ·intro a w ux36 hE hM hp
       have f2 : ux36 2 = (ptr b1 (0 + 1)) := hp 0 _ rfl rfl
       exact Zm (cs := enc p0.Box) hE Za ld (lk rfl f2) Xt rfl (At.cat (pre := [[vI p0.Field]]) (hM.rawAt (pre := [_, _, _])) (cl1 (n := 1) (m := 0) rfl cl0)) (Flat.len _) fun a hE => ⟨Kept.refl _ _, _, _, rfl, hE, rfl⟩
      ·exact fun a w ux36 hE hM hp => Zm (cs := enc s25.1) hE Za ld rfl ZH rfl (hM.rawAt (pre := [_, _])) (Flat.len _) fun a hE => ⟨Kept.refl _ _, _, _, rfl, hE, rfl⟩
      ·intro a w ux36 hE hM hp
       have f3 : ux36 3 = (Value.agg (enc p0.Box).toArray) := hp 0 _ rfl rfl
       have f4 : ux36 4 = (Value.agg (enc s25.1).toArray) := hp 1 _ rfl rfl
       refine Zs hE Za ld (ZY (ZS (lk rfl f3) (ZS (lk rfl f4) YT))) cb243 (H5 _ p0.Box s25.1 r37 e38) ?_
       rintro v w a ⟨rfl, hK⟩ hE
       exact ⟨hK, _, _, rfl, hE, rfl⟩
      ·intro a w ux36 hE hM hp
       have f1 : ux36 1 = (Value.agg (enc p0.Places).toArray) := hp 0 _ rfl rfl
       have f5 : ux36 5 = (Value.agg (enc r37).toArray) := hp 1 _ rfl rfl
       refine Zs hE Za ld (ZY (ZS (lk rfl f1) (ZS (lk rfl f5) YT))) cb242 (BN _ p0.Places r37 r39 e40) ?_
       rintro v w a ⟨rfl, hK⟩ hE
       exact ⟨hK, _, _, rfl, hE, rfl⟩
      ·intro a w ux36 hE hM hg
       have hE := hE.sub (e' := [(31, (Value.agg (enc r39).toArray)), (3, vI p3), (4, (ptr b1 0)), (6, (ptr b5 0)), (8, (ptr b7 0)), (9, u11), (10, vI s25.2), (20, vI s25.2), (21, vI p3), (22, (vT (decide (s25.2 ≤ p3))))]) ⟨lk rfl (hg 6 (by decide)), rfl, rfl, rfl, rfl, rfl, rfl, rfl, rfl, rfl, trivial⟩
       have hM := hM.pull (pre := [_, _])
       refine Zt (seg := enc r39) (cs' := enc r39) hE hM Za rfl rfl rfl ZH (Flat.len _) (zle flq) (Flat.cell _) (Zo flq) fun w a hM hE => Zi ?_
       have ht41 := Option.some.inj hl34
       subst ht41
       refine Zl ?_
       have hM := hM.pull (pre := [_, _, _])
       have hM := hM.pull (pre := [_])
       have hM := hM.pull (pre := [_, _, _])
       have hM := hM.pull (pre := [_, _, _])
       exact ⟨hE.sub ⟨rfl, rfl, rfl, rfl, rfl, rfl, trivial⟩, hM⟩
     ·skip
      rintro a w ⟨hE, hM⟩
      obtain ⟨j42, hl43, hF44⟩ := bind_some hF35
      refine ZU (fun a w => Env 48 a [(3, vI p3), (4, (ptr b1 0)), (6, (ptr b5 0)), (8, (ptr b7 0)), (9, u11), (10, vI s25.2)] ∧ M (Old w0) w0 w [osl NoB (r9 : List (Vector UInt8 16)) u11, raw b7 (enc (Vector.replicate 16 (0 : UInt8))), raw b5 (enc j42), raw b1 (cat [[vI p0.Field], enc p0.Box, enc p0.Mix, enc p0.Places, [vI p0.Rounds]])]) ?_ ?_
      ·skip
       refine Zc (Zd hE Za ld rfl fun a hE => Zd hE Za ld rfl fun a hE => Zh hE Za ld rfl rfl rfl fun a hE => Zf ?_)
       refine Zv hE rfl ?_ ?_
       ·intro hb45
        have hl43 := ZA hl43 hb45
        refine wp_region_lit (Zg hE Za ld rfl (H7) fun a hE => Zq (v := (vI p0.Field)) hE Za ld rfl ty2 rfl (At.cat (pre := []) (hM.rawAt (pre := [_, _, _])) cl0) fun a hE => Zg hE Za ld rfl (Jt) fun a hE => Zm (cs := enc p0.Mix) hE Za ld rfl UI rfl (At.cat (pre := [[vI p0.Field], enc p0.Box]) (hM.rawAt (pre := [_, _, _])) (cl1 (n := 1) (m := 256) rfl (cl1 (n := 256) (m := 0) (Flat.len _) cl0))) (Flat.len _) fun a hE => Zm (cs := enc j33) hE Za ld rfl ZH rfl (hM.rawAt (pre := [_, _])) (Flat.len _) ?_); intro a hE
        obtain ⟨r46, e47, hl43⟩ := bind_some hl43
        refine Zs hE Za ld rfl cb244 (Ad _ p0.Field p0.Mix j33 r46 e47) ?_
        rintro v w a ⟨rfl, hK⟩ hE
        have hM := hM.keep hK
        have hM := hM.pull (pre := [_, _])
        refine Zt (seg := enc r46) (cs' := enc r46) hE hM Za rfl rfl rfl ZH (Flat.len _) (zle flq) (Flat.cell _) (Zo flq) fun w a hM hE => Zi ?_
        have ht48 := Option.some.inj hl43
        subst ht48
        refine Zl ?_
        have hM := hM.pull (pre := [_, _, _])
        have hM := hM.pull (pre := [_])
        have hM := hM.pull (pre := [_, _, _])
        have hM := hM.pull (pre := [_, _, _])
        exact ⟨hE.sub ⟨rfl, rfl, rfl, rfl, rfl, rfl, trivial⟩, hM⟩
       ·intro hb45
        have hl43 := ZB hl43 hb45
        refine wp_skip ?_
        have ht49 := Option.some.inj hl43
        subst ht49
        refine Zl ?_
        exact ⟨hE.sub ⟨rfl, rfl, rfl, rfl, rfl, rfl, trivial⟩, hM⟩
      ·skip
       rintro a w ⟨hE, hM⟩
       obtain ⟨x51, e52, hF44⟩ := bind_some hF44
       have hi53 := ZO e52
       obtain ⟨r54, e55, hF44⟩ := bind_some hF44
       refine Yr (n := 48) (hd := [_, _, _, _, _, _]) (tl := [_]) YN rfl rfl [41, 42, 43, 44, 45, 46] (by decide) (fun w => M (Old w0) w0 w [osl NoB (r9 : List (Vector UInt8 16)) u11, raw b7 (enc (Vector.replicate 16 (0 : UInt8))), raw b5 (enc j42), raw b1 (cat [[vI p0.Field], enc p0.Box, enc p0.Mix, enc p0.Places, [vI p0.Rounds]])]) (fun j => ([fun v _ => v = (Value.agg (enc j42).toArray), fun v _ => v = u11, fun v _ => v = (vI s25.2), fun v _ => v = (ptr (sb u11) (so u11 + (s25.2).toNat * 16)), fun v _ => v = (Value.agg (enc x51).toArray), fun v _ => v = (Value.agg (enc r54).toArray)] : List (Value → World → Prop)).getD j (fun _ _ => True)) (fun _ _ h hk => h.keep hk) (gup (Zk (Zk (Zk (Zk (Zk (Zk VK))))))) hE hM.drew (ZL (Zb ?_ (Zb ?_ (Zb ?_ (Zb ?_ (Zb ?_ (Zb ?_ ZF))))))) ?_
       ·exact fun a w ux50 hE hM hp => Zm (cs := enc j42) hE Za ld rfl ZH rfl (hM.rawAt (pre := [_, _])) (Flat.len _) fun a hE => ⟨Kept.refl _ _, _, _, rfl, hE, rfl⟩
       ·exact fun a w ux50 hE hM hp => Zd hE Za ld rfl fun a hE => ⟨Kept.refl _ _, _, _, rfl, hE, rfl⟩
       ·exact fun a w ux50 hE hM hp => Zd hE Za ld rfl fun a hE => ⟨Kept.refl _ _, _, _, rfl, hE, rfl⟩
       ·intro a w ux50 hE hM hp
        have f1 : ux50 1 = u11 := hp 0 _ rfl rfl
        have f2 : ux50 2 = (vI s25.2) := hp 1 _ rfl rfl
        exact ZN hE Za ld (lk rfl f1) (lk rfl f2) Tryz.underlying32 ZH (hM.sl (pre := []) noB) hi53.1 fun a hE => ⟨Kept.refl _ _, _, _, rfl, hE, rfl⟩
       ·intro a w ux50 hE hM hp
        have f3 : ux50 3 = (ptr (sb u11) (so u11 + (s25.2).toNat * 16)) := hp 0 _ rfl rfl
        exact Zm (cs := enc x51) hE Za ld (lk rfl f3) ZH rfl (Xa (hM.sl (pre := []) noB) hi53.2) (Flat.len _) fun a hE => ⟨Kept.refl _ _, _, _, rfl, hE, rfl⟩
       ·intro a w ux50 hE hM hp
        have f0 : ux50 0 = (Value.agg (enc j42).toArray) := hp 0 _ rfl rfl
        have f4 : ux50 4 = (Value.agg (enc x51).toArray) := hp 1 _ rfl rfl
        refine Zs hE Za ld (ZY (ZS (lk rfl f0) (ZS (lk rfl f4) YT))) AJ (Ur _ j42 x51 r54 e55) ?_
        rintro v w a ⟨rfl, hK⟩ hE
        exact ⟨hK, _, _, rfl, hE, rfl⟩
       ·intro a w ux50 hE hM hg
        have hE := hE.sub (e' := [(46, (Value.agg (enc r54).toArray)), (3, vI p3), (4, (ptr b1 0)), (6, (ptr b5 0)), (8, (ptr b7 0)), (9, u11), (10, vI s25.2)]) ⟨lk rfl (hg 5 (by decide)), rfl, rfl, rfl, rfl, rfl, rfl, trivial⟩
        have hM := hM.pull (pre := [_, _])
        refine Zt (seg := enc r54) (cs' := enc r54) hE hM Za rfl rfl rfl ZH (Flat.len _) (zle flq) (Flat.cell _) (Zo flq) fun w a hM hE => Zi (Ye ?_)
        have ht56 := Option.some.inj hF44
        subst ht56
        refine Zl ?_
        have hM := hM.pull (pre := [_, _, _])
        have hM := hM.pull (pre := [_])
        have hM := hM.pull (pre := [_, _, _])
        have hM := hM.pull (pre := [_, _, _])
        exact ⟨hE.sub ⟨rfl, rfl, rfl, rfl, rfl, rfl, trivial⟩, hM⟩
    ·skip
     rintro a w ⟨hE, hM⟩
     refine wp_region_lit (Zd hE Za ld rfl fun a hE => Zh hE Za ld rfl rfl rfl fun a hE => Ze hE Za ld rfl fun a hE => Zi (Zl ?_))
     exact ⟨_, (Option.some.inj hF32).symm, hE.sub ⟨rfl, rfl, rfl, rfl, rfl, rfl, trivial⟩, hM⟩
   ·intro hb29
    have hs26 := ZB hs26 hb29
    refine wp_exit (Zp (Zp (Yc ?_)))
    have ht57 := hx27 _ (Option.some.inj hs26).symm
    subst ht57
    refine Zl ?_
    have hM := hM.pull (pre := [_, _])
    have hM := hM.pull (pre := [_, _])
    have hM := M.fst (l := [_, _]) hM
    exact ⟨hE.sub ⟨rfl, rfl, trivial⟩, hM⟩
  ·skip
   rintro a w ⟨hE, hM⟩
   refine Zz (Zc (Zm (cs := enc j22) hE Za ld rfl ZH rfl (hM.rawAt (pre := [_])) (Flat.len _) fun a hE => Zt (seg := enc j22) (cs' := enc j22) hE hM Za rfl rfl rfl ZH (Flat.len _) (zle flq) (Flat.cell _) (Zo flq) fun w a hM hE => Zf ?_))
   have hr := Option.some.inj hF24
   subst hr
   have hq58 : YB Tryz.prog _ _ (.cell 8 70) _ := ZZ hE rfl ZH rfl (hM.rawAt (pre := [])) (Flat.len _) rfl
   have hM := M.fst (l := []) hM
   exact wp_ret (Zy hE rfl hq58 ⟨_, rfl, rfl, hM.kept⟩)
noncomputable def X9 (r31 : (Vector UInt8 16)) (r40 : (Vector UInt8 16)) (s51 : (Vector UInt8 32) × Int) : Option (Fl ((Vector UInt8 32) × Int) (Vector UInt8 32)) :=
 if (decide (s51.2 < 16)) = true then ((ZM r31 s51.2).bind fun x57 => (ZM s51.1 s51.2).bind fun x60 => (ZM r40 s51.2).bind fun x63 => (ZM (s51.1.setIfInBounds (s51.2).toNat x57) (wr (16 + s51.2))).bind fun x66 => some (Fl.nx (((s51.1.setIfInBounds (s51.2).toNat x57).setIfInBounds ((wr (16 + s51.2))).toNat x63), wr (s51.2 + 1)))) else (some (Fl.ex s51.1))
noncomputable def Wy (p0 : GCipher) (p1 : (Vector UInt8 32)) (p2 : (Vector UInt8 16)) : Option ((Vector UInt8 32)) :=
 (Vw p1).bind fun r9 => (Y5 r9.1 p2).bind fun r16 => (Y5 r9.2 p2).bind fun r18 => (YW p0 r9.2 r16 p0.Rounds).bind fun r29 => (Y5 r29 r16).bind fun r31 => (YW p0 r31 r18 p0.Rounds).bind fun r38 => (Y5 r38 r18).bind fun r40 => (ZG (X9 r31 r40) ((Vector.replicate 32 (0 : UInt8)), 0) : Option ((Vector UInt8 32))).bind fun j48 => some j48
theorem Ha (w0 : World) (p0 : GCipher) (p1 : (Vector UInt8 32)) (p2 : (Vector UInt8 16)) (r : (Vector UInt8 32)) (hF : Wy p0 p1 p2 = some r) :
  Calls Tryz.prog 190 [(Value.agg (enc p0).toArray), (Value.agg (enc p1).toArray), (Value.agg (enc p2).toArray)].toArray w0 (fun en w' => ∃ v, en = .returned v ∧ (v = (Value.agg (enc r).toArray) ∧ Kept (Old w0) w0 w')) := by
 refine ZD (n := 59) Tryz.func190 rfl rfl (Nat.le_of_ble_eq_true rfl) rfl ?_
 intro a hE
 have hM := M.start w0
 unfold Wy at hF
 refine Zc (ZX (cs := cat [[vI p0.Field], enc p0.Box, enc p0.Mix, enc p0.Places, [vI p0.Rounds]]) hE hM Za ld rfl rfl fun b1 w a hM hE => ZX (cs := enc p1) hE hM Za ld rfl rfl fun b3 w a hM hE => ZX (cs := enc p2) hE hM Za ld rfl rfl fun b5 w a hM hE => ZI hE hM Za ld Yu fun b7 w a hM hE => Zf (Zc (Zm (cs := enc p1) hE Za ld rfl Yu rfl (hM.rawAt (pre := [_, _])) (Flat.len _) ?_))); intro a hE
 obtain ⟨r9, e10, hF⟩ := bind_some hF
 refine Zs hE Za ld rfl cb221 (Hg _ p1 r9 e10) ?_
 rintro v w a ⟨rfl, hK⟩ hE
 have hM := hM.keep hK
 refine Zd hE Za ld rfl fun a hE => W2 hE Za ld rfl rfl fun a hE => W2 hE Za ld rfl rfl fun a hE => ZI hE hM Za ld ZH fun b11 w a hM hE => ZI hE hM Za ld ZH ?_; intro b13 w a hM hE
 have hM := hM.pull (pre := [_])
 refine Zt (seg := enc r9.1) (cs' := enc r9.1) hE hM Za rfl rfl rfl ZH (Flat.len _) (zle flq) (Flat.cell _) (Zo flq) ?_; intro w a hM hE
 have hM := hM.pull (pre := [_])
 refine Zt (seg := enc r9.2) (cs' := enc r9.2) hE hM Za rfl rfl rfl ZH (Flat.len _) (zle flq) (Flat.cell _) (Zo flq) fun w a hM hE => Zf (wp_seq ?_)
 obtain ⟨r16, e17, hF⟩ := bind_some hF
 obtain ⟨r18, e19, hF⟩ := bind_some hF
 refine VX (n := 59) (hd := [_, _, _, _, _, _, _, _]) (tl := [_, _]) YN rfl rfl [20, 21, 22, 23, 24, 25, 9, 10] (by decide) (fun D u w => M (Old w0) w0 w ([raw b13 (enc r9.2), raw b11 (enc r9.1), raw b7 (enc (Vector.replicate 32 (0 : UInt8))), raw b5 (enc p2), raw b3 (enc p1), raw b1 (cat [[vI p0.Field], enc p0.Box, enc p0.Mix, enc p0.Places, [vI p0.Rounds]])] ++ qL ([mkO 6 (fun v => VR v (enc (Vector.replicate 16 (0 : UInt8)))), mkO 7 (fun v => VR v (enc (Vector.replicate 16 (0 : UInt8))))] : Mk) D u) ∧ GOk ([([], fun us v => v = (Value.agg (enc r9.1).toArray)), ([], fun us v => v = (Value.agg (enc p2).toArray)), ([], fun us v => v = (Value.agg (enc r16).toArray)), ([], fun us v => v = (Value.agg (enc r9.2).toArray)), ([], fun us v => v = (Value.agg (enc p2).toArray)), ([], fun us v => v = (Value.agg (enc r18).toArray)), ([], fun us v => True), ([], fun us v => True)] : Gs) D u) hE (fun u => ⟨M.qE (M.qE (M.q0 hM.drew u) emO) emO, Jj⟩) (ZL (Zb ?_ (Zb ?_ (Zb ?_ (Zb ?_ (Zb ?_ (Zb ?_ (Zb ?_ (Zb ?_ ZF))))))))) ?_
 ·intro a w ux15 D hE hI hD hdc hp
  have hM0 := hI.1
  have hM := hI.1
  exact Zm (cs := enc r9.1) hE Za ld rfl ZH rfl (hM.rawAt (pre := [_])) (Flat.len _) fun a hE => ⟨_, _, rfl, hE, M.qKeep hM0 rfl, hI.2.put hD rfl ZP rfl⟩
 ·intro a w ux15 D hE hI hD hdc hp
  have hM0 := hI.1
  have hM := hI.1
  exact Zm (cs := enc p2) hE Za ld rfl ZH rfl (hM.rawAt (pre := [_, _, _])) (Flat.len _) fun a hE => ⟨_, _, rfl, hE, M.qKeep hM0 rfl, hI.2.put hD rfl ZP rfl⟩
 ·intro a w ux15 D hE hI hD hdc hp
  have d0 : D 0 = true := hp 0 _ rfl rfl
  have g0 := hI.2 0 d0 _ rfl
  have f0 : ux15 0 = (Value.agg (enc r9.1).toArray) := g0.2
  have d1 : D 1 = true := hp 1 _ rfl rfl
  have g1 := hI.2 1 d1 _ rfl
  have f1 : ux15 1 = (Value.agg (enc p2).toArray) := g1.2
  have hM0 := hI.1
  refine Zs hE Za ld (ZY (ZS (lk rfl f0) (ZS (lk rfl f1) YT))) AJ (Ur _ r9.1 p2 r16 e17) ?_
  rintro v w a ⟨rfl, hK⟩ hE
  exact ⟨_, _, rfl, hE, M.qKeep (hM0.keep hK) rfl, hI.2.put hD rfl ZP rfl⟩
 ·intro a w ux15 D hE hI hD hdc hp
  have hM0 := hI.1
  have hM := hI.1
  exact Zm (cs := enc r9.2) hE Za ld rfl ZH rfl (hM.rawAt (pre := [])) (Flat.len _) fun a hE => ⟨_, _, rfl, hE, M.qKeep hM0 rfl, hI.2.put hD rfl ZP rfl⟩
 ·intro a w ux15 D hE hI hD hdc hp
  have hM0 := hI.1
  have hM := hI.1
  exact Zm (cs := enc p2) hE Za ld rfl ZH rfl (hM.rawAt (pre := [_, _, _])) (Flat.len _) fun a hE => ⟨_, _, rfl, hE, M.qKeep hM0 rfl, hI.2.put hD rfl ZP rfl⟩
 ·intro a w ux15 D hE hI hD hdc hp
  have d3 : D 3 = true := hp 0 _ rfl rfl
  have g3 := hI.2 3 d3 _ rfl
  have f3 : ux15 3 = (Value.agg (enc r9.2).toArray) := g3.2
  have d4 : D 4 = true := hp 1 _ rfl rfl
  have g4 := hI.2 4 d4 _ rfl
  have f4 : ux15 4 = (Value.agg (enc p2).toArray) := g4.2
  have hM0 := hI.1
  refine Zs hE Za ld (ZY (ZS (lk rfl f3) (ZS (lk rfl f4) YT))) AJ (Ur _ r9.2 p2 r18 e19) ?_
  rintro v w a ⟨rfl, hK⟩ hE
  exact ⟨_, _, rfl, hE, M.qKeep (hM0.keep hK) rfl, hI.2.put hD rfl ZP rfl⟩
 ·intro a w ux15 D hE hI hD hdc hp
  have hM0 := hI.1
  have hM := hI.1
  refine ZI hE hM Za ld ZH ?_; intro b20 w a hM hE
  have hM := hM.pack1 (it := VR _ (enc (Vector.replicate 16 (0 : UInt8)))) (fun w w' fp ⟨b', e, k⟩ hb => ⟨b', e, Xp w w' fp k hb⟩) (fun fp k => ⟨_, rfl, k⟩)
  exact ⟨_, _, rfl, hE, M.qFill (mk1 := []) (mk2 := [_]) (f := fun v => VR v (enc (Vector.replicate 16 (0 : UInt8)))) hM rfl hD, hI.2.put hD rfl ZP trivial⟩
 ·intro a w ux15 D hE hI hD hdc hp
  have hM0 := hI.1
  have hM := hI.1
  refine ZI hE hM Za ld ZH ?_; intro b22 w a hM hE
  have hM := hM.pack1 (it := VR _ (enc (Vector.replicate 16 (0 : UInt8)))) (fun w w' fp ⟨b', e, k⟩ hb => ⟨b', e, Xp w w' fp k hb⟩) (fun fp k => ⟨_, rfl, k⟩)
  exact ⟨_, _, rfl, hE, M.qFill (mk1 := [_]) (mk2 := []) (f := fun v => VR v (enc (Vector.replicate 16 (0 : UInt8)))) hM rfl hD, hI.2.put hD rfl ZP trivial⟩
 ·intro a w ux15 D hE hI hall
  have hM : M (Old w0) w0 w [raw b13 (enc r9.2), raw b11 (enc r9.1), raw b7 (enc (Vector.replicate 32 (0 : UInt8))), raw b5 (enc p2), raw b3 (enc p1), raw b1 (cat [[vI p0.Field], enc p0.Box, enc p0.Mix, enc p0.Places, [vI p0.Rounds]]), opt (D 6) (VR (ux15 6) (enc (Vector.replicate 16 (0 : UInt8)))), opt (D 7) (VR (ux15 7) (enc (Vector.replicate 16 (0 : UInt8))))] := hI.1
  have d0 : D 0 = true := hall 0 (by decide)
  have d1 : D 1 = true := hall 1 (by decide)
  have d2 : D 2 = true := hall 2 (by decide)
  have d3 : D 3 = true := hall 3 (by decide)
  have d4 : D 4 = true := hall 4 (by decide)
  have d5 : D 5 = true := hall 5 (by decide)
  have d6 : D 6 = true := hall 6 (by decide)
  have d7 : D 7 = true := hall 7 (by decide)
  have f0 : ux15 0 = (Value.agg (enc r9.1).toArray) := (hI.2 0 d0 _ rfl).2
  have f1 : ux15 1 = (Value.agg (enc p2).toArray) := (hI.2 1 d1 _ rfl).2
  have f2 : ux15 2 = (Value.agg (enc r16).toArray) := (hI.2 2 d2 _ rfl).2
  have f3 : ux15 3 = (Value.agg (enc r9.2).toArray) := (hI.2 3 d3 _ rfl).2
  have f4 : ux15 4 = (Value.agg (enc p2).toArray) := (hI.2 4 d4 _ rfl).2
  have f5 : ux15 5 = (Value.agg (enc r18).toArray) := (hI.2 5 d5 _ rfl).2
  have hM := (hM.sure (pre := [_, _, _, _, _, _]) d6).pull
  obtain ⟨_, ⟨b24, f25, _⟩, _⟩ := hM.head
  have hM := hM.pack1 Xp (it := raw b24 (enc (Vector.replicate 16 (0 : UInt8)))) (fun fp ⟨b2, e2, k2⟩ => by rw [f25] at e2; simp [ptr] at e2; subst e2; exact k2)
  have hM := (hM.sure (pre := [_, _, _, _, _, _, _]) d7).pull
  obtain ⟨_, ⟨b26, f27, _⟩, _⟩ := hM.head
  have hM := hM.pack1 Xp (it := raw b26 (enc (Vector.replicate 16 (0 : UInt8)))) (fun fp ⟨b2, e2, k2⟩ => by rw [f27] at e2; simp [ptr] at e2; subst e2; exact k2)
  have hE := hE.sub (e' := [(22, (Value.agg (enc r16).toArray)), (25, (Value.agg (enc r18).toArray)), (9, (ptr b24 0)), (10, (ptr b26 0)), (0, (Value.agg (enc p0).toArray)), (1, (Value.agg (enc p1).toArray)), (2, (Value.agg (enc p2).toArray)), (3, (ptr b1 0)), (4, (ptr b3 0)), (5, (ptr b5 0)), (6, (ptr b7 0)), (7, (ptr b11 0)), (8, (ptr b13 0)), (15, (Value.tuple [(Value.agg (enc r9.1).toArray), (Value.agg (enc r9.2).toArray)].toArray)), (16, (Value.agg (enc p1).toArray)), (17, (Value.tuple [(Value.agg (enc r9.1).toArray), (Value.agg (enc r9.2).toArray)].toArray)), (18, (Value.agg (enc r9.1).toArray)), (19, (Value.agg (enc r9.2).toArray))]) ⟨lk rfl f2, lk rfl f5, lk rfl f25, lk rfl f27, rfl, rfl, rfl, rfl, rfl, rfl, rfl, rfl, rfl, rfl, rfl, rfl, rfl, rfl, trivial⟩
  have hM := hM.pull (pre := [_])
  refine Zt (seg := enc r16) (cs' := enc r16) hE hM Za rfl rfl rfl ZH (Flat.len _) (zle flq) (Flat.cell _) (Zo flq) ?_; intro w a hM hE
  have hM := hM.pull (pre := [_])
  refine Zt (seg := enc r18) (cs' := enc r18) hE hM Za rfl rfl rfl ZH (Flat.len _) (zle flq) (Flat.cell _) (Zo flq) fun w a hM hE => Zi (Zz (wp_seq ?_))
  obtain ⟨r29, e30, hF⟩ := bind_some hF
  obtain ⟨r31, e32, hF⟩ := bind_some hF
  refine VX (n := 59) (hd := [_, _, _, _, _, _, _, _, _]) (tl := [_]) YN rfl rfl [26, 27, 28, 29, 30, 31, 32, 33, 11] (by decide) (fun D u w => M (Old w0) w0 w ([raw b26 (enc r18), raw b24 (enc r16), raw b13 (enc r9.2), raw b11 (enc r9.1), raw b7 (enc (Vector.replicate 32 (0 : UInt8))), raw b5 (enc p2), raw b3 (enc p1), raw b1 (cat [[vI p0.Field], enc p0.Box, enc p0.Mix, enc p0.Places, [vI p0.Rounds]])] ++ qL ([mkO 8 (fun v => VR v (enc (Vector.replicate 16 (0 : UInt8))))] : Mk) D u) ∧ GOk ([([], fun us v => v = (Value.agg (enc p0).toArray)), ([], fun us v => v = (Value.agg (enc r9.2).toArray)), ([], fun us v => v = (Value.agg (enc r16).toArray)), ([], fun us v => v = (ptr b1 (0 + 289))), ([], fun us v => v = (vI p0.Rounds)), ([], fun us v => v = (Value.agg (enc r29).toArray)), ([], fun us v => v = (Value.agg (enc r16).toArray)), ([], fun us v => v = (Value.agg (enc r31).toArray)), ([], fun us v => True)] : Gs) D u) hE (fun u => ⟨M.qE (M.q0 hM.drew u) emO, Jj⟩) (ZL (Zb ?_ (Zb ?_ (Zb ?_ (Zb ?_ (Zb ?_ (Zb ?_ (Zb ?_ (Zb ?_ (Zb ?_ ZF)))))))))) ?_
  ·intro a w ux28 D hE hI hD hdc hp
   have hM0 := hI.1
   have hM := hI.1
   exact Zm (cs := enc p0) hE Za ld rfl Va rfl (hM.rawAt (pre := [_, _, _, _, _, _, _])) (ZC (cl1 (n := 1) (m := 289) rfl (cl1 (n := 256) (m := 33) (Flat.len _) (cl1 (n := 16) (m := 17) (Flat.len _) (cl1 (n := 16) (m := 1) (Flat.len _) (cl1 (n := 1) (m := 0) rfl cl0)))))) fun a hE => ⟨_, _, rfl, hE, M.qKeep hM0 rfl, hI.2.put hD rfl ZP rfl⟩
  ·intro a w ux28 D hE hI hD hdc hp
   have hM0 := hI.1
   have hM := hI.1
   exact Zm (cs := enc r9.2) hE Za ld rfl ZH rfl (hM.rawAt (pre := [_, _])) (Flat.len _) fun a hE => ⟨_, _, rfl, hE, M.qKeep hM0 rfl, hI.2.put hD rfl ZP rfl⟩
  ·intro a w ux28 D hE hI hD hdc hp
   have hM0 := hI.1
   have hM := hI.1
   exact Zm (cs := enc r16) hE Za ld rfl ZH rfl (hM.rawAt (pre := [_])) (Flat.len _) fun a hE => ⟨_, _, rfl, hE, M.qKeep hM0 rfl, hI.2.put hD rfl ZP rfl⟩
  ·intro a w ux28 D hE hI hD hdc hp
   have hM0 := hI.1
   exact Zg hE Za ld rfl (A3) fun a hE => ⟨_, _, rfl, hE, M.qKeep hM0 rfl, hI.2.put hD rfl ZP rfl⟩
  ·intro a w ux28 D hE hI hD hdc hp
   have d3 : D 3 = true := hp 0 _ rfl rfl
   have g3 := hI.2 3 d3 _ rfl
   have f3 : ux28 3 = (ptr b1 (0 + 289)) := g3.2
   have hM0 := hI.1
   have hM := hI.1
   exact Zq (v := (vI p0.Rounds)) hE Za ld (lk rfl f3) ty2 rfl (At.cat (pre := [[vI p0.Field], enc p0.Box, enc p0.Mix, enc p0.Places]) (hM.rawAt (pre := [_, _, _, _, _, _, _])) (cl1 (n := 1) (m := 288) rfl (cl1 (n := 256) (m := 32) (Flat.len _) (cl1 (n := 16) (m := 16) (Flat.len _) (cl1 (n := 16) (m := 0) (Flat.len _) cl0))))) fun a hE => ⟨_, _, rfl, hE, M.qKeep hM0 rfl, hI.2.put hD rfl ZP rfl⟩
  ·intro a w ux28 D hE hI hD hdc hp
   have d0 : D 0 = true := hp 0 _ rfl rfl
   have g0 := hI.2 0 d0 _ rfl
   have f0 : ux28 0 = (Value.agg (enc p0).toArray) := g0.2
   have d1 : D 1 = true := hp 1 _ rfl rfl
   have g1 := hI.2 1 d1 _ rfl
   have f1 : ux28 1 = (Value.agg (enc r9.2).toArray) := g1.2
   have d2 : D 2 = true := hp 2 _ rfl rfl
   have g2 := hI.2 2 d2 _ rfl
   have f2 : ux28 2 = (Value.agg (enc r16).toArray) := g2.2
   have d4 : D 4 = true := hp 3 _ rfl rfl
   have g4 := hI.2 4 d4 _ rfl
   have f4 : ux28 4 = (vI p0.Rounds) := g4.2
   have hM0 := hI.1
   refine Zs hE Za ld (ZY (ZS (lk rfl f0) (ZS (lk rfl f1) (ZS (lk rfl f2) (ZS (lk rfl f4) YT))))) cb223 (Qr _ p0 r9.2 r16 p0.Rounds r29 e30) ?_
   rintro v w a ⟨rfl, hK⟩ hE
   exact ⟨_, _, rfl, hE, M.qKeep (hM0.keep hK) rfl, hI.2.put hD rfl ZP rfl⟩
  ·intro a w ux28 D hE hI hD hdc hp
   have hM0 := hI.1
   have hM := hI.1
   exact Zm (cs := enc r16) hE Za ld rfl ZH rfl (hM.rawAt (pre := [_])) (Flat.len _) fun a hE => ⟨_, _, rfl, hE, M.qKeep hM0 rfl, hI.2.put hD rfl ZP rfl⟩
  ·intro a w ux28 D hE hI hD hdc hp
   have d5 : D 5 = true := hp 0 _ rfl rfl
   have g5 := hI.2 5 d5 _ rfl
   have f5 : ux28 5 = (Value.agg (enc r29).toArray) := g5.2
   have d6 : D 6 = true := hp 1 _ rfl rfl
   have g6 := hI.2 6 d6 _ rfl
   have f6 : ux28 6 = (Value.agg (enc r16).toArray) := g6.2
   have hM0 := hI.1
   refine Zs hE Za ld (ZY (ZS (lk rfl f5) (ZS (lk rfl f6) YT))) AJ (Ur _ r29 r16 r31 e32) ?_
   rintro v w a ⟨rfl, hK⟩ hE
   exact ⟨_, _, rfl, hE, M.qKeep (hM0.keep hK) rfl, hI.2.put hD rfl ZP rfl⟩
  ·intro a w ux28 D hE hI hD hdc hp
   have hM0 := hI.1
   have hM := hI.1
   refine ZI hE hM Za ld ZH ?_; intro b33 w a hM hE
   have hM := hM.pack1 (it := VR _ (enc (Vector.replicate 16 (0 : UInt8)))) (fun w w' fp ⟨b', e, k⟩ hb => ⟨b', e, Xp w w' fp k hb⟩) (fun fp k => ⟨_, rfl, k⟩)
   exact ⟨_, _, rfl, hE, M.qFill (mk1 := []) (mk2 := []) (f := fun v => VR v (enc (Vector.replicate 16 (0 : UInt8)))) hM rfl hD, hI.2.put hD rfl ZP trivial⟩
  ·intro a w ux28 D hE hI hall
   have hM : M (Old w0) w0 w [raw b26 (enc r18), raw b24 (enc r16), raw b13 (enc r9.2), raw b11 (enc r9.1), raw b7 (enc (Vector.replicate 32 (0 : UInt8))), raw b5 (enc p2), raw b3 (enc p1), raw b1 (cat [[vI p0.Field], enc p0.Box, enc p0.Mix, enc p0.Places, [vI p0.Rounds]]), opt (D 8) (VR (ux28 8) (enc (Vector.replicate 16 (0 : UInt8))))] := hI.1
   have d0 : D 0 = true := hall 0 (by decide)
   have d1 : D 1 = true := hall 1 (by decide)
   have d2 : D 2 = true := hall 2 (by decide)
   have d3 : D 3 = true := hall 3 (by decide)
   have d4 : D 4 = true := hall 4 (by decide)
   have d5 : D 5 = true := hall 5 (by decide)
   have d6 : D 6 = true := hall 6 (by decide)
   have d7 : D 7 = true := hall 7 (by decide)
   have d8 : D 8 = true := hall 8 (by decide)
   have f0 : ux28 0 = (Value.agg (enc p0).toArray) := (hI.2 0 d0 _ rfl).2
   have f1 : ux28 1 = (Value.agg (enc r9.2).toArray) := (hI.2 1 d1 _ rfl).2
   have f2 : ux28 2 = (Value.agg (enc r16).toArray) := (hI.2 2 d2 _ rfl).2
   have f3 : ux28 3 = (ptr b1 (0 + 289)) := (hI.2 3 d3 _ rfl).2
   have f4 : ux28 4 = (vI p0.Rounds) := (hI.2 4 d4 _ rfl).2
   have f5 : ux28 5 = (Value.agg (enc r29).toArray) := (hI.2 5 d5 _ rfl).2
   have f6 : ux28 6 = (Value.agg (enc r16).toArray) := (hI.2 6 d6 _ rfl).2
   have f7 : ux28 7 = (Value.agg (enc r31).toArray) := (hI.2 7 d7 _ rfl).2
   have hM := (hM.sure (pre := [_, _, _, _, _, _, _, _]) d8).pull
   obtain ⟨_, ⟨b35, f36, _⟩, _⟩ := hM.head
   have hM := hM.pack1 Xp (it := raw b35 (enc (Vector.replicate 16 (0 : UInt8)))) (fun fp ⟨b2, e2, k2⟩ => by rw [f36] at e2; simp [ptr] at e2; subst e2; exact k2)
   have hE := hE.sub (e' := [(33, (Value.agg (enc r31).toArray)), (11, (ptr b35 0)), (0, (Value.agg (enc p0).toArray)), (1, (Value.agg (enc p1).toArray)), (2, (Value.agg (enc p2).toArray)), (3, (ptr b1 0)), (4, (ptr b3 0)), (5, (ptr b5 0)), (6, (ptr b7 0)), (7, (ptr b11 0)), (8, (ptr b13 0)), (9, (ptr b24 0)), (10, (ptr b26 0)), (15, (Value.tuple [(Value.agg (enc r9.1).toArray), (Value.agg (enc r9.2).toArray)].toArray)), (16, (Value.agg (enc p1).toArray)), (17, (Value.tuple [(Value.agg (enc r9.1).toArray), (Value.agg (enc r9.2).toArray)].toArray)), (18, (Value.agg (enc r9.1).toArray)), (19, (Value.agg (enc r9.2).toArray)), (22, (Value.agg (enc r16).toArray)), (25, (Value.agg (enc r18).toArray))]) ⟨lk rfl f7, lk rfl f36, rfl, rfl, rfl, rfl, rfl, rfl, rfl, rfl, rfl, rfl, rfl, rfl, rfl, rfl, rfl, rfl, rfl, rfl, trivial⟩
   refine Zt (seg := enc r31) (cs' := enc r31) hE hM Za rfl rfl rfl ZH (Flat.len _) (zle flq) (Flat.cell _) (Zo flq) fun w a hM hE => Zi (Zz (wp_seq ?_))
   obtain ⟨r38, e39, hF⟩ := bind_some hF
   obtain ⟨r40, e41, hF⟩ := bind_some hF
   refine VX (n := 59) (hd := [_, _, _, _, _, _, _, _, _]) (tl := [_]) YN rfl rfl [34, 35, 36, 37, 38, 39, 40, 41, 12] (by decide) (fun D u w => M (Old w0) w0 w ([raw b35 (enc r31), raw b26 (enc r18), raw b24 (enc r16), raw b13 (enc r9.2), raw b11 (enc r9.1), raw b7 (enc (Vector.replicate 32 (0 : UInt8))), raw b5 (enc p2), raw b3 (enc p1), raw b1 (cat [[vI p0.Field], enc p0.Box, enc p0.Mix, enc p0.Places, [vI p0.Rounds]])] ++ qL ([mkO 8 (fun v => VR v (enc (Vector.replicate 16 (0 : UInt8))))] : Mk) D u) ∧ GOk ([([], fun us v => v = (Value.agg (enc p0).toArray)), ([], fun us v => v = (Value.agg (enc r31).toArray)), ([], fun us v => v = (Value.agg (enc r18).toArray)), ([], fun us v => v = (ptr b1 (0 + 289))), ([], fun us v => v = (vI p0.Rounds)), ([], fun us v => v = (Value.agg (enc r38).toArray)), ([], fun us v => v = (Value.agg (enc r18).toArray)), ([], fun us v => v = (Value.agg (enc r40).toArray)), ([], fun us v => True)] : Gs) D u) hE (fun u => ⟨M.qE (M.q0 hM.drew u) emO, Jj⟩) (ZL (Zb ?_ (Zb ?_ (Zb ?_ (Zb ?_ (Zb ?_ (Zb ?_ (Zb ?_ (Zb ?_ (Zb ?_ ZF)))))))))) ?_
   ·intro a w ux37 D hE hI hD hdc hp
    have hM0 := hI.1
    have hM := hI.1
    exact Zm (cs := enc p0) hE Za ld rfl Va rfl (hM.rawAt (pre := [_, _, _, _, _, _, _, _])) (ZC (cl1 (n := 1) (m := 289) rfl (cl1 (n := 256) (m := 33) (Flat.len _) (cl1 (n := 16) (m := 17) (Flat.len _) (cl1 (n := 16) (m := 1) (Flat.len _) (cl1 (n := 1) (m := 0) rfl cl0)))))) fun a hE => ⟨_, _, rfl, hE, M.qKeep hM0 rfl, hI.2.put hD rfl ZP rfl⟩
   ·intro a w ux37 D hE hI hD hdc hp
    have hM0 := hI.1
    have hM := hI.1
    exact Zm (cs := enc r31) hE Za ld rfl ZH rfl (hM.rawAt (pre := [])) (Flat.len _) fun a hE => ⟨_, _, rfl, hE, M.qKeep hM0 rfl, hI.2.put hD rfl ZP rfl⟩
   ·intro a w ux37 D hE hI hD hdc hp
    have hM0 := hI.1
    have hM := hI.1
    exact Zm (cs := enc r18) hE Za ld rfl ZH rfl (hM.rawAt (pre := [_])) (Flat.len _) fun a hE => ⟨_, _, rfl, hE, M.qKeep hM0 rfl, hI.2.put hD rfl ZP rfl⟩
   ·intro a w ux37 D hE hI hD hdc hp
    have hM0 := hI.1
    exact Zg hE Za ld rfl (A3) fun a hE => ⟨_, _, rfl, hE, M.qKeep hM0 rfl, hI.2.put hD rfl ZP rfl⟩
   ·intro a w ux37 D hE hI hD hdc hp
    have d3 : D 3 = true := hp 0 _ rfl rfl
    have g3 := hI.2 3 d3 _ rfl
    have f3 : ux37 3 = (ptr b1 (0 + 289)) := g3.2
    have hM0 := hI.1
    have hM := hI.1
    exact Zq (v := (vI p0.Rounds)) hE Za ld (lk rfl f3) ty2 rfl (At.cat (pre := [[vI p0.Field], enc p0.Box, enc p0.Mix, enc p0.Places]) (hM.rawAt (pre := [_, _, _, _, _, _, _, _])) (cl1 (n := 1) (m := 288) rfl (cl1 (n := 256) (m := 32) (Flat.len _) (cl1 (n := 16) (m := 16) (Flat.len _) (cl1 (n := 16) (m := 0) (Flat.len _) cl0))))) fun a hE => ⟨_, _, rfl, hE, M.qKeep hM0 rfl, hI.2.put hD rfl ZP rfl⟩
   ·intro a w ux37 D hE hI hD hdc hp
    have d0 : D 0 = true := hp 0 _ rfl rfl
    have g0 := hI.2 0 d0 _ rfl
    have f0 : ux37 0 = (Value.agg (enc p0).toArray) := g0.2
    have d1 : D 1 = true := hp 1 _ rfl rfl
    have g1 := hI.2 1 d1 _ rfl
    have f1 : ux37 1 = (Value.agg (enc r31).toArray) := g1.2
    have d2 : D 2 = true := hp 2 _ rfl rfl
    have g2 := hI.2 2 d2 _ rfl
    have f2 : ux37 2 = (Value.agg (enc r18).toArray) := g2.2
    have d4 : D 4 = true := hp 3 _ rfl rfl
    have g4 := hI.2 4 d4 _ rfl
    have f4 : ux37 4 = (vI p0.Rounds) := g4.2
    have hM0 := hI.1
    refine Zs hE Za ld (ZY (ZS (lk rfl f0) (ZS (lk rfl f1) (ZS (lk rfl f2) (ZS (lk rfl f4) YT))))) cb223 (Qr _ p0 r31 r18 p0.Rounds r38 e39) ?_
    rintro v w a ⟨rfl, hK⟩ hE
    exact ⟨_, _, rfl, hE, M.qKeep (hM0.keep hK) rfl, hI.2.put hD rfl ZP rfl⟩
   ·intro a w ux37 D hE hI hD hdc hp
    have hM0 := hI.1
    have hM := hI.1
    exact Zm (cs := enc r18) hE Za ld rfl ZH rfl (hM.rawAt (pre := [_])) (Flat.len _) fun a hE => ⟨_, _, rfl, hE, M.qKeep hM0 rfl, hI.2.put hD rfl ZP rfl⟩
   ·intro a w ux37 D hE hI hD hdc hp
    have d5 : D 5 = true := hp 0 _ rfl rfl
    have g5 := hI.2 5 d5 _ rfl
    have f5 : ux37 5 = (Value.agg (enc r38).toArray) := g5.2
    have d6 : D 6 = true := hp 1 _ rfl rfl
    have g6 := hI.2 6 d6 _ rfl
    have f6 : ux37 6 = (Value.agg (enc r18).toArray) := g6.2
    have hM0 := hI.1
    refine Zs hE Za ld (ZY (ZS (lk rfl f5) (ZS (lk rfl f6) YT))) AJ (Ur _ r38 r18 r40 e41) ?_
    rintro v w a ⟨rfl, hK⟩ hE
    exact ⟨_, _, rfl, hE, M.qKeep (hM0.keep hK) rfl, hI.2.put hD rfl ZP rfl⟩
   ·intro a w ux37 D hE hI hD hdc hp
    have hM0 := hI.1
    have hM := hI.1
    refine ZI hE hM Za ld ZH ?_; intro b42 w a hM hE
    have hM := hM.pack1 (it := VR _ (enc (Vector.replicate 16 (0 : UInt8)))) (fun w w' fp ⟨b', e, k⟩ hb => ⟨b', e, Xp w w' fp k hb⟩) (fun fp k => ⟨_, rfl, k⟩)
    exact ⟨_, _, rfl, hE, M.qFill (mk1 := []) (mk2 := []) (f := fun v => VR v (enc (Vector.replicate 16 (0 : UInt8)))) hM rfl hD, hI.2.put hD rfl ZP trivial⟩
   ·intro a w ux37 D hE hI hall
    have hM : M (Old w0) w0 w [raw b35 (enc r31), raw b26 (enc r18), raw b24 (enc r16), raw b13 (enc r9.2), raw b11 (enc r9.1), raw b7 (enc (Vector.replicate 32 (0 : UInt8))), raw b5 (enc p2), raw b3 (enc p1), raw b1 (cat [[vI p0.Field], enc p0.Box, enc p0.Mix, enc p0.Places, [vI p0.Rounds]]), opt (D 8) (VR (ux37 8) (enc (Vector.replicate 16 (0 : UInt8))))] := hI.1
    have d0 : D 0 = true := hall 0 (by decide)
    have d1 : D 1 = true := hall 1 (by decide)
    have d2 : D 2 = true := hall 2 (by decide)
    have d3 : D 3 = true := hall 3 (by decide)
    have d4 : D 4 = true := hall 4 (by decide)
    have d5 : D 5 = true := hall 5 (by decide)
    have d6 : D 6 = true := hall 6 (by decide)
    have d7 : D 7 = true := hall 7 (by decide)
    have d8 : D 8 = true := hall 8 (by decide)
    have f0 : ux37 0 = (Value.agg (enc p0).toArray) := (hI.2 0 d0 _ rfl).2
    have f1 : ux37 1 = (Value.agg (enc r31).toArray) := (hI.2 1 d1 _ rfl).2
    have f2 : ux37 2 = (Value.agg (enc r18).toArray) := (hI.2 2 d2 _ rfl).2
    have f3 : ux37 3 = (ptr b1 (0 + 289)) := (hI.2 3 d3 _ rfl).2
    have f4 : ux37 4 = (vI p0.Rounds) := (hI.2 4 d4 _ rfl).2
    have f5 : ux37 5 = (Value.agg (enc r38).toArray) := (hI.2 5 d5 _ rfl).2
    have f6 : ux37 6 = (Value.agg (enc r18).toArray) := (hI.2 6 d6 _ rfl).2
    have f7 : ux37 7 = (Value.agg (enc r40).toArray) := (hI.2 7 d7 _ rfl).2
    have hM := (hM.sure (pre := [_, _, _, _, _, _, _, _, _]) d8).pull
    obtain ⟨_, ⟨b44, f45, _⟩, _⟩ := hM.head
    have hM := hM.pack1 Xp (it := raw b44 (enc (Vector.replicate 16 (0 : UInt8)))) (fun fp ⟨b2, e2, k2⟩ => by rw [f45] at e2; simp [ptr] at e2; subst e2; exact k2)
    have hE := hE.sub (e' := [(41, (Value.agg (enc r40).toArray)), (12, (ptr b44 0)), (0, (Value.agg (enc p0).toArray)), (1, (Value.agg (enc p1).toArray)), (2, (Value.agg (enc p2).toArray)), (3, (ptr b1 0)), (4, (ptr b3 0)), (5, (ptr b5 0)), (6, (ptr b7 0)), (7, (ptr b11 0)), (8, (ptr b13 0)), (9, (ptr b24 0)), (10, (ptr b26 0)), (11, (ptr b35 0)), (15, (Value.tuple [(Value.agg (enc r9.1).toArray), (Value.agg (enc r9.2).toArray)].toArray)), (16, (Value.agg (enc p1).toArray)), (17, (Value.tuple [(Value.agg (enc r9.1).toArray), (Value.agg (enc r9.2).toArray)].toArray)), (18, (Value.agg (enc r9.1).toArray)), (19, (Value.agg (enc r9.2).toArray)), (22, (Value.agg (enc r16).toArray)), (25, (Value.agg (enc r18).toArray)), (33, (Value.agg (enc r31).toArray))]) ⟨lk rfl f7, lk rfl f45, rfl, rfl, rfl, rfl, rfl, rfl, rfl, rfl, rfl, rfl, rfl, rfl, rfl, rfl, rfl, rfl, rfl, rfl, rfl, rfl, trivial⟩
    refine Zt (seg := enc r40) (cs' := enc r40) hE hM Za rfl rfl rfl ZH (Flat.len _) (zle flq) (Flat.cell _) (Zo flq) fun w a hM hE => Zi (Zz (Zc (XG (parts := []) (vs := []) (cs := enc (Vector.replicate 32 (0 : UInt8))) hE Za ld rfl rfl Yu rfl ty5 Y0 fun a hE => ZI hE hM Za ld Yu fun b46 w a hM hE => Zt (seg := enc (Vector.replicate 32 (0 : UInt8))) (cs' := enc (Vector.replicate 32 (0 : UInt8))) hE hM Za rfl rfl rfl Yu (Flat.len _) (zle flq) (Flat.cell _) (Zo flq) fun w a hM hE => Zf (wp_seq (Zc (Ze hE Za ld rfl fun a hE => Zf ?_))))))
    obtain ⟨j48, hl49, hF50⟩ := bind_some hF
    refine ZR (fun a w => Env 59 a [(6, (ptr b7 0)), (13, (ptr b46 0))] ∧ M (Old w0) w0 w [raw b46 (enc j48), raw b7 (enc (Vector.replicate 32 (0 : UInt8)))]) ?_ ?_
    ·skip
     refine wp_block ?_
     have hM := hM.pull (pre := [_, _, _, _, _, _, _])
     have hM := hM.pull (pre := [_, _, _])
     have hM := hM.pull (pre := [_, _, _])
     have hM := hM.pull (pre := [_, _, _])
     have hM := M.fst (l := [_, _, _, _]) hM
     refine ZK (fun (s51 : (Vector UInt8 32) × Int) a w => Env 59 a [(6, (ptr b7 0)), (11, (ptr b35 0)), (12, (ptr b44 0)), (13, (ptr b46 0)), (14, vI s51.2)] ∧ M (Old w0) w0 w [raw b46 (enc s51.1), raw b44 (enc r40), raw b35 (enc r31), raw b7 (enc (Vector.replicate 32 (0 : UInt8)))]) hl49 ⟨hE.sub ⟨rfl, rfl, rfl, rfl, rfl, trivial⟩, hM⟩ ?_
     rintro s51 a w ⟨hE, hM⟩ o54 hs52 hx53
     unfold X9 at hs52
     refine wp_seq (Zc (Zd hE Za ld rfl fun a hE => Zh hE Za ld rfl rfl rfl fun a hE => Zf ?_))
     refine Zv hE rfl ?_ ?_
     ·intro hb55
      have hs52 := ZA hs52 hb55
      refine wp_skip (Zz (wp_seq (wp_block (Zc (Zd hE Za ld rfl fun a hE => Zd hE Za ld rfl ?_))))); intro a hE
      obtain ⟨x57, e58, hs52⟩ := bind_some hs52
      have hi56 := Zj e58
      refine Zn hE Za ld rfl rfl Tryz.underlying70 ty5 hi56.1 fun a hE => Zq (v := (vB x57)) hE Za ld rfl ty5 rfl (At.vec (hM.rawAt (pre := [_, _])) hi56.2) ?_; intro a hE
      obtain ⟨x60, e61, hs52⟩ := bind_some hs52
      have hi59 := Zj e61
      refine Zn hE Za ld rfl rfl Tryz.underlying29 ty5 hi59.1 fun a hE => Zt (seg := [vB x57]) (cs' := enc (s51.1.setIfInBounds (s51.2).toNat x57)) hE hM Za rfl rfl rfl ty5 rfl (ZQ (v := s51.1) (x := x57) hi59.1) (Flat.cell (x57 : UInt8)) (ZJ (v := s51.1) (x := x57) hi59.1) fun w a hM hE => Zf (wp_region_lit (Zd hE Za ld rfl fun a hE => Zh hE Za ld rfl rfl rfl fun a hE => Zd hE Za ld rfl ?_)); intro a hE
      obtain ⟨x63, e64, hs52⟩ := bind_some hs52
      have hi62 := Zj e64
      refine Zn hE Za ld rfl rfl Tryz.underlying70 ty5 hi62.1 fun a hE => Zq (v := (vB x63)) hE Za ld rfl ty5 rfl (At.vec (hM.rawAt (pre := [_])) hi62.2) ?_; intro a hE
      obtain ⟨x66, e67, hs52⟩ := bind_some hs52
      have hi65 := Zj e67
      refine Zn hE Za ld rfl rfl Tryz.underlying29 ty5 hi65.1 fun a hE => Zt (seg := [vB x63]) (cs' := enc ((s51.1.setIfInBounds (s51.2).toNat x57).setIfInBounds ((wr (16 + s51.2))).toNat x63)) hE hM Za rfl rfl rfl ty5 rfl (ZQ (v := (s51.1.setIfInBounds (s51.2).toNat x57)) (x := x63) hi65.1) (Flat.cell (x63 : UInt8)) (ZJ (v := (s51.1.setIfInBounds (s51.2).toNat x57)) (x := x63) hi65.1) fun w a hM hE => Zi (Ye (Zz (wp_region_lit (Zd hE Za ld rfl fun a hE => Zh hE Za ld rfl rfl rfl fun a hE => Ze hE Za ld rfl fun a hE => Zi (Zl ?_)))))
      exact ⟨_, (Option.some.inj hs52).symm, hE.sub ⟨rfl, rfl, rfl, rfl, rfl, trivial⟩, hM⟩
     ·intro hb55
      have hs52 := ZB hs52 hb55
      refine wp_exit (Zp (Zp (Yc ?_)))
      have ht68 := hx53 _ (Option.some.inj hs52).symm
      subst ht68
      refine Zl ?_
      have hM := hM.pull (pre := [_, _, _])
      have hM := hM.pull (pre := [_])
      have hM := M.fst (l := [_, _]) hM
      exact ⟨hE.sub ⟨rfl, rfl, trivial⟩, hM⟩
    ·skip
     rintro a w ⟨hE, hM⟩
     refine Zz (Zc (Zm (cs := enc j48) hE Za ld rfl Yu rfl (hM.rawAt (pre := [])) (Flat.len _) ?_)); intro a hE
     have hM := hM.pull (pre := [_])
     refine Zt (seg := enc j48) (cs' := enc j48) hE hM Za rfl rfl rfl Yu (Flat.len _) (zle flq) (Flat.cell _) (Zo flq) fun w a hM hE => Zf ?_
     have hr := Option.some.inj hF50
     subst hr
     have hq69 : YB Tryz.prog _ _ (.cell 6 29) _ := ZZ hE rfl Yu rfl (hM.rawAt (pre := [])) (Flat.len _) rfl
     have hM := M.fst (l := []) hM
     exact wp_ret (Zy hE rfl hq69 ⟨_, rfl, rfl, hM.kept⟩)
noncomputable def Us (p0 : GCipher) (r8 : (List (Vector UInt8 16))) (s18 : (Vector UInt8 32) × Int) : Option (Fl ((Vector UInt8 32) × Int) (Vector UInt8 32)) :=
 if (decide (s18.2 < (r8.length : Int))) = true then ((idx r8 s18.2).bind fun x24 => (Wy p0 s18.1 x24).bind fun r27 => some (Fl.nx (r27, wr (s18.2 + 1)))) else (some (Fl.ex s18.1))
noncomputable def U1 (p0 : GCipher) (p1 : (List UInt8)) : Option ((Vector UInt8 32)) :=
 (Tf p1).bind fun r5 => (VL r5).bind fun r8 => (Ul).bind fun r11 => (ZG (Us p0 r8) (r11, 0) : Option ((Vector UInt8 32))).bind fun j15 => some j15
theorem Jv (w0 : World) (p0 : GCipher) (p1 : (List UInt8)) (v1_1 : Value) (hv1_1 : Ro w0 p1 [v1_1]) (r : (Vector UInt8 32)) (hF : U1 p0 p1 = some r) :
  Calls Tryz.prog 153 [(Value.agg (enc p0).toArray), v1_1].toArray w0 (fun en w' => ∃ v, en = .returned v ∧ (v = (Value.agg (enc r).toArray) ∧ Kept (Old w0) w0 w')) := by
 refine ZD (n := 26) Tryz.func153 rfl rfl (Nat.le_of_ble_eq_true rfl) rfl ?_
 intro a hE
 have hM := M.start w0
 unfold U1 at hF
 refine Zc (ZX (cs := cat [[vI p0.Field], enc p0.Box, enc p0.Mix, enc p0.Places, [vI p0.Rounds]]) hE hM Za ld rfl rfl fun b1 w a hM hE => ZI hE hM Za ld Yu fun b3 w a hM hE => Zf (Zc (Zd hE Za ld rfl ?_))); intro a hE
 obtain ⟨r5, e6, hF⟩ := bind_some hF
 refine Zs hE Za ld rfl cb188 (Ab _ p1 v1_1 (hM.rdo hv1_1) r5 e6) ?_
 rintro u7 w a ⟨_, rfl, hFr, hK⟩ hE
 have hM := hM.add hK hFr
 obtain ⟨r8, e9, hF⟩ := bind_some hF
 refine Zs hE Za ld rfl cb187 (He _ r5 u7 (hM.sl (pre := []) noB) r8 e9) ?_
 rintro u10 w a ⟨_, rfl, hFr, hK⟩ hE
 have hM := hM.add hK hFr
 obtain ⟨r11, e12, hF⟩ := bind_some hF
 refine Zs hE Za ld rfl cb189 (HR _  r11 e12) ?_
 rintro v w a ⟨rfl, hK⟩ hE
 have hM := hM.keep hK
 refine ZI hE hM Za ld Yu fun b13 w a hM hE => Ze hE Za ld rfl fun a hE => Zt (seg := enc r11) (cs' := enc r11) hE hM Za rfl rfl rfl Yu (Flat.len _) (zle flq) (Flat.cell _) (Zo flq) fun w a hM hE => Zf (wp_seq (Zc (Ze hE Za ld rfl fun a hE => Zf ?_)))
 obtain ⟨j15, hl16, hF17⟩ := bind_some hF
 refine ZR (fun a w => Env 26 a [(4, (ptr b3 0)), (6, (ptr b13 0))] ∧ M (Old w0) w0 w [raw b13 (enc j15), raw b3 (enc (Vector.replicate 32 (0 : UInt8)))]) ?_ ?_
 ·skip
  refine wp_block ?_
  have hM := hM.pull (pre := [_, _, _, _])
  have hM := hM.pull (pre := [_, _, _, _])
  have hM := hM.pull (pre := [_, _, _])
  have hM := hM.pull (pre := [_, _, _])
  have hM := M.fst (l := [_, _, _, _]) hM
  refine ZK (fun (s18 : (Vector UInt8 32) × Int) a w => Env 26 a [(2, (ptr b1 0)), (4, (ptr b3 0)), (5, u10), (6, (ptr b13 0)), (7, vI s18.2)] ∧ M (Old w0) w0 w [raw b13 (enc s18.1), osl NoB (r8 : List (Vector UInt8 16)) u10, raw b3 (enc (Vector.replicate 32 (0 : UInt8))), raw b1 (cat [[vI p0.Field], enc p0.Box, enc p0.Mix, enc p0.Places, [vI p0.Rounds]])]) hl16 ⟨hE.sub ⟨rfl, rfl, rfl, rfl, rfl, trivial⟩, hM⟩ ?_
  rintro s18 a w ⟨hE, hM⟩ o21 hs19 hx20
  unfold Us at hs19
  refine wp_seq (Zc (Zd hE Za ld rfl fun a hE => Zd hE Za ld rfl fun a hE => Z6 hE Za ld rfl Tryz.underlying32 (hM.sl (pre := [_]) noB) fun a hE => Zh hE Za ld rfl rfl rfl fun a hE => Zf ?_))
  refine Zv hE rfl ?_ ?_
  ·intro hb22
   have hs19 := ZA hs19 hb22
   refine wp_skip (Zz (wp_seq (wp_block ?_)))
   obtain ⟨x24, e25, hs19⟩ := bind_some hs19
   have hi26 := ZO e25
   obtain ⟨r27, e28, hs19⟩ := bind_some hs19
   refine Yr (n := 26) (hd := [_, _, _, _, _, _, _]) (tl := [_]) YN rfl rfl [18, 19, 20, 21, 22, 23, 24] (by decide) (fun w => M (Old w0) w0 w [raw b13 (enc s18.1), osl NoB (r8 : List (Vector UInt8 16)) u10, raw b3 (enc (Vector.replicate 32 (0 : UInt8))), raw b1 (cat [[vI p0.Field], enc p0.Box, enc p0.Mix, enc p0.Places, [vI p0.Rounds]])]) (fun j => ([fun v _ => v = (Value.agg (enc p0).toArray), fun v _ => v = (Value.agg (enc s18.1).toArray), fun v _ => v = u10, fun v _ => v = (vI s18.2), fun v _ => v = (ptr (sb u10) (so u10 + (s18.2).toNat * 16)), fun v _ => v = (Value.agg (enc x24).toArray), fun v _ => v = (Value.agg (enc r27).toArray)] : List (Value → World → Prop)).getD j (fun _ _ => True)) (fun _ _ h hk => h.keep hk) (gup (Zk (Zk (Zk (Zk (Zk (Zk (Zk VK)))))))) hE hM.drew (ZL (Zb ?_ (Zb ?_ (Zb ?_ (Zb ?_ (Zb ?_ (Zb ?_ (Zb ?_ ZF)))))))) ?_
   ·exact fun a w ux23 hE hM hp => Zm (cs := enc p0) hE Za ld rfl Va rfl (hM.rawAt (pre := [_, _, _])) (ZC (cl1 (n := 1) (m := 289) rfl (cl1 (n := 256) (m := 33) (Flat.len _) (cl1 (n := 16) (m := 17) (Flat.len _) (cl1 (n := 16) (m := 1) (Flat.len _) (cl1 (n := 1) (m := 0) rfl cl0)))))) fun a hE => ⟨Kept.refl _ _, _, _, rfl, hE, rfl⟩
   ·exact fun a w ux23 hE hM hp => Zm (cs := enc s18.1) hE Za ld rfl Yu rfl (hM.rawAt (pre := [])) (Flat.len _) fun a hE => ⟨Kept.refl _ _, _, _, rfl, hE, rfl⟩
   ·exact fun a w ux23 hE hM hp => Zd hE Za ld rfl fun a hE => ⟨Kept.refl _ _, _, _, rfl, hE, rfl⟩
   ·exact fun a w ux23 hE hM hp => Zd hE Za ld rfl fun a hE => ⟨Kept.refl _ _, _, _, rfl, hE, rfl⟩
   ·intro a w ux23 hE hM hp
    have f2 : ux23 2 = u10 := hp 0 _ rfl rfl
    have f3 : ux23 3 = (vI s18.2) := hp 1 _ rfl rfl
    exact ZN hE Za ld (lk rfl f2) (lk rfl f3) Tryz.underlying32 ZH (hM.sl (pre := [_]) noB) hi26.1 fun a hE => ⟨Kept.refl _ _, _, _, rfl, hE, rfl⟩
   ·intro a w ux23 hE hM hp
    have f4 : ux23 4 = (ptr (sb u10) (so u10 + (s18.2).toNat * 16)) := hp 0 _ rfl rfl
    exact Zm (cs := enc x24) hE Za ld (lk rfl f4) ZH rfl (Xa (hM.sl (pre := [_]) noB) hi26.2) (Flat.len _) fun a hE => ⟨Kept.refl _ _, _, _, rfl, hE, rfl⟩
   ·intro a w ux23 hE hM hp
    have f0 : ux23 0 = (Value.agg (enc p0).toArray) := hp 0 _ rfl rfl
    have f1 : ux23 1 = (Value.agg (enc s18.1).toArray) := hp 1 _ rfl rfl
    have f5 : ux23 5 = (Value.agg (enc x24).toArray) := hp 2 _ rfl rfl
    refine Zs hE Za ld (ZY (ZS (lk rfl f0) (ZS (lk rfl f1) (ZS (lk rfl f5) YT)))) cb190 (Ha _ p0 s18.1 x24 r27 e28) ?_
    rintro v w a ⟨rfl, hK⟩ hE
    exact ⟨hK, _, _, rfl, hE, rfl⟩
   ·intro a w ux23 hE hM hg
    have hE := hE.sub (e' := [(24, (Value.agg (enc r27).toArray)), (2, (ptr b1 0)), (4, (ptr b3 0)), (5, u10), (6, (ptr b13 0)), (7, vI s18.2), (12, vI s18.2), (13, u10), (14, (vI (r8.length : Int))), (15, (vT (decide (s18.2 < (r8.length : Int)))))]) ⟨lk rfl (hg 6 (by decide)), rfl, rfl, rfl, rfl, rfl, rfl, rfl, rfl, rfl, trivial⟩
    refine Zt (seg := enc r27) (cs' := enc r27) hE hM Za rfl rfl rfl Yu (Flat.len _) (zle flq) (Flat.cell _) (Zo flq) fun w a hM hE => Zi (Ye (Zz (wp_region_lit (Zd hE Za ld rfl fun a hE => Zh hE Za ld rfl rfl rfl fun a hE => Ze hE Za ld rfl fun a hE => Zi (Zl ?_)))))
    exact ⟨_, (Option.some.inj hs19).symm, hE.sub ⟨rfl, rfl, rfl, rfl, rfl, trivial⟩, hM⟩
  ·intro hb22
   have hs19 := ZB hs19 hb22
   refine wp_exit (Zp (Zp (Yc ?_)))
   have ht29 := hx20 _ (Option.some.inj hs19).symm
   subst ht29
   refine Zl ?_
   have hM := hM.pull (pre := [_, _])
   have hM := hM.pull (pre := [_])
   have hM := M.fst (l := [_, _]) hM
   exact ⟨hE.sub ⟨rfl, rfl, trivial⟩, hM⟩
 ·skip
  rintro a w ⟨hE, hM⟩
  refine Zz (Zc (Zm (cs := enc j15) hE Za ld rfl Yu rfl (hM.rawAt (pre := [])) (Flat.len _) ?_)); intro a hE
  have hM := hM.pull (pre := [_])
  refine Zt (seg := enc j15) (cs' := enc j15) hE hM Za rfl rfl rfl Yu (Flat.len _) (zle flq) (Flat.cell _) (Zo flq) fun w a hM hE => Zf ?_
  have hr := Option.some.inj hF17
  subst hr
  have hq30 : YB Tryz.prog _ _ (.cell 4 29) _ := ZZ hE rfl Yu rfl (hM.rawAt (pre := [])) (Flat.len _) rfl
  have hM := M.fst (l := []) hM
  exact wp_ret (Zy hE rfl hq30 ⟨_, rfl, rfl, hM.kept⟩)
noncomputable def VS (p0 : (Vector UInt8 32)) (s10 : (List UInt8) × Int) : Option (Fl ((List UInt8) × Int) (List UInt8)) :=
 if (decide (s10.2 < 32)) = true then ((ZM p0 s10.2).bind fun x18 => (app 1 s10.1 ([x18] : List UInt8)).bind fun l22 => some (Fl.nx ((s10.1 ++ ([x18] : List UInt8)), wr (s10.2 + 1)))) else (some (Fl.ex s10.1))
noncomputable def WZ (p0 : (Vector UInt8 32)) : Option ((List UInt8)) :=
 (ZG (VS p0) (([] : List UInt8), 0) : Option ((List UInt8))).bind fun j5 => some j5
theorem Q3 (w0 : World) (p0 : (Vector UInt8 32)) (r : (List UInt8)) (hF : WZ p0 = some r) :
  Calls Tryz.prog 182 [(Value.agg (enc p0).toArray)].toArray w0 (fun en w' => ∃ v, en = .returned v ∧ (∃ (y1 : Value), v = y1 ∧ Fr w0 w' [osl NoB (r : List UInt8) y1] ∧ Kept (Old w0) w0 w')) := by
 refine ZD (n := 17) Tryz.func182 rfl rfl (Nat.le_of_ble_eq_true rfl) rfl ?_
 intro a hE
 have hM := M.start w0
 unfold WZ at hF
 refine Zc (ZX (cs := enc p0) hE hM Za ld rfl rfl fun b1 w a hM hE => Ze hE Za ld rfl fun a hE => Zf (Zc (Z5 (xs := []) (l := ([] : List UInt8)) (vs := []) hE hM Za ld rfl rfl Tryz.underlying57 ty5 rfl (by decide) rfl fun u3 w a hM hE => Ze hE Za ld rfl fun a hE => Zf (wp_seq (Zc (Ze hE Za ld rfl fun a hE => Zf ?_))))))
 obtain ⟨j5, hl6, hF7⟩ := bind_some hF
 refine ZR (fun a w => ∃ (u8 : Value), Env 17 a [(3, u8)] ∧ M (Old w0) w0 w [osl NoB (j5 : List UInt8) u8]) ?_ ?_
 ·skip
  refine wp_block ?_
  have hM := hM.pull (pre := [_])
  refine ZK (fun (s10 : (List UInt8) × Int) a w => ∃ (u11 : Value), Env 17 a [(1, (ptr b1 0)), (3, u11), (4, vI s10.2)] ∧ M (Old w0) w0 w [raw b1 (enc p0), osl NoB (s10.1 : List UInt8) u11]) hl6 ⟨u3, hE.sub ⟨rfl, rfl, rfl, trivial⟩, hM⟩ ?_
  rintro s10 a w ⟨u11, hE, hM⟩ o15 hs13 hx14
  unfold VS at hs13
  refine wp_seq (Zc (Zd hE Za ld rfl fun a hE => Zh hE Za ld rfl rfl rfl fun a hE => Zf ?_))
  refine Zv hE rfl ?_ ?_
  ·intro hb16
   have hs13 := ZA hs13 hb16
   refine wp_skip (Zz (wp_seq (wp_block (wp_region_lit (Zd hE Za ld rfl fun a hE => Zd hE Za ld rfl ?_))))); intro a hE
   obtain ⟨x18, e19, hs13⟩ := bind_some hs13
   have hi17 := Zj e19
   refine Zn hE Za ld rfl rfl Tryz.underlying29 ty5 hi17.1 fun a hE => Zq (v := (vB x18)) hE Za ld rfl ty5 rfl (At.vec (hM.rawAt (pre := [])) hi17.2) fun a hE => Z5 (xs := [.tmp 13]) (l := ([x18] : List UInt8)) (vs := [vB x18]) hE hM Za ld rfl rfl Tryz.underlying57 ty5 rfl (by decide) rfl ?_; intro u20 w a hM hE
   obtain ⟨l22, e23, hs13⟩ := bind_some hs13
   obtain ⟨e26, rfl⟩ := Yn e23
   have hM := hM.pull (pre := [_, _])
   refine Yb hE hM Za ld rfl rfl (hM.sl (pre := [_]) noB) Tryz.underlying57 ty5 rfl (by decide) e26 fun u24 w a hM hE => Ze hE Za ld rfl fun a hE => Zi (Ye (Zz (wp_region_lit (Zd hE Za ld rfl fun a hE => Zh hE Za ld rfl rfl rfl fun a hE => Ze hE Za ld rfl fun a hE => Zi (Zl ?_)))))
   have hM := hM.pull (pre := [_, _])
   have hM := M.fst (l := [_, _]) hM
   exact ⟨_, (Option.some.inj hs13).symm, u24, hE.sub ⟨rfl, rfl, rfl, trivial⟩, hM⟩
  ·intro hb16
   have hs13 := ZB hs13 hb16
   refine wp_exit (Zp (Zp (Yc ?_)))
   have ht27 := hx14 _ (Option.some.inj hs13).symm
   subst ht27
   refine Zl ?_
   have hM := hM.pull (pre := [_])
   have hM := M.fst (l := [_]) hM
   exact ⟨u11, hE.sub ⟨rfl, trivial⟩, hM⟩
 ·skip
  rintro a w ⟨u8, hE, hM⟩
  refine Zz (Zc (Zd hE Za ld rfl fun a hE => Ze hE Za ld rfl fun a hE => Zf ?_))
  have hr := Option.some.inj hF7
  subst hr
  exact wp_ret (Zy hE rfl (Zu hE rfl) ⟨_, rfl, u8, rfl, hM.outF (Xu Xo), hM.kept⟩)
noncomputable def Vl (p0 : GCipher) (p1 : (Vector UInt8 16)) (p2 : (List UInt8)) : Option ((Vector UInt8 32)) :=
 (Wn p1 90).bind fun r8 => (app 1 r8 p2).bind fun l11 => (U1 p0 (r8 ++ p2)).bind fun r16 => ((Wn p1 165).bind fun r26 => (WZ r16).bind fun r29 => (app 1 r26 r29).bind fun l32 => (U1 p0 (r26 ++ r29)).bind fun r37 => some r37 : Option ((Vector UInt8 32))).bind fun j22 => some j22
theorem KU (w0 : World) (p0 : GCipher) (p1 : (Vector UInt8 16)) (p2 : (List UInt8)) (v2_1 : Value) (hv2_1 : Ro w0 p2 [v2_1]) (r : (Vector UInt8 32)) (hF : Vl p0 p1 p2 = some r) :
  Calls Tryz.prog 132 [(Value.agg (enc p0).toArray), (Value.agg (enc p1).toArray), v2_1].toArray w0 (fun en w' => ∃ v, en = .returned v ∧ (v = (Value.agg (enc r).toArray) ∧ Kept (Old w0) w0 w')) := by
 refine ZD (n := 21) Tryz.func132 rfl rfl (Nat.le_of_ble_eq_true rfl) rfl ?_
 intro a hE
 have hM := M.start w0
 unfold Vl at hF
 refine Zc (ZX (cs := cat [[vI p0.Field], enc p0.Box, enc p0.Mix, enc p0.Places, [vI p0.Rounds]]) hE hM Za ld rfl rfl fun b1 w a hM hE => ZX (cs := enc p1) hE hM Za ld rfl rfl fun b3 w a hM hE => ZI hE hM Za ld Yu fun b5 w a hM hE => Zf (wp_seq ?_))
 obtain ⟨r8, e9, hF⟩ := bind_some hF
 obtain ⟨l11, e12, hF⟩ := bind_some hF
 obtain ⟨r16, e17, hF⟩ := bind_some hF
 refine VX (n := 21) (hd := [_, _, _, _, _, _, _]) (tl := [_]) YN rfl rfl [8, 9, 10, 11, 12, 13, 7] (by decide) (fun D u w => M (Old w0) w0 w ([raw b5 (enc (Vector.replicate 32 (0 : UInt8))), raw b3 (enc p1), raw b1 (cat [[vI p0.Field], enc p0.Box, enc p0.Mix, enc p0.Places, [vI p0.Rounds]])] ++ qL ([mkP 2 4 (fun v => osl NoB (r8 : List UInt8) v) (fun v => osl NoB ((r8 ++ p2) : List UInt8) v), mkO 6 (fun v => VR v (enc (Vector.replicate 32 (0 : UInt8))))] : Mk) D u) ∧ GOk ([([], fun us v => v = (Value.agg (enc p0).toArray)), ([], fun us v => v = (Value.agg (enc p1).toArray)), ([], fun us v => True), ([], fun us v => v = v2_1), ([], fun us v => True), ([], fun us v => v = (Value.agg (enc r16).toArray)), ([], fun us v => True)] : Gs) D u) hE (fun u => ⟨M.qE (M.qE (M.q0 hM.drew u) emO) emP, Jj⟩) (ZL (Zb ?_ (Zb ?_ (Zb ?_ (Zb ?_ (Zb ?_ (Zb ?_ (Zb ?_ ZF)))))))) ?_
 ·intro a w ux7 D hE hI hD hdc hp
  have hM0 := hI.1
  have hM := hI.1
  exact Zm (cs := enc p0) hE Za ld rfl Va rfl (hM.rawAt (pre := [_, _])) (ZC (cl1 (n := 1) (m := 289) rfl (cl1 (n := 256) (m := 33) (Flat.len _) (cl1 (n := 16) (m := 17) (Flat.len _) (cl1 (n := 16) (m := 1) (Flat.len _) (cl1 (n := 1) (m := 0) rfl cl0)))))) fun a hE => ⟨_, _, rfl, hE, M.qKeep hM0 rfl, hI.2.put hD rfl ZP rfl⟩
 ·intro a w ux7 D hE hI hD hdc hp
  have hM0 := hI.1
  have hM := hI.1
  exact Zm (cs := enc p1) hE Za ld rfl ZH rfl (hM.rawAt (pre := [_])) (Flat.len _) fun a hE => ⟨_, _, rfl, hE, M.qKeep hM0 rfl, hI.2.put hD rfl ZP rfl⟩
 ·intro a w ux7 D hE hI hD hdc hp
  have d1 : D 1 = true := hp 0 _ rfl rfl
  have g1 := hI.2 1 d1 _ rfl
  have f1 : ux7 1 = (Value.agg (enc p1).toArray) := g1.2
  have hM0 := hI.1
  have hM := hI.1
  refine Zs hE Za ld (ZY (ZS (lk rfl f1) (ZS rfl YT))) cb181 (QF _ p1 90 r8 e9) ?_
  rintro _ w a ⟨_, rfl, hFr, hK⟩ hE
  have hM := hM0.add hK hFr
  have hs : D 4 = false := Bool.eq_false_iff.2 fun hx => Bool.noConfusion (hD.symm.trans (hdc 4 _ _ rfl (List.mem_of_getElem? (i := 0) rfl) rfl hx))
  exact ⟨_, _, rfl, hE, M.qFillP (mk1 := []) (mk2 := [_]) (f := (fun v => osl NoB (r8 : List UInt8) v)) (g := (fun v => osl NoB ((r8 ++ p2) : List UInt8) v)) hM rfl hD hs (by decide), hI.2.put hD rfl ZP trivial⟩
 ·intro a w ux7 D hE hI hD hdc hp
  have hM0 := hI.1
  exact Zd hE Za ld rfl fun a hE => ⟨_, _, rfl, hE, M.qKeep hM0 rfl, hI.2.put hD rfl ZP rfl⟩
 ·intro a w ux7 D hE hI hD hdc hp
  have d2 : D 2 = true := hp 0 _ rfl rfl
  have g2 := hI.2 2 d2 _ rfl
  have d3 : D 3 = true := hp 1 _ rfl rfl
  have g3 := hI.2 3 d3 _ rfl
  have f3 : ux7 3 = v2_1 := g3.2
  have hM0 := hI.1
  have hM := hI.1
  have hM := hM.prmA (pre := [_, _, _]) hD d2
  obtain ⟨e15, rfl⟩ := Yn e12
  have hM := hM.pull (pre := [_, _, _])
  exact Yb hE hM Za ld rfl (lk rfl f3) (hM.rd hv2_1) Tryz.underlying57 ty5 rfl (by decide) e15 fun u13 w a hM hE => ⟨_, _, rfl, hE, M.qApp (mk1 := []) (mk2 := [_]) (j := 2) (f := (fun v => osl NoB (r8 : List UInt8) v)) (g := (fun v => osl NoB ((r8 ++ p2) : List UInt8) v)) hM rfl, hI.2.put hD rfl ZP trivial⟩
 ·intro a w ux7 D hE hI hD hdc hp
  have d0 : D 0 = true := hp 0 _ rfl rfl
  have g0 := hI.2 0 d0 _ rfl
  have f0 : ux7 0 = (Value.agg (enc p0).toArray) := g0.2
  have d4 : D 4 = true := hp 1 _ rfl rfl
  have g4 := hI.2 4 d4 _ rfl
  have hM0 := hI.1
  have hM := hI.1
  have hM := hM.prmB (pre := [_, _, _]) d4
  refine Zs hE Za ld (ZY (ZS (lk rfl f0) (ZS rfl YT))) cb153 (Jv _ p0 (r8 ++ p2) (ux7 4) (hM.sl (pre := [_, _, _]) noB) r16 e17) ?_
  rintro v w a ⟨rfl, hK⟩ hE
  exact ⟨_, _, rfl, hE, M.qKeep (hM0.keep hK) rfl, hI.2.put hD rfl ZP rfl⟩
 ·intro a w ux7 D hE hI hD hdc hp
  have hM0 := hI.1
  have hM := hI.1
  refine ZI hE hM Za ld Yu ?_; intro b18 w a hM hE
  have hM := hM.pack1 (it := VR _ (enc (Vector.replicate 32 (0 : UInt8)))) (fun w w' fp ⟨b', e, k⟩ hb => ⟨b', e, Xp w w' fp k hb⟩) (fun fp k => ⟨_, rfl, k⟩)
  exact ⟨_, _, rfl, hE, M.qFill (mk1 := [_]) (mk2 := []) (f := fun v => VR v (enc (Vector.replicate 32 (0 : UInt8)))) hM rfl hD, hI.2.put hD rfl ZP trivial⟩
 ·intro a w ux7 D hE hI hall
  have hM : M (Old w0) w0 w [raw b5 (enc (Vector.replicate 32 (0 : UInt8))), raw b3 (enc p1), raw b1 (cat [[vI p0.Field], enc p0.Box, enc p0.Mix, enc p0.Places, [vI p0.Rounds]]), prm (D 2) (D 4) (osl NoB (r8 : List UInt8) (ux7 2)) (osl NoB ((r8 ++ p2) : List UInt8) (ux7 4)), opt (D 6) (VR (ux7 6) (enc (Vector.replicate 32 (0 : UInt8))))] := hI.1
  have d0 : D 0 = true := hall 0 (by decide)
  have d1 : D 1 = true := hall 1 (by decide)
  have d2 : D 2 = true := hall 2 (by decide)
  have d3 : D 3 = true := hall 3 (by decide)
  have d4 : D 4 = true := hall 4 (by decide)
  have d5 : D 5 = true := hall 5 (by decide)
  have d6 : D 6 = true := hall 6 (by decide)
  have f0 : ux7 0 = (Value.agg (enc p0).toArray) := (hI.2 0 d0 _ rfl).2
  have f1 : ux7 1 = (Value.agg (enc p1).toArray) := (hI.2 1 d1 _ rfl).2
  have f3 : ux7 3 = v2_1 := (hI.2 3 d3 _ rfl).2
  have f5 : ux7 5 = (Value.agg (enc r16).toArray) := (hI.2 5 d5 _ rfl).2
  have hM := hM.prmB (pre := [_, _, _]) d4
  have hM := (hM.sure (pre := [_, _, _, _]) d6).pull
  obtain ⟨_, ⟨b20, f21, _⟩, _⟩ := hM.head
  have hM := hM.pack1 Xp (it := raw b20 (enc (Vector.replicate 32 (0 : UInt8)))) (fun fp ⟨b2, e2, k2⟩ => by rw [f21] at e2; simp [ptr] at e2; subst e2; exact k2)
  have hE := hE.sub (e' := [(12, (ux7 4)), (13, (Value.agg (enc r16).toArray)), (7, (ptr b20 0)), (0, (Value.agg (enc p0).toArray)), (1, (Value.agg (enc p1).toArray)), (2, v2_1), (3, (ptr b1 0)), (4, (ptr b3 0)), (6, (ptr b5 0))]) ⟨rfl, lk rfl f5, lk rfl f21, rfl, rfl, rfl, rfl, rfl, rfl, trivial⟩
  refine Zt (seg := enc r16) (cs' := enc r16) hE hM Za rfl rfl rfl Yu (Flat.len _) (zle flq) (Flat.cell _) (Zo flq) fun w a hM hE => Zi (Zz ?_)
  obtain ⟨j22, hl23, hF24⟩ := bind_some hF
  refine ZU (fun a w => Env 21 a [(6, (ptr b5 0))] ∧ M (Old w0) w0 w [raw b5 (enc j22)]) ?_ ?_
  ·skip
   obtain ⟨r26, e27, hl23⟩ := bind_some hl23
   obtain ⟨r29, e30, hl23⟩ := bind_some hl23
   obtain ⟨l32, e33, hl23⟩ := bind_some hl23
   refine VX (n := 21) (hd := [_, _, _, _, _, _]) (tl := [_, _]) YN rfl rfl [14, 15, 16, 17, 18, 19] (by decide) (fun D u w => M (Old w0) w0 w ([raw b20 (enc r16), raw b5 (enc (Vector.replicate 32 (0 : UInt8))), raw b3 (enc p1), raw b1 (cat [[vI p0.Field], enc p0.Box, enc p0.Mix, enc p0.Places, [vI p0.Rounds]]), osl NoB ((r8 ++ p2) : List UInt8) (ux7 4)] ++ qL ([mkP 2 5 (fun v => osl NoB (r26 : List UInt8) v) (fun v => osl NoB ((r26 ++ r29) : List UInt8) v), mkO 4 (fun v => osl NoB (r29 : List UInt8) v)] : Mk) D u) ∧ GOk ([([], fun us v => v = (Value.agg (enc p0).toArray)), ([], fun us v => v = (Value.agg (enc p1).toArray)), ([], fun us v => True), ([], fun us v => v = (Value.agg (enc r16).toArray)), ([], fun us v => True), ([], fun us v => True)] : Gs) D u) hE (fun u => ⟨M.qE (M.qE (M.q0 hM.drew u) emO) emP, Jj⟩) (ZL (Zb ?_ (Zb ?_ (Zb ?_ (Zb ?_ (Zb ?_ (Zb ?_ ZF))))))) ?_
   ·intro a w ux25 D hE hI hD hdc hp
    have hM0 := hI.1
    have hM := hI.1
    exact Zm (cs := enc p0) hE Za ld rfl Va rfl (hM.rawAt (pre := [_, _, _])) (ZC (cl1 (n := 1) (m := 289) rfl (cl1 (n := 256) (m := 33) (Flat.len _) (cl1 (n := 16) (m := 17) (Flat.len _) (cl1 (n := 16) (m := 1) (Flat.len _) (cl1 (n := 1) (m := 0) rfl cl0)))))) fun a hE => ⟨_, _, rfl, hE, M.qKeep hM0 rfl, hI.2.put hD rfl ZP rfl⟩
   ·intro a w ux25 D hE hI hD hdc hp
    have hM0 := hI.1
    have hM := hI.1
    exact Zm (cs := enc p1) hE Za ld rfl ZH rfl (hM.rawAt (pre := [_, _])) (Flat.len _) fun a hE => ⟨_, _, rfl, hE, M.qKeep hM0 rfl, hI.2.put hD rfl ZP rfl⟩
   ·intro a w ux25 D hE hI hD hdc hp
    have d1 : D 1 = true := hp 0 _ rfl rfl
    have g1 := hI.2 1 d1 _ rfl
    have f1 : ux25 1 = (Value.agg (enc p1).toArray) := g1.2
    have hM0 := hI.1
    have hM := hI.1
    refine Zs hE Za ld (ZY (ZS (lk rfl f1) (ZS rfl YT))) cb181 (QF _ p1 165 r26 e27) ?_
    rintro _ w a ⟨_, rfl, hFr, hK⟩ hE
    have hM := hM0.add hK hFr
    have hs : D 5 = false := Bool.eq_false_iff.2 fun hx => Bool.noConfusion (hD.symm.trans (hdc 5 _ _ rfl (List.mem_of_getElem? (i := 0) rfl) rfl hx))
    exact ⟨_, _, rfl, hE, M.qFillP (mk1 := []) (mk2 := [_]) (f := (fun v => osl NoB (r26 : List UInt8) v)) (g := (fun v => osl NoB ((r26 ++ r29) : List UInt8) v)) hM rfl hD hs (by decide), hI.2.put hD rfl ZP trivial⟩
   ·intro a w ux25 D hE hI hD hdc hp
    have hM0 := hI.1
    have hM := hI.1
    exact Zm (cs := enc r16) hE Za ld rfl Yu rfl (hM.rawAt (pre := [])) (Flat.len _) fun a hE => ⟨_, _, rfl, hE, M.qKeep hM0 rfl, hI.2.put hD rfl ZP rfl⟩
   ·intro a w ux25 D hE hI hD hdc hp
    have d3 : D 3 = true := hp 0 _ rfl rfl
    have g3 := hI.2 3 d3 _ rfl
    have f3 : ux25 3 = (Value.agg (enc r16).toArray) := g3.2
    have hM0 := hI.1
    have hM := hI.1
    refine Zs hE Za ld (ZY (ZS (lk rfl f3) YT)) cb182 (Q3 _ r16 r29 e30) ?_
    rintro _ w a ⟨_, rfl, hFr, hK⟩ hE
    have hM := hM0.add hK hFr
    exact ⟨_, _, rfl, hE, M.qFill (mk1 := [_]) (mk2 := []) (f := (fun v => osl NoB (r29 : List UInt8) v)) hM rfl hD, hI.2.put hD rfl ZP trivial⟩
   ·intro a w ux25 D hE hI hD hdc hp
    have d2 : D 2 = true := hp 0 _ rfl rfl
    have g2 := hI.2 2 d2 _ rfl
    have d4 : D 4 = true := hp 1 _ rfl rfl
    have g4 := hI.2 4 d4 _ rfl
    have hM0 := hI.1
    have hM := hI.1
    have hM := hM.prmA (pre := [_, _, _, _, _]) hD d2
    have hM := hM.sure (pre := [_, _, _, _, _, _]) d4
    obtain ⟨e36, rfl⟩ := Yn e33
    have hM := hM.pull (pre := [_, _, _, _, _])
    refine Yb hE hM Za ld rfl rfl (hM.sl (pre := [_, _, _, _, _, _]) noB) Tryz.underlying57 ty5 rfl (by decide) e36 ?_; intro u34 w a hM hE
    have hM := hM.unsure (pre := [_, _, _, _, _, _]) d4
    exact ⟨_, _, rfl, hE, M.qApp (mk1 := []) (mk2 := [_]) (j := 2) (f := (fun v => osl NoB (r26 : List UInt8) v)) (g := (fun v => osl NoB ((r26 ++ r29) : List UInt8) v)) hM rfl, hI.2.put hD rfl ZP trivial⟩
   ·intro a w ux25 D hE hI hall
    have hM := hI.1
    have d0 : D 0 = true := hall 0 (by decide)
    have d1 : D 1 = true := hall 1 (by decide)
    have d2 : D 2 = true := hall 2 (by decide)
    have d3 : D 3 = true := hall 3 (by decide)
    have d4 : D 4 = true := hall 4 (by decide)
    have d5 : D 5 = true := hall 5 (by decide)
    have f0 : ux25 0 = (Value.agg (enc p0).toArray) := (hI.2 0 d0 _ rfl).2
    have f1 : ux25 1 = (Value.agg (enc p1).toArray) := (hI.2 1 d1 _ rfl).2
    have f3 : ux25 3 = (Value.agg (enc r16).toArray) := (hI.2 3 d3 _ rfl).2
    have hM := hM.prmB (pre := [_, _, _, _, _]) d5
    have hM := hM.sure (pre := [_, _, _, _, _, _]) d4
    have hE := hE.sub (e' := [(14, (Value.agg (enc p0).toArray)), (18, (ux25 4)), (19, (ux25 5)), (0, (Value.agg (enc p0).toArray)), (1, (Value.agg (enc p1).toArray)), (2, v2_1), (3, (ptr b1 0)), (4, (ptr b3 0)), (6, (ptr b5 0)), (7, (ptr b20 0)), (12, (ux7 4)), (13, (Value.agg (enc r16).toArray))]) ⟨lk rfl f0, rfl, rfl, rfl, rfl, rfl, rfl, rfl, rfl, rfl, rfl, rfl, trivial⟩
    obtain ⟨r37, e38, hl23⟩ := bind_some hl23
    refine Zs hE Za ld rfl cb153 (Jv _ p0 (r26 ++ r29) (ux25 5) (hM.sl (pre := [_, _, _, _, _]) noB) r37 e38) ?_
    rintro v w a ⟨rfl, hK⟩ hE
    have hM := hM.keep hK
    have hM := hM.pull (pre := [_])
    refine Zt (seg := enc r37) (cs' := enc r37) hE hM Za rfl rfl rfl Yu (Flat.len _) (zle flq) (Flat.cell _) (Zo flq) fun w a hM hE => Zi ?_
    have ht39 := Option.some.inj hl23
    subst ht39
    refine Zl ?_
    have hM := M.fst (l := [_]) hM
    exact ⟨hE.sub ⟨rfl, trivial⟩, hM⟩
  ·skip
   rintro a w ⟨hE, hM⟩
   have hr := Option.some.inj hF24
   subst hr
   have hq40 : YB Tryz.prog _ _ (.cell 6 29) _ := ZZ hE rfl Yu rfl (hM.rawAt (pre := [])) (Flat.len _) rfl
   have hM := M.fst (l := []) hM
   exact wp_ret (Zy hE rfl hq40 ⟨_, rfl, rfl, hM.kept⟩)
noncomputable def Ti (p0 : GVault) (p1 : GRecord) : Option ((Vector UInt8 32)) :=
 ((UT p1.Number).bind fun r13 => (app 1 r13 ([Zr p1.Version] : List UInt8)).bind fun l18 => some (r13 ++ ([Zr p1.Version] : List UInt8)) : Option ((List UInt8))).bind fun j7 => (XM ([p1.Nonce] : List (Vector UInt8 16))).bind fun r26 => (app 1 j7 r26).bind fun l29 => (app 1 (j7 ++ r26) ([Zr (p1.Label.length : Int)] : List UInt8)).bind fun l36 => (app 1 ((j7 ++ r26) ++ ([Zr (p1.Label.length : Int)] : List UInt8)) p1.Label).bind fun l41 => (app 1 (((j7 ++ r26) ++ ([Zr (p1.Label.length : Int)] : List UInt8)) ++ p1.Label) p1.Body).bind fun l46 => ((Ww).bind fun r55 => (idx p0.Keys p1.Version).bind fun x57 => (Vb x57 129).bind fun r60 => (Vl r55 r60 ((((j7 ++ r26) ++ ([Zr (p1.Label.length : Int)] : List UInt8)) ++ p1.Label) ++ p1.Body)).bind fun r62 => some r62 : Option ((Vector UInt8 32))).bind fun j51 => some j51
theorem Am (w0 : World) (p0 : GVault) (v0_1 : Value) (hv0_1 : Ro w0 p0.Keys [v0_1]) (v0_2 : Value) (hv0_2 : Ro w0 p0.Records [v0_2]) (v0_3 : Value) (hv0_3 : Ro w0 p0.Events [v0_3]) (p1 : GRecord) (v1_1 : Value) (hv1_1 : Ro w0 p1.Label [v1_1]) (v1_2 : Value) (hv1_2 : Ro w0 p1.Body [v1_2]) (r : (Vector UInt8 32)) (hF : Ti p0 p1 = some r) :
  Calls Tryz.prog 55 [(Value.agg (cat [[v0_1], [vI p0.Next], [v0_2], [v0_3], enc p0.Head]).toArray), (Value.agg (cat [[vI p1.Number], [vI p1.Version], enc p1.Nonce, [v1_1], [v1_2], enc p1.Tag]).toArray)].toArray w0 (fun en w' => ∃ v, en = .returned v ∧ (v = (Value.agg (enc r).toArray) ∧ Kept (Old w0) w0 w')) := by
 refine ZD (n := 45) Tryz.func55 rfl rfl (Nat.le_of_ble_eq_true rfl) rfl ?_
 intro a hE
 have hM := M.start w0
 unfold Ti at hF
 refine Zc (ZX (cs := cat [[v0_1], [vI p0.Next], [v0_2], [v0_3], enc p0.Head]) hE hM Za ld rfl rfl fun b1 w a hM hE => ZX (cs := cat [[vI p1.Number], [vI p1.Version], enc p1.Nonce, [v1_1], [v1_2], enc p1.Tag]) hE hM Za ld rfl rfl fun b3 w a hM hE => ZI hE hM Za ld Yu fun b5 w a hM hE => Zf ?_)
 obtain ⟨j7, hl8, hF9⟩ := bind_some hF
 refine ZU (fun a w => ∃ (u10 : Value), Env 45 a [(2, (ptr b1 0)), (3, (ptr b3 0)), (4, (ptr b5 0)), (5, u10)] ∧ M (Old w0) w0 w [raw b5 (enc (Vector.replicate 32 (0 : UInt8))), raw b3 (cat [[vI p1.Number], [vI p1.Version], enc p1.Nonce, [v1_1], [v1_2], enc p1.Tag]), raw b1 (cat [[v0_1], [vI p0.Next], [v0_2], [v0_3], enc p0.Head]), osl NoB (j7 : List UInt8) u10]) ?_ ?_
 ·skip
  obtain ⟨r13, e14, hl8⟩ := bind_some hl8
  refine KG (n := 45) (hd := [_, _, _, _, _, _, _]) (tl := [_, _]) (its := [raw b5 (enc (Vector.replicate 32 (0 : UInt8))), raw b3 (cat [[vI p1.Number], [vI p1.Version], enc p1.Nonce, [v1_1], [v1_2], enc p1.Tag]), raw b1 (cat [[v0_1], [vI p0.Next], [v0_2], [v0_3], enc p0.Head])]) YN rfl rfl [6, 7, 8, 9, 10, 11, 12] (by decide) [(2, fun v => osl NoB (r13 : List UInt8) v), (6, fun v => osl NoB (([Zr p1.Version] : List UInt8) : List UInt8) v)] rfl (fun j => ([fun v => v = (ptr b3 (0 + 0)), fun v => v = (vI p1.Number), fun v => True, fun v => v = (ptr b3 (0 + 1)), fun v => v = (vI p1.Version), fun v => v = (vB (Zr p1.Version)), fun v => True] : List (Value → Prop)).getD j (fun _ => True)) hE hM.drew (ZL (Zb ?_ (Zb ?_ (Zb ?_ (Zb ?_ (Zb ?_ (Zb ?_ (Zb ?_ ZF)))))))) ?_
  ·intro a w ux12 D hE hM hD hp
   have hM0 := hM
   exact Zg hE Za ld rfl (Td) fun a hE => ⟨_, _, rfl, hE, rfl, hM0.optKeep rfl⟩
  ·intro a w ux12 D hE hM hD hp
   have f0 : ux12 0 = (ptr b3 (0 + 0)) := (hp 0 _ rfl rfl).2
   have hM0 := hM
   have hM : M (Old w0) w0 w [raw b5 (enc (Vector.replicate 32 (0 : UInt8))), raw b3 (cat [[vI p1.Number], [vI p1.Version], enc p1.Nonce, [v1_1], [v1_2], enc p1.Tag]), raw b1 (cat [[v0_1], [vI p0.Next], [v0_2], [v0_3], enc p0.Head]), opt (D 2) (osl NoB (r13 : List UInt8) (ux12 2)), opt (D 6) (osl NoB (([Zr p1.Version] : List UInt8) : List UInt8) (ux12 6))] := hM
   exact Zq (v := (vI p1.Number)) hE Za ld (lk rfl f0) ty2 rfl (At.cat (pre := []) (hM.rawAt (pre := [_])) cl0) fun a hE => ⟨_, _, rfl, hE, rfl, hM0.optKeep rfl⟩
  ·intro a w ux12 D hE hM hD hp
   have f1 : ux12 1 = (vI p1.Number) := (hp 0 _ rfl rfl).2
   have hM0 := hM
   have hM : M (Old w0) w0 w [raw b5 (enc (Vector.replicate 32 (0 : UInt8))), raw b3 (cat [[vI p1.Number], [vI p1.Version], enc p1.Nonce, [v1_1], [v1_2], enc p1.Tag]), raw b1 (cat [[v0_1], [vI p0.Next], [v0_2], [v0_3], enc p0.Head]), opt (D 2) (osl NoB (r13 : List UInt8) (ux12 2)), opt (D 6) (osl NoB (([Zr p1.Version] : List UInt8) : List UInt8) (ux12 6))] := hM
   refine Zs hE Za ld (ZY (ZS (lk rfl f1) YT)) cb130 (Bs _ p1.Number r13 e14) ?_
   rintro _ w a ⟨_, rfl, hFr, hK⟩ hE
   have hM := hM0.add hK hFr
   exact ⟨_, _, rfl, hE, trivial, M.optFill (mk1 := []) (mk2 := [_]) (f := (fun v => osl NoB (r13 : List UInt8) v)) hM rfl hD⟩
  ·intro a w ux12 D hE hM hD hp
   have hM0 := hM
   exact Zg hE Za ld rfl (TO) fun a hE => ⟨_, _, rfl, hE, rfl, hM0.optKeep rfl⟩
  ·intro a w ux12 D hE hM hD hp
   have f3 : ux12 3 = (ptr b3 (0 + 1)) := (hp 0 _ rfl rfl).2
   have hM0 := hM
   have hM : M (Old w0) w0 w [raw b5 (enc (Vector.replicate 32 (0 : UInt8))), raw b3 (cat [[vI p1.Number], [vI p1.Version], enc p1.Nonce, [v1_1], [v1_2], enc p1.Tag]), raw b1 (cat [[v0_1], [vI p0.Next], [v0_2], [v0_3], enc p0.Head]), opt (D 2) (osl NoB (r13 : List UInt8) (ux12 2)), opt (D 6) (osl NoB (([Zr p1.Version] : List UInt8) : List UInt8) (ux12 6))] := hM
   exact Zq (v := (vI p1.Version)) hE Za ld (lk rfl f3) ty2 rfl (At.cat (pre := [[vI p1.Number]]) (hM.rawAt (pre := [_])) (cl1 (n := 1) (m := 0) rfl cl0)) fun a hE => ⟨_, _, rfl, hE, rfl, hM0.optKeep rfl⟩
  ·intro a w ux12 D hE hM hD hp
   have f4 : ux12 4 = (vI p1.Version) := (hp 0 _ rfl rfl).2
   have hM0 := hM
   refine Yj hE Za ld (lk rfl f4) Tryz.underlying2 Tryz.underlying5 ?_; intro a hE
   rw [ZW] at hE
   exact ⟨_, _, rfl, hE, rfl, hM0.optKeep rfl⟩
  ·intro a w ux12 D hE hM hD hp
   have f5 : ux12 5 = (vB (Zr p1.Version)) := (hp 0 _ rfl rfl).2
   have hM0 := hM
   have hM : M (Old w0) w0 w [raw b5 (enc (Vector.replicate 32 (0 : UInt8))), raw b3 (cat [[vI p1.Number], [vI p1.Version], enc p1.Nonce, [v1_1], [v1_2], enc p1.Tag]), raw b1 (cat [[v0_1], [vI p0.Next], [v0_2], [v0_3], enc p0.Head]), opt (D 2) (osl NoB (r13 : List UInt8) (ux12 2)), opt (D 6) (osl NoB (([Zr p1.Version] : List UInt8) : List UInt8) (ux12 6))] := hM
   exact Z5 (xs := [.tmp 11]) (l := ([Zr p1.Version] : List UInt8)) (vs := [(vB (Zr p1.Version))]) hE hM Za ld (ZY (ZS (lk rfl f5) YT)) rfl Tryz.underlying57 ty5 rfl (by decide) rfl fun u16 w a hM hE => ⟨_, _, rfl, hE, trivial, M.optFill (mk1 := [_]) (mk2 := []) (f := (fun v => osl NoB (([Zr p1.Version] : List UInt8) : List UInt8) v)) hM rfl hD⟩
  ·intro a w ux12 hE hM hg
   have hM : M (Old w0) w0 w [raw b5 (enc (Vector.replicate 32 (0 : UInt8))), raw b3 (cat [[vI p1.Number], [vI p1.Version], enc p1.Nonce, [v1_1], [v1_2], enc p1.Tag]), raw b1 (cat [[v0_1], [vI p0.Next], [v0_2], [v0_3], enc p0.Head]), osl NoB (r13 : List UInt8) (ux12 2), osl NoB (([Zr p1.Version] : List UInt8) : List UInt8) (ux12 6)] := hM
   have hE := hE.sub (e' := [(8, (ux12 2)), (12, (ux12 6)), (0, (Value.agg (cat [[v0_1], [vI p0.Next], [v0_2], [v0_3], enc p0.Head]).toArray)), (1, (Value.agg (cat [[vI p1.Number], [vI p1.Version], enc p1.Nonce, [v1_1], [v1_2], enc p1.Tag]).toArray)), (2, (ptr b1 0)), (3, (ptr b3 0)), (4, (ptr b5 0))]) ⟨rfl, rfl, rfl, rfl, rfl, rfl, rfl, trivial⟩
   obtain ⟨l18, e19, hl8⟩ := bind_some hl8
   obtain ⟨e22, rfl⟩ := Yn e19
   have hM := hM.pull (pre := [_, _, _])
   refine Yb hE hM Za ld rfl rfl (hM.sl (pre := [_, _, _, _]) noB) Tryz.underlying57 ty5 rfl (by decide) e22 fun u20 w a hM hE => Ze hE Za ld rfl fun a hE => Zi ?_
   have ht23 := Option.some.inj hl8
   subst ht23
   refine Zl ?_
   have hM := hM.pull (pre := [_, _, _])
   have hM := hM.pull (pre := [_, _, _])
   have hM := hM.pull (pre := [_, _, _])
   have hM := M.fst (l := [_, _, _, _]) hM
   exact ⟨u20, hE.sub ⟨rfl, rfl, rfl, rfl, trivial⟩, hM⟩
 ·skip
  rintro a w ⟨u10, hE, hM⟩
  refine Zc (Zd hE Za ld rfl fun a hE => Zg hE Za ld rfl (KA) fun a hE => Zm (cs := enc p1.Nonce) hE Za ld rfl ZH rfl (At.cat (pre := [[vI p1.Number], [vI p1.Version]]) (hM.rawAt (pre := [_])) (cl1 (n := 1) (m := 1) rfl (cl1 (n := 1) (m := 0) rfl cl0))) (Flat.len _) fun a hE => Z5 (xs := [.tmp 16]) (l := ([p1.Nonce] : List (Vector UInt8 16))) (vs := [(Value.agg (enc p1.Nonce).toArray)]) hE hM Za ld rfl rfl Tryz.underlying32 ZH rfl (by decide) rfl ?_); intro u24 w a hM hE
  obtain ⟨r26, e27, hF9⟩ := bind_some hF9
  refine Zs hE Za ld rfl cb131 (Kl _ ([p1.Nonce] : List (Vector UInt8 16)) u24 (hM.sl (pre := []) noB) r26 e27) ?_
  rintro u28 w a ⟨_, rfl, hFr, hK⟩ hE
  have hM := hM.add hK hFr
  obtain ⟨l29, e30, hF9⟩ := bind_some hF9
  obtain ⟨e33, rfl⟩ := Yn e30
  have hM := hM.pull (pre := [_, _, _, _, _])
  refine Yb hE hM Za ld rfl rfl (hM.sl (pre := [_]) noB) Tryz.underlying57 ty5 rfl (by decide) e33 fun u31 w a hM hE => Ze hE Za ld rfl fun a hE => Zf (Zc (Zd hE Za ld rfl fun a hE => Zg hE Za ld rfl (Qn) fun a hE => Zq (v := v1_1) hE Za ld rfl Ua rfl (At.cat (pre := [[vI p1.Number], [vI p1.Version], enc p1.Nonce]) (hM.rawAt (pre := [_, _, _, _])) (cl1 (n := 1) (m := 17) rfl (cl1 (n := 1) (m := 16) rfl (cl1 (n := 16) (m := 0) (Flat.len _) cl0)))) fun a hE => Z6 hE Za ld rfl Tryz.underlying57 (hM.rd hv1_1) fun a hE => Yj hE Za ld rfl Tryz.underlying3 Tryz.underlying5 ?_)); intro a hE
  rw [ZW] at hE
  refine Z5 (xs := [.tmp 24]) (l := ([Zr (p1.Label.length : Int)] : List UInt8)) (vs := [(vB (Zr (p1.Label.length : Int)))]) hE hM Za ld rfl rfl Tryz.underlying57 ty5 rfl (by decide) rfl ?_; intro u34 w a hM hE
  obtain ⟨l36, e37, hF9⟩ := bind_some hF9
  obtain ⟨e40, rfl⟩ := Yn e37
  have hM := hM.pull (pre := [_])
  refine Yb hE hM Za ld rfl rfl (hM.sl (pre := [_]) noB) Tryz.underlying57 ty5 rfl (by decide) e40 fun u38 w a hM hE => Ze hE Za ld rfl fun a hE => Zf (Zc (Zd hE Za ld rfl fun a hE => Zg hE Za ld rfl (Qn) fun a hE => Zq (v := v1_1) hE Za ld rfl Ua rfl (At.cat (pre := [[vI p1.Number], [vI p1.Version], enc p1.Nonce]) (hM.rawAt (pre := [_, _, _, _, _])) (cl1 (n := 1) (m := 17) rfl (cl1 (n := 1) (m := 16) rfl (cl1 (n := 16) (m := 0) (Flat.len _) cl0)))) ?_)); intro a hE
  obtain ⟨l41, e42, hF9⟩ := bind_some hF9
  obtain ⟨e45, rfl⟩ := Yn e42
  refine Yb hE hM Za ld rfl rfl (hM.rd hv1_1) Tryz.underlying57 ty5 rfl (by decide) e45 fun u43 w a hM hE => Ze hE Za ld rfl fun a hE => Zf (Zc (Zd hE Za ld rfl fun a hE => Zg hE Za ld rfl (QA) fun a hE => Zq (v := v1_2) hE Za ld rfl Ua rfl (At.cat (pre := [[vI p1.Number], [vI p1.Version], enc p1.Nonce, [v1_1]]) (hM.rawAt (pre := [_, _, _, _, _])) (cl1 (n := 1) (m := 18) rfl (cl1 (n := 1) (m := 17) rfl (cl1 (n := 16) (m := 1) (Flat.len _) (cl1 (n := 1) (m := 0) rfl cl0))))) ?_)); intro a hE
  obtain ⟨l46, e47, hF9⟩ := bind_some hF9
  obtain ⟨e50, rfl⟩ := Yn e47
  refine Yb hE hM Za ld rfl rfl (hM.rd hv1_2) Tryz.underlying57 ty5 rfl (by decide) e50 fun u48 w a hM hE => Ze hE Za ld rfl fun a hE => Zf ?_
  obtain ⟨j51, hl52, hF53⟩ := bind_some hF9
  refine ZU (fun a w => Env 45 a [(4, (ptr b5 0))] ∧ M (Old w0) w0 w [raw b5 (enc j51)]) ?_ ?_
  ·skip
   obtain ⟨r55, e56, hl52⟩ := bind_some hl52
   obtain ⟨x57, e58, hl52⟩ := bind_some hl52
   have hi59 := ZO e58
   obtain ⟨r60, e61, hl52⟩ := bind_some hl52
   obtain ⟨r62, e63, hl52⟩ := bind_some hl52
   refine Yr (n := 45) (hd := [_, _, _, _, _, _, _, _, _, _]) (tl := [_]) YN rfl rfl [35, 36, 37, 38, 39, 40, 41, 42, 43, 44] (by decide) (fun w => M (Old w0) w0 w [osl NoB (((((j7 ++ r26) ++ ([Zr (p1.Label.length : Int)] : List UInt8)) ++ p1.Label) ++ p1.Body) : List UInt8) u48, osl NoB (([Zr (p1.Label.length : Int)] : List UInt8) : List UInt8) u34, osl NoB (r26 : List UInt8) u28, osl NoB (([p1.Nonce] : List (Vector UInt8 16)) : List (Vector UInt8 16)) u24, raw b5 (enc (Vector.replicate 32 (0 : UInt8))), raw b3 (cat [[vI p1.Number], [vI p1.Version], enc p1.Nonce, [v1_1], [v1_2], enc p1.Tag]), raw b1 (cat [[v0_1], [vI p0.Next], [v0_2], [v0_3], enc p0.Head])]) (fun j => ([fun v _ => v = (Value.agg (enc r55).toArray), fun v _ => v = (ptr b1 (0 + 0)), fun v _ => v = v0_1, fun v _ => v = (ptr b3 (0 + 1)), fun v _ => v = (vI p1.Version), fun v _ => v = (ptr (sb v0_1) (so v0_1 + (p1.Version).toNat * 16)), fun v _ => v = (Value.agg (enc x57).toArray), fun v _ => v = (Value.agg (enc r60).toArray), fun v _ => v = u48, fun v _ => v = (Value.agg (enc r62).toArray)] : List (Value → World → Prop)).getD j (fun _ _ => True)) (fun _ _ h hk => h.keep hk) (gup (Zk (Zk (Zk (Zk (Zk (Zk (Zk (Zk (Zk (Zk VK))))))))))) hE hM.drew (ZL (Zb ?_ (Zb ?_ (Zb ?_ (Zb ?_ (Zb ?_ (Zb ?_ (Zb ?_ (Zb ?_ (Zb ?_ (Zb ?_ ZF))))))))))) ?_
   ·intro a w ux54 hE hM hp
    refine Zs hE Za ld rfl cb133 (QG _  r55 e56) ?_
    rintro v w a ⟨rfl, hK⟩ hE
    exact ⟨hK, _, _, rfl, hE, rfl⟩
   ·exact fun a w ux54 hE hM hp => Zg hE Za ld rfl (Tu) fun a hE => ⟨Kept.refl _ _, _, _, rfl, hE, rfl⟩
   ·intro a w ux54 hE hM hp
    have f1 : ux54 1 = (ptr b1 (0 + 0)) := hp 0 _ rfl rfl
    exact Zq (v := v0_1) hE Za ld (lk rfl f1) KN rfl (At.cat (pre := []) (hM.rawAt (pre := [_, _, _, _, _, _])) cl0) fun a hE => ⟨Kept.refl _ _, _, _, rfl, hE, rfl⟩
   ·exact fun a w ux54 hE hM hp => Zg hE Za ld rfl (TO) fun a hE => ⟨Kept.refl _ _, _, _, rfl, hE, rfl⟩
   ·intro a w ux54 hE hM hp
    have f3 : ux54 3 = (ptr b3 (0 + 1)) := hp 0 _ rfl rfl
    exact Zq (v := (vI p1.Version)) hE Za ld (lk rfl f3) ty2 rfl (At.cat (pre := [[vI p1.Number]]) (hM.rawAt (pre := [_, _, _, _, _])) (cl1 (n := 1) (m := 0) rfl cl0)) fun a hE => ⟨Kept.refl _ _, _, _, rfl, hE, rfl⟩
   ·intro a w ux54 hE hM hp
    have f2 : ux54 2 = v0_1 := hp 0 _ rfl rfl
    have f4 : ux54 4 = (vI p1.Version) := hp 1 _ rfl rfl
    exact ZN hE Za ld (lk rfl f2) (lk rfl f4) Tryz.underlying32 ZH (hM.rd hv0_1) hi59.1 fun a hE => ⟨Kept.refl _ _, _, _, rfl, hE, rfl⟩
   ·intro a w ux54 hE hM hp
    have f5 : ux54 5 = (ptr (sb v0_1) (so v0_1 + (p1.Version).toNat * 16)) := hp 0 _ rfl rfl
    exact Zm (cs := enc x57) hE Za ld (lk rfl f5) ZH rfl (Xa (hM.rd hv0_1) hi59.2) (Flat.len _) fun a hE => ⟨Kept.refl _ _, _, _, rfl, hE, rfl⟩
   ·intro a w ux54 hE hM hp
    have f6 : ux54 6 = (Value.agg (enc x57).toArray) := hp 0 _ rfl rfl
    refine Zs hE Za ld (ZY (ZS (lk rfl f6) (ZS rfl YT))) cb134 (JN _ x57 129 r60 e61) ?_
    rintro v w a ⟨rfl, hK⟩ hE
    exact ⟨hK, _, _, rfl, hE, rfl⟩
   ·exact fun a w ux54 hE hM hp => Zd hE Za ld rfl fun a hE => ⟨Kept.refl _ _, _, _, rfl, hE, rfl⟩
   ·intro a w ux54 hE hM hp
    have f0 : ux54 0 = (Value.agg (enc r55).toArray) := hp 0 _ rfl rfl
    have f7 : ux54 7 = (Value.agg (enc r60).toArray) := hp 1 _ rfl rfl
    have f8 : ux54 8 = u48 := hp 2 _ rfl rfl
    refine Zs hE Za ld (ZY (ZS (lk rfl f0) (ZS (lk rfl f7) (ZS (lk rfl f8) YT)))) cb132 (KU _ r55 r60 ((((j7 ++ r26) ++ ([Zr (p1.Label.length : Int)] : List UInt8)) ++ p1.Label) ++ p1.Body) u48 (hM.sl (pre := []) noB) r62 e63) ?_
    rintro v w a ⟨rfl, hK⟩ hE
    exact ⟨hK, _, _, rfl, hE, rfl⟩
   ·intro a w ux54 hE hM hg
    have hE := hE.sub (e' := [(44, (Value.agg (enc r62).toArray)), (2, (ptr b1 0)), (3, (ptr b3 0)), (4, (ptr b5 0)), (5, u48), (14, u10), (15, (ptr b3 (0 + 2))), (16, (Value.agg (enc p1.Nonce).toArray)), (17, u24), (18, u28), (19, u31), (20, u31), (21, (ptr b3 (0 + 18))), (22, v1_1), (23, (vI (p1.Label.length : Int))), (24, (vB (Zr (p1.Label.length : Int)))), (25, u34), (26, u38), (27, u38), (28, (ptr b3 (0 + 18))), (29, v1_1), (30, u43), (31, u43), (32, (ptr b3 (0 + 19))), (33, v1_2), (34, u48)]) ⟨lk rfl (hg 9 (by decide)), rfl, rfl, rfl, rfl, rfl, rfl, rfl, rfl, rfl, rfl, rfl, rfl, rfl, rfl, rfl, rfl, rfl, rfl, rfl, rfl, rfl, rfl, rfl, rfl, rfl, trivial⟩
    have hM := hM.pull (pre := [_, _, _, _])
    refine Zt (seg := enc r62) (cs' := enc r62) hE hM Za rfl rfl rfl Yu (Flat.len _) (zle flq) (Flat.cell _) (Zo flq) fun w a hM hE => Zi ?_
    have ht64 := Option.some.inj hl52
    subst ht64
    refine Zl ?_
    have hM := M.fst (l := [_]) hM
    exact ⟨hE.sub ⟨rfl, trivial⟩, hM⟩
  ·skip
   rintro a w ⟨hE, hM⟩
   have hr := Option.some.inj hF53
   subst hr
   have hq65 : YB Tryz.prog _ _ (.cell 4 29) _ := ZZ hE rfl Yu rfl (hM.rawAt (pre := [])) (Flat.len _) rfl
   have hM := M.fst (l := []) hM
   exact wp_ret (Zy hE rfl hq65 ⟨_, rfl, rfl, hM.kept⟩)
noncomputable def X1 (p0 : GCipher) (p1 : (Vector UInt8 16)) (p2 : (Vector UInt8 16)) (p3 : Int) (s14 : Int × (List UInt8)) : Option (Fl (Int × (List UInt8)) (List UInt8)) :=
 if (decide ((s14.2.length : Int) < p3)) = true then ((XM ([p2] : List (Vector UInt8 16))).bind fun r23 => (app 1 r23 ([Zr (wr (Int.tdiv s14.1 256)), Zr (Int.tmod s14.1 256)] : List UInt8)).bind fun l28 => (Vl p0 p1 (r23 ++ ([Zr (wr (Int.tdiv s14.1 256)), Zr (Int.tmod s14.1 256)] : List UInt8))).bind fun r33 => (WZ r33).bind fun r35 => (app 1 s14.2 r35).bind fun l38 => some (Fl.nx (wr (s14.1 + 1), (s14.2 ++ r35)))) else (some (Fl.ex s14.2))
noncomputable def VN (p0 : GCipher) (p1 : (Vector UInt8 16)) (p2 : (Vector UInt8 16)) (p3 : Int) : Option ((List UInt8)) :=
 (ZG (X1 p0 p1 p2 p3) (0, ([] : List UInt8)) : Option ((List UInt8))).bind fun j9 => (slc j9 (0 : Int) p3).bind fun l44 => (XV l44).bind fun r46 => some r46
theorem J4 (w0 : World) (p0 : GCipher) (p1 : (Vector UInt8 16)) (p2 : (Vector UInt8 16)) (p3 : Int) (r : (List UInt8)) (hF : VN p0 p1 p2 p3 = some r) :
  Calls Tryz.prog 151 [(Value.agg (enc p0).toArray), (Value.agg (enc p1).toArray), (Value.agg (enc p2).toArray), vI p3].toArray w0 (fun en w' => ∃ v, en = .returned v ∧ (∃ (y1 : Value), v = y1 ∧ Fr w0 w' [osl NoB (r : List UInt8) y1] ∧ Kept (Old w0) w0 w')) := by
 refine ZD (n := 41) Tryz.func151 rfl rfl (Nat.le_of_ble_eq_true rfl) rfl ?_
 intro a hE
 have hM := M.start w0
 unfold VN at hF
 refine Zc (ZX (cs := cat [[vI p0.Field], enc p0.Box, enc p0.Mix, enc p0.Places, [vI p0.Rounds]]) hE hM Za ld rfl rfl fun b1 w a hM hE => ZX (cs := enc p1) hE hM Za ld rfl rfl fun b3 w a hM hE => ZX (cs := enc p2) hE hM Za ld rfl rfl fun b5 w a hM hE => Ze hE Za ld rfl fun a hE => Zf (Zc (Z5 (xs := []) (l := ([] : List UInt8)) (vs := []) hE hM Za ld rfl rfl Tryz.underlying57 ty5 rfl (by decide) rfl fun u7 w a hM hE => Ze hE Za ld rfl fun a hE => Zf (wp_seq (Zc (Ze hE Za ld rfl ?_)))))); intro a hE
 refine Zf ?_
 obtain ⟨j9, hl10, hF11⟩ := bind_some hF
 refine ZR (fun a w => ∃ (u12 : Value), Env 41 a [(3, vI p3), (9, u12)] ∧ M (Old w0) w0 w [osl NoB (j9 : List UInt8) u12]) ?_ ?_
 ·skip
  refine wp_block ?_
  have hM := hM.pull (pre := [_, _, _])
  have hM := hM.pull (pre := [_, _, _])
  have hM := hM.pull (pre := [_, _, _])
  refine ZK (fun (s14 : Int × (List UInt8)) a w => ∃ (u15 : Value), Env 41 a [(3, vI p3), (4, (ptr b1 0)), (5, (ptr b3 0)), (6, (ptr b5 0)), (9, u15), (10, vI s14.1)] ∧ M (Old w0) w0 w [raw b5 (enc p2), raw b3 (enc p1), raw b1 (cat [[vI p0.Field], enc p0.Box, enc p0.Mix, enc p0.Places, [vI p0.Rounds]]), osl NoB (s14.2 : List UInt8) u15]) hl10 ⟨u7, hE.sub ⟨rfl, rfl, rfl, rfl, rfl, rfl, trivial⟩, hM⟩ ?_
  rintro s14 a w ⟨u15, hE, hM⟩ o19 hs17 hx18
  unfold X1 at hs17
  refine wp_seq (Zc (Zd hE Za ld rfl fun a hE => Z6 hE Za ld rfl Tryz.underlying57 (hM.sl (pre := [_, _, _]) noB) fun a hE => Zd hE Za ld rfl fun a hE => Zh hE Za ld rfl rfl rfl fun a hE => Zf ?_))
  refine Zv hE rfl ?_ ?_
  ·intro hb20
   have hs17 := ZA hs17 hb20
   refine wp_skip (Zz (wp_seq (wp_block (Zc (Zm (cs := enc p2) hE Za ld rfl ZH rfl (hM.rawAt (pre := [])) (Flat.len _) fun a hE => Z5 (xs := [.tmp 19]) (l := ([p2] : List (Vector UInt8 16))) (vs := [(Value.agg (enc p2).toArray)]) hE hM Za ld rfl rfl Tryz.underlying32 ZH rfl (by decide) rfl ?_))))); intro u21 w a hM hE
   obtain ⟨r23, e24, hs17⟩ := bind_some hs17
   refine Zs hE Za ld rfl cb131 (Kl _ ([p2] : List (Vector UInt8 16)) u21 (hM.sl (pre := []) noB) r23 e24) ?_
   rintro u25 w a ⟨_, rfl, hFr, hK⟩ hE
   have hM := hM.add hK hFr
   refine Zd hE Za ld rfl fun a hE => Zh hE Za ld rfl rfl (B3 _ _ (by decide)) fun a hE => Yj hE Za ld rfl Tryz.underlying3 Tryz.underlying5 ?_; intro a hE
   rw [ZW] at hE
   refine Zd hE Za ld rfl fun a hE => Zh hE Za ld rfl rfl (Qm _ _ (by decide)) fun a hE => Yj hE Za ld rfl Tryz.underlying3 Tryz.underlying5 ?_; intro a hE
   rw [ZW] at hE
   refine Z5 (xs := [.tmp 24, .tmp 27]) (l := ([Zr (wr (Int.tdiv s14.1 256)), Zr (Int.tmod s14.1 256)] : List UInt8)) (vs := [(vB (Zr (wr (Int.tdiv s14.1 256)))), (vB (Zr (Int.tmod s14.1 256)))]) hE hM Za ld rfl rfl Tryz.underlying57 ty5 rfl (by decide) rfl ?_; intro u26 w a hM hE
   obtain ⟨l28, e29, hs17⟩ := bind_some hs17
   obtain ⟨e32, rfl⟩ := Yn e29
   have hM := hM.pull (pre := [_])
   refine Yb hE hM Za ld rfl rfl (hM.sl (pre := [_]) noB) Tryz.underlying57 ty5 rfl (by decide) e32 fun u30 w a hM hE => Ze hE Za ld rfl fun a hE => Zf (wp_region_lit (Zd hE Za ld rfl fun a hE => Zm (cs := enc p0) hE Za ld rfl Va rfl (hM.rawAt (pre := [_, _, _, _, _])) (ZC (cl1 (n := 1) (m := 289) rfl (cl1 (n := 256) (m := 33) (Flat.len _) (cl1 (n := 16) (m := 17) (Flat.len _) (cl1 (n := 16) (m := 1) (Flat.len _) (cl1 (n := 1) (m := 0) rfl cl0)))))) fun a hE => Zm (cs := enc p1) hE Za ld rfl ZH rfl (hM.rawAt (pre := [_, _, _, _])) (Flat.len _) fun a hE => Zd hE Za ld rfl ?_)); intro a hE
   obtain ⟨r33, e34, hs17⟩ := bind_some hs17
   refine Zs hE Za ld rfl cb132 (KU _ p0 p1 (r23 ++ ([Zr (wr (Int.tdiv s14.1 256)), Zr (Int.tmod s14.1 256)] : List UInt8)) u30 (hM.sl (pre := []) noB) r33 e34) ?_
   rintro v w a ⟨rfl, hK⟩ hE
   have hM := hM.keep hK
   obtain ⟨r35, e36, hs17⟩ := bind_some hs17
   refine Zs hE Za ld rfl cb182 (Q3 _ r33 r35 e36) ?_
   rintro u37 w a ⟨_, rfl, hFr, hK⟩ hE
   have hM := hM.add hK hFr
   obtain ⟨l38, e39, hs17⟩ := bind_some hs17
   obtain ⟨e42, rfl⟩ := Yn e39
   have hM := hM.pull (pre := [_, _, _, _, _, _, _])
   refine Yb hE hM Za ld rfl rfl (hM.sl (pre := [_]) noB) Tryz.underlying57 ty5 rfl (by decide) e42 fun u40 w a hM hE => Ze hE Za ld rfl fun a hE => Zi (Ye (Zz (wp_region_lit (Zd hE Za ld rfl fun a hE => Zh hE Za ld rfl rfl rfl fun a hE => Ze hE Za ld rfl fun a hE => Zi (Zl ?_)))))
   have hM := hM.pull (pre := [_, _, _, _, _, _, _])
   have hM := hM.pull (pre := [_, _, _, _, _, _, _])
   have hM := hM.pull (pre := [_, _, _, _, _, _, _])
   have hM := M.fst (l := [_, _, _, _]) hM
   exact ⟨_, (Option.some.inj hs17).symm, u40, hE.sub ⟨rfl, rfl, rfl, rfl, rfl, rfl, trivial⟩, hM⟩
  ·intro hb20
   have hs17 := ZB hs17 hb20
   refine wp_exit (Zp (Zp (Yc ?_)))
   have ht43 := hx18 _ (Option.some.inj hs17).symm
   subst ht43
   refine Zl ?_
   have hM := hM.pull (pre := [_, _, _])
   have hM := M.fst (l := [_]) hM
   exact ⟨u15, hE.sub ⟨rfl, rfl, trivial⟩, hM⟩
 ·skip
  rintro a w ⟨u12, hE, hM⟩
  refine Zz (Zc (Zd hE Za ld rfl fun a hE => Zd hE Za ld rfl ?_)); intro a hE
  obtain ⟨l44, e45, hF11⟩ := bind_some hF11
  refine JG hE Za ld rfl rfl rfl rfl rfl Tryz.underlying57 ty5 (hM.sl (pre := []) noB) e45 ?_; intro a hE
  obtain ⟨r46, e47, hF11⟩ := bind_some hF11
  refine Zs hE Za ld rfl cb95 (Kj _ l44 (ZT u12 ((0 : Int)).toNat (p3).toNat 1) (Xs (hM.sl (pre := []) noB) e45) r46 e47) ?_
  rintro u48 w a ⟨_, rfl, hFr, hK⟩ hE
  have hM := hM.add hK hFr
  refine Ze hE Za ld rfl fun a hE => Zf ?_
  have hr := Option.some.inj hF11
  subst hr
  have hM := M.fst (l := [_]) hM
  exact wp_ret (Zy hE rfl (Zu hE rfl) ⟨_, rfl, u48, rfl, hM.outF (Xu Xo), hM.kept⟩)
noncomputable def X5 (p2 : (List UInt8)) (j5 : (List UInt8) × (List UInt8)) (s29 : (List UInt8) × Int) : Option (Fl ((List UInt8) × Int) (List UInt8)) :=
 if (decide (s29.2 < (p2.length : Int))) = true then ((idx p2 s29.2).bind fun x37 => (idx j5.1 s29.2).bind fun x40 => (app 1 s29.1 ([x37 ^^^ x40] : List UInt8)).bind fun l45 => some (Fl.nx ((s29.1 ++ ([x37 ^^^ x40] : List UInt8)), wr (s29.2 + 1)))) else (some (Fl.ex s29.1))
noncomputable def Vz (p0 : GVault) (p1 : GRecord) (p2 : (List UInt8)) : Option ((List UInt8)) :=
 ((Ww).bind fun r13 => (idx p0.Keys p1.Version).bind fun x15 => (VN r13 x15 p1.Nonce (p2.length : Int)).bind fun r18 => some (r18, ([] : List UInt8)) : Option ((List UInt8) × (List UInt8))).bind fun j5 => (ZG (X5 p2 j5) (j5.2, 0) : Option ((List UInt8))).bind fun j24 => some j24
theorem Hb (w0 : World) (p0 : GVault) (v0_1 : Value) (hv0_1 : Ro w0 p0.Keys [v0_1]) (v0_2 : Value) (hv0_2 : Ro w0 p0.Records [v0_2]) (v0_3 : Value) (hv0_3 : Ro w0 p0.Events [v0_3]) (p1 : GRecord) (v1_1 : Value) (hv1_1 : Ro w0 p1.Label [v1_1]) (v1_2 : Value) (hv1_2 : Ro w0 p1.Body [v1_2]) (p2 : (List UInt8)) (v2_1 : Value) (hv2_1 : Ro w0 p2 [v2_1]) (r : (List UInt8)) (hF : Vz p0 p1 p2 = some r) :
  Calls Tryz.prog 88 [(Value.agg (cat [[v0_1], [vI p0.Next], [v0_2], [v0_3], enc p0.Head]).toArray), (Value.agg (cat [[vI p1.Number], [vI p1.Version], enc p1.Nonce, [v1_1], [v1_2], enc p1.Tag]).toArray), v2_1].toArray w0 (fun en w' => ∃ v, en = .returned v ∧ (∃ (y1 : Value), v = y1 ∧ Fr w0 w' [osl NoB (r : List UInt8) y1] ∧ Kept (Old w0) w0 w')) := by
 refine ZD (n := 42) Tryz.func88 rfl rfl (Nat.le_of_ble_eq_true rfl) rfl ?_
 intro a hE
 have hM := M.start w0
 unfold Vz at hF
 refine Zc (ZX (cs := cat [[v0_1], [vI p0.Next], [v0_2], [v0_3], enc p0.Head]) hE hM Za ld rfl rfl fun b1 w a hM hE => ZX (cs := cat [[vI p1.Number], [vI p1.Version], enc p1.Nonce, [v1_1], [v1_2], enc p1.Tag]) hE hM Za ld rfl rfl fun b3 w a hM hE => Ze hE Za ld rfl fun a hE => Zf ?_)
 obtain ⟨j5, hl6, hF7⟩ := bind_some hF
 refine ZU (fun a w => ∃ (u8 : Value) (u10 : Value), Env 42 a [(2, v2_1), (7, u8), (8, u10)] ∧ M (Old w0) w0 w [osl NoB (j5.1 : List UInt8) u8, osl NoB (j5.2 : List UInt8) u10]) ?_ ?_
 ·skip
  obtain ⟨r13, e14, hl6⟩ := bind_some hl6
  obtain ⟨x15, e16, hl6⟩ := bind_some hl6
  have hi17 := ZO e16
  obtain ⟨r18, e19, hl6⟩ := bind_some hl6
  refine VX (n := 42) (hd := [_, _, _, _, _, _, _, _, _, _, _, _, _, _]) (tl := [_]) YN rfl rfl [10, 11, 12, 13, 14, 15, 16, 17, 18, 19, 20, 21, 22, 7] (by decide) (fun D u w => M (Old w0) w0 w ([raw b3 (cat [[vI p1.Number], [vI p1.Version], enc p1.Nonce, [v1_1], [v1_2], enc p1.Tag]), raw b1 (cat [[v0_1], [vI p0.Next], [v0_2], [v0_3], enc p0.Head])] ++ qL ([mkO 11 (fun v => osl NoB (r18 : List UInt8) v), mkO 12 (fun v => osl NoB (([] : List UInt8) : List UInt8) v)] : Mk) D u) ∧ GOk ([([], fun us v => v = (Value.agg (enc r13).toArray)), ([], fun us v => v = (ptr b1 (0 + 0))), ([], fun us v => v = v0_1), ([], fun us v => v = (ptr b3 (0 + 1))), ([], fun us v => v = (vI p1.Version)), ([], fun us v => v = (ptr (sb v0_1) (so v0_1 + (p1.Version).toNat * 16))), ([], fun us v => v = (Value.agg (enc x15).toArray)), ([], fun us v => v = (ptr b3 (0 + 2))), ([], fun us v => v = (Value.agg (enc p1.Nonce).toArray)), ([], fun us v => v = v2_1), ([], fun us v => v = (vI (p2.length : Int))), ([], fun us v => True), ([], fun us v => True), ([11], fun us v => v = (us.getD 0 undef))] : Gs) D u) hE (fun u => ⟨M.qE (M.qE (M.q0 hM.drew u) emO) emO, Jj⟩) (ZL (Zb ?_ (Zb ?_ (Zb ?_ (Zb ?_ (Zb ?_ (Zb ?_ (Zb ?_ (Zb ?_ (Zb ?_ (Zb ?_ (Zb ?_ (Zb ?_ (Zb ?_ (Zb ?_ ZF))))))))))))))) ?_
  ·intro a w ux12 D hE hI hD hdc hp
   have hM0 := hI.1
   refine Zs hE Za ld rfl cb133 (QG _  r13 e14) ?_
   rintro v w a ⟨rfl, hK⟩ hE
   exact ⟨_, _, rfl, hE, M.qKeep (hM0.keep hK) rfl, hI.2.put hD rfl ZP rfl⟩
  ·intro a w ux12 D hE hI hD hdc hp
   have hM0 := hI.1
   exact Zg hE Za ld rfl (Tu) fun a hE => ⟨_, _, rfl, hE, M.qKeep hM0 rfl, hI.2.put hD rfl ZP rfl⟩
  ·intro a w ux12 D hE hI hD hdc hp
   have d1 : D 1 = true := hp 0 _ rfl rfl
   have g1 := hI.2 1 d1 _ rfl
   have f1 : ux12 1 = (ptr b1 (0 + 0)) := g1.2
   have hM0 := hI.1
   have hM := hI.1
   exact Zq (v := v0_1) hE Za ld (lk rfl f1) KN rfl (At.cat (pre := []) (hM.rawAt (pre := [_])) cl0) fun a hE => ⟨_, _, rfl, hE, M.qKeep hM0 rfl, hI.2.put hD rfl ZP rfl⟩
  ·intro a w ux12 D hE hI hD hdc hp
   have hM0 := hI.1
   exact Zg hE Za ld rfl (TO) fun a hE => ⟨_, _, rfl, hE, M.qKeep hM0 rfl, hI.2.put hD rfl ZP rfl⟩
  ·intro a w ux12 D hE hI hD hdc hp
   have d3 : D 3 = true := hp 0 _ rfl rfl
   have g3 := hI.2 3 d3 _ rfl
   have f3 : ux12 3 = (ptr b3 (0 + 1)) := g3.2
   have hM0 := hI.1
   have hM := hI.1
   exact Zq (v := (vI p1.Version)) hE Za ld (lk rfl f3) ty2 rfl (At.cat (pre := [[vI p1.Number]]) (hM.rawAt (pre := [])) (cl1 (n := 1) (m := 0) rfl cl0)) fun a hE => ⟨_, _, rfl, hE, M.qKeep hM0 rfl, hI.2.put hD rfl ZP rfl⟩
  ·intro a w ux12 D hE hI hD hdc hp
   have d2 : D 2 = true := hp 0 _ rfl rfl
   have g2 := hI.2 2 d2 _ rfl
   have f2 : ux12 2 = v0_1 := g2.2
   have d4 : D 4 = true := hp 1 _ rfl rfl
   have g4 := hI.2 4 d4 _ rfl
   have f4 : ux12 4 = (vI p1.Version) := g4.2
   have hM0 := hI.1
   have hM := hI.1
   exact ZN hE Za ld (lk rfl f2) (lk rfl f4) Tryz.underlying32 ZH (hM.rd hv0_1) hi17.1 fun a hE => ⟨_, _, rfl, hE, M.qKeep hM0 rfl, hI.2.put hD rfl ZP rfl⟩
  ·intro a w ux12 D hE hI hD hdc hp
   have d5 : D 5 = true := hp 0 _ rfl rfl
   have g5 := hI.2 5 d5 _ rfl
   have f5 : ux12 5 = (ptr (sb v0_1) (so v0_1 + (p1.Version).toNat * 16)) := g5.2
   have hM0 := hI.1
   have hM := hI.1
   exact Zm (cs := enc x15) hE Za ld (lk rfl f5) ZH rfl (Xa (hM.rd hv0_1) hi17.2) (Flat.len _) fun a hE => ⟨_, _, rfl, hE, M.qKeep hM0 rfl, hI.2.put hD rfl ZP rfl⟩
  ·intro a w ux12 D hE hI hD hdc hp
   have hM0 := hI.1
   exact Zg hE Za ld rfl (KA) fun a hE => ⟨_, _, rfl, hE, M.qKeep hM0 rfl, hI.2.put hD rfl ZP rfl⟩
  ·intro a w ux12 D hE hI hD hdc hp
   have d7 : D 7 = true := hp 0 _ rfl rfl
   have g7 := hI.2 7 d7 _ rfl
   have f7 : ux12 7 = (ptr b3 (0 + 2)) := g7.2
   have hM0 := hI.1
   have hM := hI.1
   exact Zm (cs := enc p1.Nonce) hE Za ld (lk rfl f7) ZH rfl (At.cat (pre := [[vI p1.Number], [vI p1.Version]]) (hM.rawAt (pre := [])) (cl1 (n := 1) (m := 1) rfl (cl1 (n := 1) (m := 0) rfl cl0))) (Flat.len _) fun a hE => ⟨_, _, rfl, hE, M.qKeep hM0 rfl, hI.2.put hD rfl ZP rfl⟩
  ·intro a w ux12 D hE hI hD hdc hp
   have hM0 := hI.1
   exact Zd hE Za ld rfl fun a hE => ⟨_, _, rfl, hE, M.qKeep hM0 rfl, hI.2.put hD rfl ZP rfl⟩
  ·intro a w ux12 D hE hI hD hdc hp
   have d9 : D 9 = true := hp 0 _ rfl rfl
   have g9 := hI.2 9 d9 _ rfl
   have f9 : ux12 9 = v2_1 := g9.2
   have hM0 := hI.1
   have hM := hI.1
   exact Z6 hE Za ld (lk rfl f9) Tryz.underlying57 (hM.rd hv2_1) fun a hE => ⟨_, _, rfl, hE, M.qKeep hM0 rfl, hI.2.put hD rfl ZP rfl⟩
  ·intro a w ux12 D hE hI hD hdc hp
   have d0 : D 0 = true := hp 0 _ rfl rfl
   have g0 := hI.2 0 d0 _ rfl
   have f0 : ux12 0 = (Value.agg (enc r13).toArray) := g0.2
   have d6 : D 6 = true := hp 1 _ rfl rfl
   have g6 := hI.2 6 d6 _ rfl
   have f6 : ux12 6 = (Value.agg (enc x15).toArray) := g6.2
   have d8 : D 8 = true := hp 2 _ rfl rfl
   have g8 := hI.2 8 d8 _ rfl
   have f8 : ux12 8 = (Value.agg (enc p1.Nonce).toArray) := g8.2
   have d10 : D 10 = true := hp 3 _ rfl rfl
   have g10 := hI.2 10 d10 _ rfl
   have f10 : ux12 10 = (vI (p2.length : Int)) := g10.2
   have hM0 := hI.1
   have hM := hI.1
   refine Zs hE Za ld (ZY (ZS (lk rfl f0) (ZS (lk rfl f6) (ZS (lk rfl f8) (ZS (lk rfl f10) YT))))) cb151 (J4 _ r13 x15 p1.Nonce (p2.length : Int) r18 e19) ?_
   rintro _ w a ⟨_, rfl, hFr, hK⟩ hE
   have hM := hM0.add hK hFr
   exact ⟨_, _, rfl, hE, M.qFill (mk1 := []) (mk2 := [_]) (f := (fun v => osl NoB (r18 : List UInt8) v)) hM rfl hD, hI.2.put hD rfl ZP trivial⟩
  ·intro a w ux12 D hE hI hD hdc hp
   have hM0 := hI.1
   have hM := hI.1
   exact Z5 (xs := []) (l := ([] : List UInt8)) (vs := []) hE hM Za ld rfl rfl Tryz.underlying57 ty5 rfl (by decide) rfl fun u21 w a hM hE => ⟨_, _, rfl, hE, M.qFill (mk1 := [_]) (mk2 := []) (f := (fun v => osl NoB (([] : List UInt8) : List UInt8) v)) hM rfl hD, hI.2.put hD rfl ZP trivial⟩
  ·intro a w ux12 D hE hI hD hdc hp
   have d11 : D 11 = true := hp 0 _ rfl rfl
   have g11 := hI.2 11 d11 _ rfl
   have hM0 := hI.1
   exact Ze hE Za ld rfl fun a hE => ⟨_, _, rfl, hE, M.qKeep hM0 rfl, hI.2.put hD rfl (yu d11 ZP) rfl⟩
  ·intro a w ux12 D hE hI hall
   have hM := hI.1
   have d0 : D 0 = true := hall 0 (by decide)
   have d1 : D 1 = true := hall 1 (by decide)
   have d2 : D 2 = true := hall 2 (by decide)
   have d3 : D 3 = true := hall 3 (by decide)
   have d4 : D 4 = true := hall 4 (by decide)
   have d5 : D 5 = true := hall 5 (by decide)
   have d6 : D 6 = true := hall 6 (by decide)
   have d7 : D 7 = true := hall 7 (by decide)
   have d8 : D 8 = true := hall 8 (by decide)
   have d9 : D 9 = true := hall 9 (by decide)
   have d10 : D 10 = true := hall 10 (by decide)
   have d11 : D 11 = true := hall 11 (by decide)
   have d12 : D 12 = true := hall 12 (by decide)
   have d13 : D 13 = true := hall 13 (by decide)
   have f0 : ux12 0 = (Value.agg (enc r13).toArray) := (hI.2 0 d0 _ rfl).2
   have f1 : ux12 1 = (ptr b1 (0 + 0)) := (hI.2 1 d1 _ rfl).2
   have f2 : ux12 2 = v0_1 := (hI.2 2 d2 _ rfl).2
   have f3 : ux12 3 = (ptr b3 (0 + 1)) := (hI.2 3 d3 _ rfl).2
   have f4 : ux12 4 = (vI p1.Version) := (hI.2 4 d4 _ rfl).2
   have f5 : ux12 5 = (ptr (sb v0_1) (so v0_1 + (p1.Version).toNat * 16)) := (hI.2 5 d5 _ rfl).2
   have f6 : ux12 6 = (Value.agg (enc x15).toArray) := (hI.2 6 d6 _ rfl).2
   have f7 : ux12 7 = (ptr b3 (0 + 2)) := (hI.2 7 d7 _ rfl).2
   have f8 : ux12 8 = (Value.agg (enc p1.Nonce).toArray) := (hI.2 8 d8 _ rfl).2
   have f9 : ux12 9 = v2_1 := (hI.2 9 d9 _ rfl).2
   have f10 : ux12 10 = (vI (p2.length : Int)) := (hI.2 10 d10 _ rfl).2
   have f13 : ux12 13 = (ux12 11) := (hI.2 13 d13 _ rfl).2
   have hM := hM.sure (pre := [_, _]) d11
   have hM := hM.sure (pre := [_, _, _]) d12
   have hE := hE.sub (e' := [(21, (ux12 11)), (22, (ux12 12)), (7, (ux12 11)), (0, (Value.agg (cat [[v0_1], [vI p0.Next], [v0_2], [v0_3], enc p0.Head]).toArray)), (1, (Value.agg (cat [[vI p1.Number], [vI p1.Version], enc p1.Nonce, [v1_1], [v1_2], enc p1.Tag]).toArray)), (2, v2_1), (3, (ptr b1 0)), (4, (ptr b3 0)), (6, (Value.slice none 0 0))]) ⟨rfl, rfl, lk rfl f13, rfl, rfl, rfl, rfl, rfl, rfl, trivial⟩
   refine Ze hE Za ld rfl fun a hE => Zi ?_
   have ht23 := Option.some.inj hl6
   subst ht23
   refine Zl ?_
   have hM := hM.pull (pre := [_, _, _])
   have hM := hM.pull (pre := [_, _, _])
   have hM := M.fst (l := [_, _]) hM
   exact ⟨(ux12 11), (ux12 12), hE.sub ⟨rfl, rfl, rfl, trivial⟩, hM⟩
 ·skip
  rintro a w ⟨u8, u10, hE, hM⟩
  refine wp_seq (Zc (Ze hE Za ld rfl fun a hE => Zf ?_))
  obtain ⟨j24, hl25, hF26⟩ := bind_some hF7
  refine ZR (fun a w => ∃ (u27 : Value), Env 42 a [(8, u27)] ∧ M (Old w0) w0 w [osl NoB (j24 : List UInt8) u27]) ?_ ?_
  ·skip
   refine wp_block ?_
   refine ZK (fun (s29 : (List UInt8) × Int) a w => ∃ (u30 : Value), Env 42 a [(2, v2_1), (7, u8), (8, u30), (9, vI s29.2)] ∧ M (Old w0) w0 w [osl NoB (j5.1 : List UInt8) u8, osl NoB (s29.1 : List UInt8) u30]) hl25 ⟨u10, hE.sub ⟨rfl, rfl, rfl, rfl, trivial⟩, hM⟩ ?_
   rintro s29 a w ⟨u30, hE, hM⟩ o34 hs32 hx33
   unfold X5 at hs32
   refine wp_seq (Zc (Zd hE Za ld rfl fun a hE => Zd hE Za ld rfl fun a hE => Z6 hE Za ld rfl Tryz.underlying57 (hM.rd hv2_1) fun a hE => Zh hE Za ld rfl rfl rfl fun a hE => Zf ?_))
   refine Zv hE rfl ?_ ?_
   ·intro hb35
    have hs32 := ZA hs32 hb35
    refine wp_skip (Zz (wp_seq (wp_block ?_)))
    obtain ⟨x37, e38, hs32⟩ := bind_some hs32
    have hi39 := ZO e38
    obtain ⟨x40, e41, hs32⟩ := bind_some hs32
    have hi42 := ZO e41
    refine KG (n := 42) (hd := [_, _, _, _, _, _, _, _, _, _, _]) (tl := [_, _]) (its := [osl NoB (j5.1 : List UInt8) u8, osl NoB (s29.1 : List UInt8) u30]) YN rfl rfl [29, 30, 31, 32, 33, 34, 35, 36, 37, 38, 39] (by decide) [(10, fun v => osl NoB (([x37 ^^^ x40] : List UInt8) : List UInt8) v)] rfl (fun j => ([fun v => v = u30, fun v => v = v2_1, fun v => v = (vI s29.2), fun v => v = (ptr (sb v2_1) (so v2_1 + (s29.2).toNat * 1)), fun v => v = (vB x37), fun v => v = u8, fun v => v = (vI s29.2), fun v => v = (ptr (sb u8) (so u8 + (s29.2).toNat * 1)), fun v => v = (vB x40), fun v => v = (vB (x37 ^^^ x40)), fun v => True] : List (Value → Prop)).getD j (fun _ => True)) hE hM.drew (ZL (Zb ?_ (Zb ?_ (Zb ?_ (Zb ?_ (Zb ?_ (Zb ?_ (Zb ?_ (Zb ?_ (Zb ?_ (Zb ?_ (Zb ?_ ZF)))))))))))) ?_
    ·intro a w ux36 D hE hM hD hp
     have hM0 := hM
     exact Zd hE Za ld rfl fun a hE => ⟨_, _, rfl, hE, rfl, hM0.optKeep rfl⟩
    ·intro a w ux36 D hE hM hD hp
     have hM0 := hM
     exact Zd hE Za ld rfl fun a hE => ⟨_, _, rfl, hE, rfl, hM0.optKeep rfl⟩
    ·intro a w ux36 D hE hM hD hp
     have hM0 := hM
     exact Zd hE Za ld rfl fun a hE => ⟨_, _, rfl, hE, rfl, hM0.optKeep rfl⟩
    ·intro a w ux36 D hE hM hD hp
     have f1 : ux36 1 = v2_1 := (hp 0 _ rfl rfl).2
     have f2 : ux36 2 = (vI s29.2) := (hp 1 _ rfl rfl).2
     have hM0 := hM
     have hM : M (Old w0) w0 w [osl NoB (j5.1 : List UInt8) u8, osl NoB (s29.1 : List UInt8) u30, opt (D 10) (osl NoB (([x37 ^^^ x40] : List UInt8) : List UInt8) (ux36 10))] := hM
     exact ZN hE Za ld (lk rfl f1) (lk rfl f2) Tryz.underlying57 ty5 (hM.rd hv2_1) hi39.1 fun a hE => ⟨_, _, rfl, hE, rfl, hM0.optKeep rfl⟩
    ·intro a w ux36 D hE hM hD hp
     have f3 : ux36 3 = (ptr (sb v2_1) (so v2_1 + (s29.2).toNat * 1)) := (hp 0 _ rfl rfl).2
     have hM0 := hM
     have hM : M (Old w0) w0 w [osl NoB (j5.1 : List UInt8) u8, osl NoB (s29.1 : List UInt8) u30, opt (D 10) (osl NoB (([x37 ^^^ x40] : List UInt8) : List UInt8) (ux36 10))] := hM
     exact Zq (v := (vB x37)) hE Za ld (lk rfl f3) ty5 rfl (Xa (hM.rd hv2_1) hi39.2) fun a hE => ⟨_, _, rfl, hE, rfl, hM0.optKeep rfl⟩
    ·intro a w ux36 D hE hM hD hp
     have hM0 := hM
     exact Zd hE Za ld rfl fun a hE => ⟨_, _, rfl, hE, rfl, hM0.optKeep rfl⟩
    ·intro a w ux36 D hE hM hD hp
     have hM0 := hM
     exact Zd hE Za ld rfl fun a hE => ⟨_, _, rfl, hE, rfl, hM0.optKeep rfl⟩
    ·intro a w ux36 D hE hM hD hp
     have f5 : ux36 5 = u8 := (hp 0 _ rfl rfl).2
     have f6 : ux36 6 = (vI s29.2) := (hp 1 _ rfl rfl).2
     have hM0 := hM
     have hM : M (Old w0) w0 w [osl NoB (j5.1 : List UInt8) u8, osl NoB (s29.1 : List UInt8) u30, opt (D 10) (osl NoB (([x37 ^^^ x40] : List UInt8) : List UInt8) (ux36 10))] := hM
     exact ZN hE Za ld (lk rfl f5) (lk rfl f6) Tryz.underlying57 ty5 (hM.sl (pre := []) noB) hi42.1 fun a hE => ⟨_, _, rfl, hE, rfl, hM0.optKeep rfl⟩
    ·intro a w ux36 D hE hM hD hp
     have f7 : ux36 7 = (ptr (sb u8) (so u8 + (s29.2).toNat * 1)) := (hp 0 _ rfl rfl).2
     have hM0 := hM
     have hM : M (Old w0) w0 w [osl NoB (j5.1 : List UInt8) u8, osl NoB (s29.1 : List UInt8) u30, opt (D 10) (osl NoB (([x37 ^^^ x40] : List UInt8) : List UInt8) (ux36 10))] := hM
     exact Zq (v := (vB x40)) hE Za ld (lk rfl f7) ty5 rfl (Xa (hM.sl (pre := []) noB) hi42.2) fun a hE => ⟨_, _, rfl, hE, rfl, hM0.optKeep rfl⟩
    ·intro a w ux36 D hE hM hD hp
     have f4 : ux36 4 = (vB x37) := (hp 0 _ rfl rfl).2
     have f8 : ux36 8 = (vB x40) := (hp 1 _ rfl rfl).2
     have hM0 := hM
     exact Zh hE Za ld (lk rfl f4) (lk rfl f8) (WJ x37 x40) fun a hE => ⟨_, _, rfl, hE, rfl, hM0.optKeep rfl⟩
    ·intro a w ux36 D hE hM hD hp
     have f9 : ux36 9 = (vB (x37 ^^^ x40)) := (hp 0 _ rfl rfl).2
     have hM0 := hM
     have hM : M (Old w0) w0 w [osl NoB (j5.1 : List UInt8) u8, osl NoB (s29.1 : List UInt8) u30, opt (D 10) (osl NoB (([x37 ^^^ x40] : List UInt8) : List UInt8) (ux36 10))] := hM
     exact Z5 (xs := [.tmp 38]) (l := ([x37 ^^^ x40] : List UInt8)) (vs := [(vB (x37 ^^^ x40))]) hE hM Za ld (ZY (ZS (lk rfl f9) YT)) rfl Tryz.underlying57 ty5 rfl (by decide) rfl fun u43 w a hM hE => ⟨_, _, rfl, hE, trivial, M.optFill (mk1 := []) (mk2 := []) (f := (fun v => osl NoB (([x37 ^^^ x40] : List UInt8) : List UInt8) v)) hM rfl hD⟩
    ·intro a w ux36 hE hM hg
     have hM : M (Old w0) w0 w [osl NoB (j5.1 : List UInt8) u8, osl NoB (s29.1 : List UInt8) u30, osl NoB (([x37 ^^^ x40] : List UInt8) : List UInt8) (ux36 10)] := hM
     have hE := hE.sub (e' := [(29, u30), (39, (ux36 10)), (2, v2_1), (7, u8), (8, u30), (9, vI s29.2), (23, vI s29.2), (24, v2_1), (25, (vI (p2.length : Int))), (26, (vT (decide (s29.2 < (p2.length : Int)))))]) ⟨lk rfl (hg 0 (by decide)), rfl, rfl, rfl, rfl, rfl, rfl, rfl, rfl, rfl, trivial⟩
     obtain ⟨l45, e46, hs32⟩ := bind_some hs32
     obtain ⟨e49, rfl⟩ := Yn e46
     have hM := hM.pull (pre := [_])
     refine Yb hE hM Za ld rfl rfl (hM.sl (pre := [_, _]) noB) Tryz.underlying57 ty5 rfl (by decide) e49 fun u47 w a hM hE => Ze hE Za ld rfl fun a hE => Zi (Ye (Zz (wp_region_lit (Zd hE Za ld rfl fun a hE => Zh hE Za ld rfl rfl rfl fun a hE => Ze hE Za ld rfl fun a hE => Zi (Zl ?_)))))
     have hM := hM.pull (pre := [_])
     have hM := M.fst (l := [_, _]) hM
     exact ⟨_, (Option.some.inj hs32).symm, u47, hE.sub ⟨rfl, rfl, rfl, rfl, trivial⟩, hM⟩
   ·intro hb35
    have hs32 := ZB hs32 hb35
    refine wp_exit (Zp (Zp (Yc ?_)))
    have ht50 := hx33 _ (Option.some.inj hs32).symm
    subst ht50
    refine Zl ?_
    have hM := hM.pull (pre := [_])
    have hM := M.fst (l := [_]) hM
    exact ⟨u30, hE.sub ⟨rfl, trivial⟩, hM⟩
  ·skip
   rintro a w ⟨u27, hE, hM⟩
   refine Zz (Zc (Zd hE Za ld rfl fun a hE => Ze hE Za ld rfl fun a hE => Zf ?_))
   have hr := Option.some.inj hF26
   subst hr
   exact wp_ret (Zy hE rfl (Zu hE rfl) ⟨_, rfl, u27, rfl, hM.outF (Xu Xo), hM.kept⟩)
noncomputable def W6 (p0 : GVault) (p1 : Int) : Option ((List UInt8) × Int) :=
 (TJ p0).bind fun r3 => if (!r3) = true then (some ([], 1)) else ((Uk p0 p1).bind fun r7 => if (decide (r7 < 0)) = true then (some ([], 4)) else (((idx p0.Records r7).bind fun x15 => (Ti p0 x15).bind fun r25 => (idx p0.Records r7).bind fun x27 => some (!decide (r25 = x27.Tag)) : Option (Bool)).bind fun j11 => if j11 = true then (some ([], 5)) else (((idx p0.Records r7).bind fun x46 => (idx p0.Records r7).bind fun x56 => (Vz p0 x46 x56.Body).bind fun r66 => some (r66, 0) : Option ((List UInt8) × Int)).bind fun j40 => some (j40.1, j40.2))))
theorem Jw (w0 : World) (p0 : GVault) (v0_1 : Value) (hv0_1 : Ro w0 p0.Keys [v0_1]) (v0_2 : Value) (hv0_2 : Ro w0 p0.Records [v0_2]) (v0_3 : Value) (hv0_3 : Ro w0 p0.Events [v0_3]) (p1 : Int) (r : (List UInt8) × Int) (hF : W6 p0 p1 = some r) :
  Calls Tryz.prog 26 [(Value.agg (cat [[v0_1], [vI p0.Next], [v0_2], [v0_3], enc p0.Head]).toArray), vI p1].toArray w0 (fun en w' => ∃ v, en = .returned v ∧ (∃ (y1 : Value), v = (Value.tuple [y1, vI r.2].toArray) ∧ Fr w0 w' [osl NoB (r.1 : List UInt8) y1] ∧ Kept (Old w0) w0 w')) := by
 refine ZD (n := 42) Tryz.func26 rfl rfl (Nat.le_of_ble_eq_true rfl) rfl ?_
 intro a hE
 have hM := M.start w0
 unfold W6 at hF
 refine Zc (ZX (cs := cat [[v0_1], [vI p0.Next], [v0_2], [v0_3], enc p0.Head]) hE hM Za ld rfl rfl fun b1 w a hM hE => Ze hE Za ld rfl fun a hE => Ze hE Za ld rfl fun a hE => Zf (wp_seq (Zc (Zm (cs := cat [[v0_1], [vI p0.Next], [v0_2], [v0_3], enc p0.Head]) hE Za ld rfl Qd rfl (hM.rawAt (pre := [])) (ZC (cl1 (n := 1) (m := 35) rfl (cl1 (n := 1) (m := 34) rfl (cl1 (n := 1) (m := 33) rfl (cl1 (n := 1) (m := 32) rfl (cl1 (n := 32) (m := 0) (Flat.len _) cl0)))))) ?_)))); intro a hE
 obtain ⟨r3, e4, hF⟩ := bind_some hF
 refine Zs hE Za ld rfl cb53 (zg _ p0 v0_1 (hM.rdo hv0_1) v0_2 (hM.rdo hv0_2) v0_3 (hM.rdo hv0_3) r3 e4) ?_
 rintro v w a ⟨rfl, hK⟩ hE
 have hM := hM.keep hK
 refine WA hE Za ld rfl fun a hE => Zf ?_
 refine Zv hE rfl ?_ ?_
 ·intro hb5
  have hF := ZA hF hb5
  refine Zc (Ze hE Za ld rfl fun a hE => Ze hE Za ld rfl fun a hE => Zf ?_)
  have hM := M.nilS (α := UInt8) NoB noB hM
  have hr := Option.some.inj hF
  subst hr
  have hM := M.fst (l := [_]) hM
  exact wp_ret (ZE (TQ hE rfl (Zu hE rfl) (Zu hE rfl) ⟨_, rfl, (Value.slice none 0 0), rfl, hM.outF (Xu Xo), hM.kept⟩))
 ·intro hb5
  have hF := ZB hF hb5
  refine wp_skip (Zz (Zc (Zm (cs := cat [[v0_1], [vI p0.Next], [v0_2], [v0_3], enc p0.Head]) hE Za ld rfl Qd rfl (hM.rawAt (pre := [])) (ZC (cl1 (n := 1) (m := 35) rfl (cl1 (n := 1) (m := 34) rfl (cl1 (n := 1) (m := 33) rfl (cl1 (n := 1) (m := 32) rfl (cl1 (n := 32) (m := 0) (Flat.len _) cl0)))))) fun a hE => Zd hE Za ld rfl ?_))); intro a hE
  obtain ⟨r7, e8, hF⟩ := bind_some hF
  refine Zs hE Za ld rfl cb54 (HM _ p0 v0_1 (hM.rdo hv0_1) v0_2 (hM.rdo hv0_2) v0_3 (hM.rdo hv0_3) p1 r7 e8) ?_
  rintro v w a ⟨rfl, hK⟩ hE
  have hM := hM.keep hK
  refine Ze hE Za ld rfl fun a hE => Zf (wp_seq (Zc (Zd hE Za ld rfl fun a hE => Zh hE Za ld rfl rfl rfl fun a hE => Zf ?_)))
  refine Zv hE rfl ?_ ?_
  ·intro hb9
   have hF := ZA hF hb9
   refine Zc (Ze hE Za ld rfl fun a hE => Ze hE Za ld rfl fun a hE => Zf ?_)
   have hM := M.nilS (α := UInt8) NoB noB hM
   have hr := Option.some.inj hF
   subst hr
   have hM := M.fst (l := [_]) hM
   exact wp_ret (ZE (TQ hE rfl (Zu hE rfl) (Zu hE rfl) ⟨_, rfl, (Value.slice none 0 0), rfl, hM.outF (Xu Xo), hM.kept⟩))
  ·intro hb9
   have hF := ZB hF hb9
   refine wp_skip (Zz (wp_seq ?_))
   obtain ⟨j11, hl12, hF13⟩ := bind_some hF
   refine ZU (fun a w => Env 42 a [(2, (ptr b1 0)), (6, vI r7), (28, vT j11)] ∧ M (Old w0) w0 w [raw b1 (cat [[v0_1], [vI p0.Next], [v0_2], [v0_3], enc p0.Head])]) ?_ ?_
   ·skip
    obtain ⟨x15, e16, hl12⟩ := bind_some hl12
    have hi17 := ZO e16
    obtain ⟨cs18, hs19, hA20⟩ := Vn hv0_2 hi17.2 -- ^
    obtain ⟨u21, u23, rfl, h22, h24⟩ := Y8 hs19 -- ^
    obtain ⟨r25, e26, hl12⟩ := bind_some hl12
    obtain ⟨x27, e28, hl12⟩ := bind_some hl12
    have hi29 := ZO e28
    obtain ⟨cs30, hs31, hA32⟩ := Vn hv0_2 hi29.2 -- ^
    obtain ⟨u33, u35, rfl, h34, h36⟩ := Y8 hs31 -- ^
    refine Yr (n := 42) (hd := [_, _, _, _, _, _, _, _, _, _, _, _, _, _]) (tl := []) YN rfl rfl [15, 16, 17, 18, 19, 20, 21, 22, 23, 24, 25, 26, 27, 28] (by decide) (fun w => M (Old w0) w0 w [raw b1 (cat [[v0_1], [vI p0.Next], [v0_2], [v0_3], enc p0.Head])]) (fun j => ([fun v _ => v = (Value.agg (cat [[v0_1], [vI p0.Next], [v0_2], [v0_3], enc p0.Head]).toArray), fun v _ => v = (ptr b1 (0 + 2)), fun v _ => v = v0_2, fun v _ => v = (vI r7), fun v _ => v = (ptr (sb v0_2) (so v0_2 + (r7).toNat * 52)), fun v _ => v = (Value.agg (cat [[vI x15.Number], [vI x15.Version], enc x15.Nonce, [u21], [u23], enc x15.Tag]).toArray), fun v _ => v = (Value.agg (enc r25).toArray), fun v _ => v = (ptr b1 (0 + 2)), fun v _ => v = v0_2, fun v _ => v = (vI r7), fun v _ => v = (ptr (sb v0_2) (so v0_2 + (r7).toNat * 52)), fun v _ => v = (ptr (sb v0_2) (so v0_2 + (r7).toNat * 52 + 20)), fun v _ => v = (Value.agg (enc x27.Tag).toArray), fun v _ => v = (vT (!decide (r25 = x27.Tag)))] : List (Value → World → Prop)).getD j (fun _ _ => True)) (fun _ _ h hk => h.keep hk) (gup (Zk (Zk (Zk (Zk (Zk (Zk (Zk (Zk (Zk (Zk (Zk (Zk (Zk (Zk VK))))))))))))))) hE hM.drew (ZL (Zb ?_ (Zb ?_ (Zb ?_ (Zb ?_ (Zb ?_ (Zb ?_ (Zb ?_ (Zb ?_ (Zb ?_ (Zb ?_ (Zb ?_ (Zb ?_ (Zb ?_ (Zb ?_ ZF))))))))))))))) ?_
    ·exact fun a w ux14 hE hM hp => Zm (cs := cat [[v0_1], [vI p0.Next], [v0_2], [v0_3], enc p0.Head]) hE Za ld rfl Qd rfl (hM.rawAt (pre := [])) (ZC (cl1 (n := 1) (m := 35) rfl (cl1 (n := 1) (m := 34) rfl (cl1 (n := 1) (m := 33) rfl (cl1 (n := 1) (m := 32) rfl (cl1 (n := 32) (m := 0) (Flat.len _) cl0)))))) fun a hE => ⟨Kept.refl _ _, _, _, rfl, hE, rfl⟩
    ·exact fun a w ux14 hE hM hp => Zg hE Za ld rfl (Ut) fun a hE => ⟨Kept.refl _ _, _, _, rfl, hE, rfl⟩
    ·intro a w ux14 hE hM hp
     have f1 : ux14 1 = (ptr b1 (0 + 2)) := hp 0 _ rfl rfl
     exact Zq (v := v0_2) hE Za ld (lk rfl f1) QV rfl (At.cat (pre := [[v0_1], [vI p0.Next]]) (hM.rawAt (pre := [])) (cl1 (n := 1) (m := 1) rfl (cl1 (n := 1) (m := 0) rfl cl0))) fun a hE => ⟨Kept.refl _ _, _, _, rfl, hE, rfl⟩
    ·exact fun a w ux14 hE hM hp => Zd hE Za ld rfl fun a hE => ⟨Kept.refl _ _, _, _, rfl, hE, rfl⟩
    ·intro a w ux14 hE hM hp
     have f2 : ux14 2 = v0_2 := hp 0 _ rfl rfl
     have f3 : ux14 3 = (vI r7) := hp 1 _ rfl rfl
     exact ZN hE Za ld (lk rfl f2) (lk rfl f3) Tryz.underlying33 Wx (hM.rd hv0_2) hi17.1 fun a hE => ⟨Kept.refl _ _, _, _, rfl, hE, rfl⟩
    ·intro a w ux14 hE hM hp
     have f4 : ux14 4 = (ptr (sb v0_2) (so v0_2 + (r7).toNat * 52)) := hp 0 _ rfl rfl
     exact Zm (cs := cat [[vI x15.Number], [vI x15.Version], enc x15.Nonce, [u21], [u23], enc x15.Tag]) hE Za ld (lk rfl f4) Wx rfl (hM.atk hA20 (Tc hv0_2 hi17.2)) (ZC (cl1 (n := 1) (m := 51) rfl (cl1 (n := 1) (m := 50) rfl (cl1 (n := 16) (m := 34) (Flat.len _) (cl1 (n := 1) (m := 33) rfl (cl1 (n := 1) (m := 32) rfl (cl1 (n := 32) (m := 0) (Flat.len _) cl0))))))) fun a hE => ⟨Kept.refl _ _, _, _, rfl, hE, rfl⟩
    ·intro a w ux14 hE hM hp
     have f0 : ux14 0 = (Value.agg (cat [[v0_1], [vI p0.Next], [v0_2], [v0_3], enc p0.Head]).toArray) := hp 0 _ rfl rfl
     have f5 : ux14 5 = (Value.agg (cat [[vI x15.Number], [vI x15.Version], enc x15.Nonce, [u21], [u23], enc x15.Tag]).toArray) := hp 1 _ rfl rfl
     refine Zs hE Za ld (ZY (ZS (lk rfl f0) (ZS (lk rfl f5) YT))) cb55 (Am _ p0 v0_1 (hM.rdo hv0_1) v0_2 (hM.rdo hv0_2) v0_3 (hM.rdo hv0_3) x15 u21 (hM.rdo h22) u23 (hM.rdo h24) r25 e26) ?_
     rintro v w a ⟨rfl, hK⟩ hE
     exact ⟨hK, _, _, rfl, hE, rfl⟩
    ·exact fun a w ux14 hE hM hp => Zg hE Za ld rfl (Ut) fun a hE => ⟨Kept.refl _ _, _, _, rfl, hE, rfl⟩
    ·intro a w ux14 hE hM hp
     have f7 : ux14 7 = (ptr b1 (0 + 2)) := hp 0 _ rfl rfl
     exact Zq (v := v0_2) hE Za ld (lk rfl f7) QV rfl (At.cat (pre := [[v0_1], [vI p0.Next]]) (hM.rawAt (pre := [])) (cl1 (n := 1) (m := 1) rfl (cl1 (n := 1) (m := 0) rfl cl0))) fun a hE => ⟨Kept.refl _ _, _, _, rfl, hE, rfl⟩
    ·exact fun a w ux14 hE hM hp => Zd hE Za ld rfl fun a hE => ⟨Kept.refl _ _, _, _, rfl, hE, rfl⟩
    ·intro a w ux14 hE hM hp
     have f8 : ux14 8 = v0_2 := hp 0 _ rfl rfl
     have f9 : ux14 9 = (vI r7) := hp 1 _ rfl rfl
     exact ZN hE Za ld (lk rfl f8) (lk rfl f9) Tryz.underlying33 Wx (hM.rd hv0_2) hi29.1 fun a hE => ⟨Kept.refl _ _, _, _, rfl, hE, rfl⟩
    ·intro a w ux14 hE hM hp
     have f10 : ux14 10 = (ptr (sb v0_2) (so v0_2 + (r7).toNat * 52)) := hp 0 _ rfl rfl
     exact Zg hE Za ld (lk rfl f10) (J9) fun a hE => ⟨Kept.refl _ _, _, _, rfl, hE, rfl⟩
    ·intro a w ux14 hE hM hp
     have f11 : ux14 11 = (ptr (sb v0_2) (so v0_2 + (r7).toNat * 52 + 20)) := hp 0 _ rfl rfl
     exact Zm (cs := enc x27.Tag) hE Za ld (lk rfl f11) Yu rfl (At.cat (pre := [[vI x27.Number], [vI x27.Version], enc x27.Nonce, [u33], [u35]]) (hM.atk hA32 (Tc hv0_2 hi29.2)) (cl1 (n := 1) (m := 19) rfl (cl1 (n := 1) (m := 18) rfl (cl1 (n := 16) (m := 2) (Flat.len _) (cl1 (n := 1) (m := 1) rfl (cl1 (n := 1) (m := 0) rfl cl0)))))) (Flat.len _) fun a hE => ⟨Kept.refl _ _, _, _, rfl, hE, rfl⟩
    ·intro a w ux14 hE hM hp
     have f6 : ux14 6 = (Value.agg (enc r25).toArray) := hp 0 _ rfl rfl
     have f12 : ux14 12 = (Value.agg (enc x27.Tag).toArray) := hp 1 _ rfl rfl
     exact s_neA hE Za ld (lk rfl f6) (lk rfl f12) (zM Tryz.underlying29 ty5 rfl false rfl (by decide) (AG Tryz.underlying5)) (by decide) (by kernel_rfl) fun a hE => ⟨Kept.refl _ _, _, _, rfl, hE, rfl⟩
    ·intro a w ux14 hE hM hg
     have hE := hE.sub (e' := [(28, (vT (!decide (r25 = x27.Tag)))), (0, (Value.agg (cat [[v0_1], [vI p0.Next], [v0_2], [v0_3], enc p0.Head]).toArray)), (1, vI p1), (2, (ptr b1 0)), (4, (Value.slice none 0 0)), (5, vI 0), (6, vI r7), (7, (Value.agg (cat [[v0_1], [vI p0.Next], [v0_2], [v0_3], enc p0.Head]).toArray)), (8, vT r3), (9, (vT (!r3))), (10, (Value.agg (cat [[v0_1], [vI p0.Next], [v0_2], [v0_3], enc p0.Head]).toArray)), (11, vI p1), (12, vI r7), (13, vI r7), (14, (vT (decide (r7 < 0))))]) ⟨lk rfl (hg 13 (by decide)), rfl, rfl, rfl, rfl, rfl, rfl, rfl, rfl, rfl, rfl, rfl, rfl, rfl, rfl, trivial⟩
     refine Zi ?_
     have ht37 := Option.some.inj hl12
     subst ht37
     refine Zl ?_
     exact ⟨hE.sub ⟨rfl, rfl, rfl, trivial⟩, hM⟩
   ·skip
    rintro a w ⟨hE, hM⟩
    refine Zv hE rfl ?_ ?_
    ·intro hb38
     have hF13 := ZA hF13 hb38
     refine Zc (Ze hE Za ld rfl fun a hE => Ze hE Za ld rfl fun a hE => Zf ?_)
     have hM := M.nilS (α := UInt8) NoB noB hM
     have hr := Option.some.inj hF13
     subst hr
     have hM := M.fst (l := [_]) hM
     exact wp_ret (ZE (TQ hE rfl (Zu hE rfl) (Zu hE rfl) ⟨_, rfl, (Value.slice none 0 0), rfl, hM.outF (Xu Xo), hM.kept⟩))
    ·intro hb38
     have hF13 := ZB hF13 hb38
     refine wp_skip (Zz ?_)
     obtain ⟨j40, hl41, hF42⟩ := bind_some hF13
     refine ZU (fun a w => ∃ (u43 : Value), Env 42 a [(4, u43), (5, vI j40.2)] ∧ M (Old w0) w0 w [osl NoB (j40.1 : List UInt8) u43]) ?_ ?_
     ·skip
      obtain ⟨x46, e47, hl41⟩ := bind_some hl41
      have hi48 := ZO e47
      obtain ⟨cs49, hs50, hA51⟩ := Vn hv0_2 hi48.2 -- ^
      obtain ⟨u52, u54, rfl, h53, h55⟩ := Y8 hs50 -- ^
      obtain ⟨x56, e57, hl41⟩ := bind_some hl41
      have hi58 := ZO e57
      obtain ⟨cs59, hs60, hA61⟩ := Vn hv0_2 hi58.2 -- ^
      obtain ⟨u62, u64, rfl, h63, h65⟩ := Y8 hs60 -- ^
      refine Yr (n := 42) (hd := [_, _, _, _, _, _, _, _, _, _, _, _]) (tl := [_, _, _]) YN rfl rfl [29, 30, 31, 32, 33, 34, 35, 36, 37, 38, 39, 40] (by decide) (fun w => M (Old w0) w0 w [raw b1 (cat [[v0_1], [vI p0.Next], [v0_2], [v0_3], enc p0.Head])]) (fun j => ([fun v _ => v = (Value.agg (cat [[v0_1], [vI p0.Next], [v0_2], [v0_3], enc p0.Head]).toArray), fun v _ => v = (ptr b1 (0 + 2)), fun v _ => v = v0_2, fun v _ => v = (vI r7), fun v _ => v = (ptr (sb v0_2) (so v0_2 + (r7).toNat * 52)), fun v _ => v = (Value.agg (cat [[vI x46.Number], [vI x46.Version], enc x46.Nonce, [u52], [u54], enc x46.Tag]).toArray), fun v _ => v = (ptr b1 (0 + 2)), fun v _ => v = v0_2, fun v _ => v = (vI r7), fun v _ => v = (ptr (sb v0_2) (so v0_2 + (r7).toNat * 52)), fun v _ => v = (ptr (sb v0_2) (so v0_2 + (r7).toNat * 52 + 19)), fun v _ => v = u64] : List (Value → World → Prop)).getD j (fun _ _ => True)) (fun _ _ h hk => h.keep hk) (gup (Zk (Zk (Zk (Zk (Zk (Zk (Zk (Zk (Zk (Zk (Zk (Zk VK))))))))))))) hE hM.drew (ZL (Zb ?_ (Zb ?_ (Zb ?_ (Zb ?_ (Zb ?_ (Zb ?_ (Zb ?_ (Zb ?_ (Zb ?_ (Zb ?_ (Zb ?_ (Zb ?_ ZF))))))))))))) ?_
      ·exact fun a w ux45 hE hM hp => Zm (cs := cat [[v0_1], [vI p0.Next], [v0_2], [v0_3], enc p0.Head]) hE Za ld rfl Qd rfl (hM.rawAt (pre := [])) (ZC (cl1 (n := 1) (m := 35) rfl (cl1 (n := 1) (m := 34) rfl (cl1 (n := 1) (m := 33) rfl (cl1 (n := 1) (m := 32) rfl (cl1 (n := 32) (m := 0) (Flat.len _) cl0)))))) fun a hE => ⟨Kept.refl _ _, _, _, rfl, hE, rfl⟩
      ·exact fun a w ux45 hE hM hp => Zg hE Za ld rfl (Ut) fun a hE => ⟨Kept.refl _ _, _, _, rfl, hE, rfl⟩
      ·intro a w ux45 hE hM hp
       have f1 : ux45 1 = (ptr b1 (0 + 2)) := hp 0 _ rfl rfl
       exact Zq (v := v0_2) hE Za ld (lk rfl f1) QV rfl (At.cat (pre := [[v0_1], [vI p0.Next]]) (hM.rawAt (pre := [])) (cl1 (n := 1) (m := 1) rfl (cl1 (n := 1) (m := 0) rfl cl0))) fun a hE => ⟨Kept.refl _ _, _, _, rfl, hE, rfl⟩
      ·exact fun a w ux45 hE hM hp => Zd hE Za ld rfl fun a hE => ⟨Kept.refl _ _, _, _, rfl, hE, rfl⟩
      ·intro a w ux45 hE hM hp
       have f2 : ux45 2 = v0_2 := hp 0 _ rfl rfl
       have f3 : ux45 3 = (vI r7) := hp 1 _ rfl rfl
       exact ZN hE Za ld (lk rfl f2) (lk rfl f3) Tryz.underlying33 Wx (hM.rd hv0_2) hi48.1 fun a hE => ⟨Kept.refl _ _, _, _, rfl, hE, rfl⟩
      ·intro a w ux45 hE hM hp
       have f4 : ux45 4 = (ptr (sb v0_2) (so v0_2 + (r7).toNat * 52)) := hp 0 _ rfl rfl
       exact Zm (cs := cat [[vI x46.Number], [vI x46.Version], enc x46.Nonce, [u52], [u54], enc x46.Tag]) hE Za ld (lk rfl f4) Wx rfl (hM.atk hA51 (Tc hv0_2 hi48.2)) (ZC (cl1 (n := 1) (m := 51) rfl (cl1 (n := 1) (m := 50) rfl (cl1 (n := 16) (m := 34) (Flat.len _) (cl1 (n := 1) (m := 33) rfl (cl1 (n := 1) (m := 32) rfl (cl1 (n := 32) (m := 0) (Flat.len _) cl0))))))) fun a hE => ⟨Kept.refl _ _, _, _, rfl, hE, rfl⟩
      ·exact fun a w ux45 hE hM hp => Zg hE Za ld rfl (Ut) fun a hE => ⟨Kept.refl _ _, _, _, rfl, hE, rfl⟩
      ·intro a w ux45 hE hM hp
       have f6 : ux45 6 = (ptr b1 (0 + 2)) := hp 0 _ rfl rfl
       exact Zq (v := v0_2) hE Za ld (lk rfl f6) QV rfl (At.cat (pre := [[v0_1], [vI p0.Next]]) (hM.rawAt (pre := [])) (cl1 (n := 1) (m := 1) rfl (cl1 (n := 1) (m := 0) rfl cl0))) fun a hE => ⟨Kept.refl _ _, _, _, rfl, hE, rfl⟩
      ·exact fun a w ux45 hE hM hp => Zd hE Za ld rfl fun a hE => ⟨Kept.refl _ _, _, _, rfl, hE, rfl⟩
      ·intro a w ux45 hE hM hp
       have f7 : ux45 7 = v0_2 := hp 0 _ rfl rfl
       have f8 : ux45 8 = (vI r7) := hp 1 _ rfl rfl
       exact ZN hE Za ld (lk rfl f7) (lk rfl f8) Tryz.underlying33 Wx (hM.rd hv0_2) hi58.1 fun a hE => ⟨Kept.refl _ _, _, _, rfl, hE, rfl⟩
      ·intro a w ux45 hE hM hp
       have f9 : ux45 9 = (ptr (sb v0_2) (so v0_2 + (r7).toNat * 52)) := hp 0 _ rfl rfl
       exact Zg hE Za ld (lk rfl f9) (QA) fun a hE => ⟨Kept.refl _ _, _, _, rfl, hE, rfl⟩
      ·intro a w ux45 hE hM hp
       have f10 : ux45 10 = (ptr (sb v0_2) (so v0_2 + (r7).toNat * 52 + 19)) := hp 0 _ rfl rfl
       exact Zq (v := u64) hE Za ld (lk rfl f10) Ua rfl (At.cat (pre := [[vI x56.Number], [vI x56.Version], enc x56.Nonce, [u62]]) (hM.atk hA61 (Tc hv0_2 hi58.2)) (cl1 (n := 1) (m := 18) rfl (cl1 (n := 1) (m := 17) rfl (cl1 (n := 16) (m := 1) (Flat.len _) (cl1 (n := 1) (m := 0) rfl cl0))))) fun a hE => ⟨Kept.refl _ _, _, _, rfl, hE, rfl⟩
      ·intro a w ux45 hE hM hg
       have hE := hE.sub (e' := [(29, (Value.agg (cat [[v0_1], [vI p0.Next], [v0_2], [v0_3], enc p0.Head]).toArray)), (34, (Value.agg (cat [[vI x46.Number], [vI x46.Version], enc x46.Nonce, [u52], [u54], enc x46.Tag]).toArray)), (40, u64), (2, (ptr b1 0)), (6, vI r7), (28, vT j11)]) ⟨lk rfl (hg 0 (by decide)), lk rfl (hg 5 (by decide)), lk rfl (hg 11 (by decide)), rfl, rfl, rfl, trivial⟩
       obtain ⟨r66, e67, hl41⟩ := bind_some hl41
       refine Zs hE Za ld rfl cb88 (Hb _ p0 v0_1 (hM.rdo hv0_1) v0_2 (hM.rdo hv0_2) v0_3 (hM.rdo hv0_3) x46 u52 (hM.rdo h53) u54 (hM.rdo h55) x56.Body u64 (hM.rdo h65) r66 e67) ?_
       rintro u68 w a ⟨_, rfl, hFr, hK⟩ hE
       have hM := hM.add hK hFr
       refine Ze hE Za ld rfl fun a hE => Ze hE Za ld rfl fun a hE => Zi ?_
       have ht69 := Option.some.inj hl41
       subst ht69
       refine Zl ?_
       have hM := M.fst (l := [_]) hM
       exact ⟨u68, hE.sub ⟨rfl, rfl, trivial⟩, hM⟩
     ·skip
      rintro a w ⟨u43, hE, hM⟩
      have hr := Option.some.inj hF42
      subst hr
      exact wp_ret (TQ hE rfl (Zu hE rfl) (Zu hE rfl) ⟨_, rfl, u43, rfl, hM.outF (Xu Xo), hM.kept⟩)
noncomputable def Yx (p0 : (List (Vector UInt8 16))) : Option (Int) :=
 some (p0.length : Int)
theorem XC (w0 : World) (p0 : (List (Vector UInt8 16))) (v0_1 : Value) (hv0_1 : Ro w0 p0 [v0_1]) (r : Int) (hF : Yx p0 = some r) :
  Calls Tryz.prog 112 [v0_1].toArray w0 (fun en w' => ∃ v, en = .returned v ∧ (v = (vI r) ∧ Kept (Old w0) w0 w')) := by
 refine ZD (n := 5) Tryz.func112 rfl rfl (Nat.le_of_ble_eq_true rfl) rfl ?_
 intro a hE
 have hM := M.start w0
 unfold Yx at hF
 refine Zc (Ze hE Za ld rfl fun a hE => Zf (Zc (Zd hE Za ld rfl fun a hE => Z6 hE Za ld rfl Tryz.underlying32 (hM.rd hv0_1) fun a hE => Ze hE Za ld rfl fun a hE => Zf ?_)))
 have hr := Option.some.inj hF
 subst hr
 exact wp_ret (Zy hE rfl (Zu hE rfl) ⟨_, rfl, rfl, hM.kept⟩)
noncomputable def YU (p0 : Int) (p1 : Int) (p2 : Int) : Option (Bool) :=
 (if (decide (p1 ≤ p0)) = true then (some (decide (p0 ≤ p2))) else (some false) : Option (Bool)).bind fun j1 => some j1
theorem YV (w0 : World) (p0 : Int) (p1 : Int) (p2 : Int) (r : Bool) (hF : YU p0 p1 p2 = some r) :
  Calls Tryz.prog 157 [vI p0, vI p1, vI p2].toArray w0 (fun en w' => ∃ v, en = .returned v ∧ (v = (vT r) ∧ Kept (Old w0) w0 w')) := by
 refine ZD (n := 15) Tryz.func157 rfl rfl (Nat.le_of_ble_eq_true rfl) rfl ?_
 intro a hE
 have hM := M.start w0
 unfold YU at hF
 refine Zc (Ze hE Za ld rfl fun a hE => Zf ?_)
 obtain ⟨j1, hl2, hF3⟩ := bind_some hF
 refine ZU (fun a w => Env 15 a [(6, vT j1)] ∧ M (Old w0) w0 w []) ?_ ?_
 ·skip
  refine wp_region_lit (Zd hE Za ld rfl fun a hE => Zd hE Za ld rfl fun a hE => Zh hE Za ld rfl rfl rfl fun a hE => Zd hE Za ld rfl ?_); intro a hE
  refine Wc (decide (p1 ≤ p0)) (fun hb4 => ?_) (fun hb4 => ?_)
  ·have hl2 := ZA hl2 hb4
   refine Zd hE (Zx hE rfl (lkb rfl hb4)) (by decide) rfl fun a hE => Zd hE (Zx hE rfl (lkb rfl hb4)) (by decide) rfl fun a hE => Zh hE (Zx hE rfl (lkb rfl hb4)) (by decide) rfl rfl rfl fun a hE => Z9 hE Za ld (lkb rfl hb4) rfl fun a hE => Ze hE Za ld rfl fun a hE => Zi ?_
   have ht5 := Option.some.inj hl2
   subst ht5
   refine Zl ?_
   exact ⟨hE.sub ⟨rfl, trivial⟩, hM⟩
  ·have hl2 := ZB hl2 hb4
   refine Zw hE rfl (lkb rfl hb4) rfl (by decide) fun a hE => Zw hE rfl (lkb rfl hb4) rfl (by decide) fun a hE => Zw hE rfl (lkb rfl hb4) rfl (by decide) fun a hE => YL hE Za ld (lkb rfl hb4) rfl fun a hE => Ze hE Za ld rfl fun a hE => Zi ?_
   have ht6 := Option.some.inj hl2
   subst ht6
   refine Zl ?_
   exact ⟨hE.sub ⟨rfl, trivial⟩, hM⟩
 ·skip
  rintro a w ⟨hE, hM⟩
  have hr := Option.some.inj hF3
  subst hr
  exact wp_ret (Zy hE rfl (Zu hE rfl) ⟨_, rfl, rfl, hM.kept⟩)
noncomputable def Yw (p0 : (List GEvent)) (p1 : GEvent → Option (Bool)) (s5 : Int) : Option (Fl Int (Fl Unit Int)) :=
 if (decide (s5 < (p0.length : Int))) = true then ((idx p0 s5).bind fun x10 => ((p1 x10)).bind fun r13 => if r13 = true then (some (Fl.ex (Fl.ex s5))) else (some (Fl.nx (wr (s5 + 1))))) else (some (Fl.ex (Fl.nx ())))
noncomputable def Yh (p0 : (List GEvent)) (p1 : GEvent → Option (Bool)) : Option (Int) :=
 (ZG (Yw p0 p1) 0 : Option (Fl Unit Int)).bind fun j1 => j1.el (fun s4 => some (-1)) (fun r => some r)
theorem Uu (w0 : World) (p0 : (List GEvent)) (v0_1 : Value) (hv0_1 : Ro w0 p0 [v0_1]) (p1 : GEvent → Option (Bool)) (k1 : Nat) (q1 : List Value) (hcb1 : Callable Tryz.prog k1) (hg1 : ∀ (w2 : World), Kept (Old w0) w0 w2 → ∀ (z0 : GEvent) (zr : Bool), p1 z0 = some zr → Calls Tryz.prog k1 ([(Value.agg (enc z0).toArray)] ++ q1).toArray w2 (fun en w3 => ∃ v, en = .returned v ∧ (v = (vT zr) ∧ Kept (Old w2) w2 w3))) (r : Int) (hF : Yh p0 p1 = some r) :
  Calls Tryz.prog 202 [v0_1, (Value.func (.func k1) #[] q1.toArray)].toArray w0 (fun en w' => ∃ v, en = .returned v ∧ (v = (vI r) ∧ Kept (Old w0) w0 w')) := by
 refine ZD (n := 19) Tryz.func202 rfl rfl (Nat.le_of_ble_eq_true rfl) rfl ?_
 intro a hE
 have hM := M.start w0
 unfold Yh at hF
 refine Zc (Ze hE Za ld rfl fun a hE => Zf (wp_seq (Zc (Zd hE Za ld rfl fun a hE => Z6 hE Za ld rfl Tryz.underlying34 (hM.rd hv0_1) fun a hE => Zd hE Za ld rfl fun a hE => Zf ?_))))
 obtain ⟨j1, hl2, hF3⟩ := bind_some hF
 refine ZR (fun a w => ∃ s4 : Unit, j1 = Fl.nx s4 ∧ Env 19 a [] ∧ M (Old w0) w0 w []) ?_ ?_
 ·skip
  refine wp_block ?_
  refine ZK (fun (s5 : Int) a w => Env 19 a [(0, v0_1), (1, (Value.func (.func k1) #[] q1.toArray)), (7, (vI (p0.length : Int))), (8, vI s5)] ∧ M (Old w0) w0 w []) hl2 ⟨hE.sub ⟨rfl, rfl, rfl, rfl, trivial⟩, hM⟩ ?_
  rintro s5 a w ⟨hE, hM⟩ o8 hs6 hx7
  unfold Yw at hs6
  refine Zc (Zh hE Za ld rfl rfl rfl fun a hE => Zf (wp_seq ?_))
  refine Zv hE rfl ?_ ?_
  ·intro hb9
   have hs6 := ZA hs6 hb9
   refine wp_skip (Zz (wp_seq (wp_block (Zc (Zd hE Za ld rfl fun a hE => Ze hE Za ld rfl fun a hE => Zf (Zc (Zd hE Za ld rfl fun a hE => Zd hE Za ld rfl fun a hE => Zd hE Za ld rfl ?_))))))); intro a hE
   obtain ⟨x10, e11, hs6⟩ := bind_some hs6
   have hi12 := ZO e11
   refine ZN hE Za ld rfl rfl Tryz.underlying34 UJ (hM.rd hv0_1) hi12.1 fun a hE => Zm (cs := enc x10) hE Za ld rfl UJ rfl (Xa (hM.rd hv0_1) hi12.2) (ZC (cl1 (n := 1) (m := 33) rfl (cl1 (n := 1) (m := 32) rfl (cl1 (n := 32) (m := 0) (Flat.len _) cl0)))) ?_; intro a hE
   obtain ⟨r13, e14, hs6⟩ := bind_some hs6
   refine zB (vs := [(Value.agg (enc x10).toArray)]) hE Za ld rfl rfl hcb1 (hg1 _ hM.kept x10 r13 e14) ?_
   rintro v w a ⟨rfl, hK⟩ hE
   have hM := hM.keep hK
   refine Zf ?_
   refine Zv hE rfl ?_ ?_
   ·intro hb15
    have hs6 := ZA hs6 hb15
    refine Zc (Zd hE Za ld rfl fun a hE => Ze hE Za ld rfl fun a hE => Zf ?_)
    have ht16 := hx7 _ (Option.some.inj hs6).symm
    subst ht16
    have hr := Option.some.inj hF3
    subst hr
    exact wp_ret (Wl (ZE (ZE (Wl (ZE (ZE (Zy hE rfl (Zu hE rfl) ⟨_, rfl, rfl, hM.kept⟩)))))))
   ·intro hb15
    have hs6 := ZB hs6 hb15
    refine wp_skip (Ye (Zz (wp_region_lit (Zh hE Za ld rfl rfl rfl fun a hE => Zd hE Za ld rfl fun a hE => Zi (Zl ?_)))))
    exact ⟨_, (Option.some.inj hs6).symm, hE.sub ⟨rfl, rfl, rfl, rfl, trivial⟩, hM⟩
  ·intro hb9
   have hs6 := ZB hs6 hb9
   refine wp_exit (Zp (Zp (Yc ?_)))
   have ht17 := hx7 _ (Option.some.inj hs6).symm
   subst ht17
   refine Zl ?_
   exact ⟨(), rfl, hE.sub trivial, hM⟩
 ·skip
  rintro a w ⟨s4, ht, hE, hM⟩
  subst ht
  have hF3 := Qo hF3
  refine Zz (Zc (Ze hE Za ld rfl fun a hE => Zf ?_))
  have hr := Option.some.inj hF3
  subst hr
  exact wp_ret (Zy hE rfl (Zu hE rfl) ⟨_, rfl, rfl, hM.kept⟩)
noncomputable def Z0 (p0 : (List GEvent)) (p1 : GEvent → Option (Bool)) : Option (Bool) :=
 (Yh p0 p1).bind fun r1 => some (decide (r1 ≥ 0))
theorem VU (w0 : World) (p0 : (List GEvent)) (v0_1 : Value) (hv0_1 : Ro w0 p0 [v0_1]) (p1 : GEvent → Option (Bool)) (k1 : Nat) (q1 : List Value) (hcb1 : Callable Tryz.prog k1) (hg1 : ∀ (w2 : World), Kept (Old w0) w0 w2 → ∀ (z0 : GEvent) (zr : Bool), p1 z0 = some zr → Calls Tryz.prog k1 ([(Value.agg (enc z0).toArray)] ++ q1).toArray w2 (fun en w3 => ∃ v, en = .returned v ∧ (v = (vT zr) ∧ Kept (Old w2) w2 w3))) (r : Bool) (hF : Z0 p0 p1 = some r) :
  Calls Tryz.prog 170 [v0_1, (Value.func (.func k1) #[] q1.toArray)].toArray w0 (fun en w' => ∃ v, en = .returned v ∧ (v = (vT r) ∧ Kept (Old w0) w0 w')) := by
 refine ZD (n := 9) Tryz.func170 rfl rfl (Nat.le_of_ble_eq_true rfl) rfl ?_
 intro a hE
 have hM := M.start w0
 unfold Z0 at hF
 refine Zc (Ze hE Za ld rfl fun a hE => Zf (Zc (Zd hE Za ld rfl fun a hE => Zd hE Za ld rfl ?_))); intro a hE
 obtain ⟨r1, e2, hF⟩ := bind_some hF
 refine Zs hE Za ld rfl cb202 (Uu _ p0 v0_1 (hM.rdo hv0_1) p1 k1 q1 hcb1 (fun w2 hk2 => hg1 w2 (hM.kept.trans hk2)) r1 e2) ?_
 rintro v w a ⟨rfl, hK⟩ hE
 have hM := hM.keep hK
 refine Zh hE Za ld rfl rfl rfl fun a hE => Ze hE Za ld rfl fun a hE => Zf ?_
 have hr := Option.some.inj hF
 subst hr
 exact wp_ret (Zy hE rfl (Zu hE rfl) ⟨_, rfl, rfl, hM.kept⟩)
noncomputable def To (p0 : Int) : Option (Bool) :=
 (YU p0 0 1000000).bind fun r1 => some r1
theorem HZ (w0 : World) (p0 : Int) (r : Bool) (hF : To p0 = some r) :
  Calls Tryz.prog 203 [vI p0].toArray w0 (fun en w' => ∃ v, en = .returned v ∧ (v = (vT r) ∧ Kept (Old w0) w0 w')) := by
 refine ZD (n := 5) Tryz.func203 rfl rfl (Nat.le_of_ble_eq_true rfl) rfl ?_
 intro a hE
 have hM := M.start w0
 unfold To at hF
 refine Zc (Ze hE Za ld rfl fun a hE => Zf (Zc (Zd hE Za ld rfl ?_))); intro a hE
 obtain ⟨r1, e2, hF⟩ := bind_some hF
 refine Zs hE Za ld rfl KT (YV _ p0 0 1000000 r1 e2) ?_
 rintro v w a ⟨rfl, hK⟩ hE
 have hM := hM.keep hK
 refine Ze hE Za ld rfl fun a hE => Zf ?_
 have hr := Option.some.inj hF
 subst hr
 exact wp_ret (Zy hE rfl (Zu hE rfl) ⟨_, rfl, rfl, hM.kept⟩)
noncomputable def UQ (p0 : GEvent) : Option (Bool) :=
 ((YU p0.Kind 1 4).bind fun r6 => if r6 = true then ((To p0.Number).bind fun r9 => some r9) else (some false) : Option (Bool)).bind fun j3 => some j3
theorem BY (w0 : World) (p0 : GEvent) (r : Bool) (hF : UQ p0 = some r) :
  Calls Tryz.prog 172 [(Value.agg (enc p0).toArray)].toArray w0 (fun en w' => ∃ v, en = .returned v ∧ (v = (vT r) ∧ Kept (Old w0) w0 w')) := by
 refine ZD (n := 11) Tryz.func172 rfl rfl (Nat.le_of_ble_eq_true rfl) rfl ?_
 intro a hE
 have hM := M.start w0
 unfold UQ at hF
 refine Zc (ZX (cs := cat [[vI p0.Kind], [vI p0.Number], enc p0.Tag]) hE hM Za ld rfl rfl fun b1 w a hM hE => Ze hE Za ld rfl fun a hE => Zf ?_)
 obtain ⟨j3, hl4, hF5⟩ := bind_some hF
 refine ZU (fun a w => Env 11 a [(2, vT j3)] ∧ M (Old w0) w0 w []) ?_ ?_
 ·skip
  refine wp_region_lit (Zg hE Za ld rfl (KJ) fun a hE => Zq (v := (vI p0.Kind)) hE Za ld rfl ty2 rfl (At.cat (pre := []) (hM.rawAt (pre := [])) cl0) ?_); intro a hE
  obtain ⟨r6, e7, hl4⟩ := bind_some hl4
  refine Zs hE Za ld rfl KT (YV _ p0.Kind 1 4 r6 e7) ?_
  rintro v w a ⟨rfl, hK⟩ hE
  have hM := hM.keep hK
  refine Zd hE Za ld rfl ?_; intro a hE
  refine Wc r6 (fun hb8 => ?_) (fun hb8 => ?_)
  ·have hl4 := ZA hl4 hb8
   refine Zg hE (Zx hE rfl (lkb rfl hb8)) (by decide) rfl (KK) fun a hE => Zq (v := (vI p0.Number)) hE (Zx hE rfl (lkb rfl hb8)) (by decide) rfl ty2 rfl (At.cat (pre := [[vI p0.Kind]]) (hM.rawAt (pre := [])) (cl1 (n := 1) (m := 0) rfl cl0)) ?_; intro a hE
   obtain ⟨r9, e10, hl4⟩ := bind_some hl4
   refine Zs hE (Zx hE rfl (lkb rfl hb8)) (by decide) rfl cb203 (HZ _ p0.Number r9 e10) ?_
   rintro v w a ⟨rfl, hK⟩ hE
   have hM := hM.keep hK
   refine Z9 hE Za ld (lkb rfl hb8) rfl fun a hE => Ze hE Za ld rfl fun a hE => Zi ?_
   have ht11 := Option.some.inj hl4
   subst ht11
   refine Zl ?_
   have hM := M.fst (l := []) hM
   exact ⟨hE.sub ⟨rfl, trivial⟩, hM⟩
  ·have hl4 := ZB hl4 hb8
   refine Zw hE rfl (lkb rfl hb8) rfl (by decide) fun a hE => Zw hE rfl (lkb rfl hb8) rfl (by decide) fun a hE => Zw hE rfl (lkb rfl hb8) rfl (by decide) fun a hE => YL hE Za ld (lkb rfl hb8) rfl fun a hE => Ze hE Za ld rfl fun a hE => Zi ?_
   have ht12 := Option.some.inj hl4
   subst ht12
   refine Zl ?_
   have hM := M.fst (l := []) hM
   exact ⟨hE.sub ⟨rfl, trivial⟩, hM⟩
 ·skip
  rintro a w ⟨hE, hM⟩
  have hr := Option.some.inj hF5
  subst hr
  exact wp_ret (Zy hE rfl (Zu hE rfl) ⟨_, rfl, rfl, hM.kept⟩)
noncomputable def Vy (p0 : GEvent) : Option (Bool) :=
 (UQ p0).bind fun r3 => some (!r3)
theorem Hc (w0 : World) (p0 : GEvent) (r : Bool) (hF : Vy p0 = some r) :
  Calls Tryz.prog 171 [(Value.agg (enc p0).toArray)].toArray w0 (fun en w' => ∃ v, en = .returned v ∧ (v = (vT r) ∧ Kept (Old w0) w0 w')) := by
 refine ZD (n := 6) Tryz.func171 rfl rfl (Nat.le_of_ble_eq_true rfl) rfl ?_
 intro a hE
 have hM := M.start w0
 unfold Vy at hF
 refine Zc (ZX (cs := cat [[vI p0.Kind], [vI p0.Number], enc p0.Tag]) hE hM Za ld rfl rfl fun b1 w a hM hE => Ze hE Za ld rfl fun a hE => Zf (Zc (Zm (cs := enc p0) hE Za ld rfl UJ rfl (hM.rawAt (pre := [])) (ZC (cl1 (n := 1) (m := 33) rfl (cl1 (n := 1) (m := 32) rfl (cl1 (n := 32) (m := 0) (Flat.len _) cl0)))) ?_))); intro a hE
 obtain ⟨r3, e4, hF⟩ := bind_some hF
 refine Zs hE Za ld rfl cb172 (BY _ p0 r3 e4) ?_
 rintro v w a ⟨rfl, hK⟩ hE
 have hM := hM.keep hK
 refine WA hE Za ld rfl fun a hE => Ze hE Za ld rfl fun a hE => Zf ?_
 have hr := Option.some.inj hF
 subst hr
 have hM := M.fst (l := []) hM
 exact wp_ret (Zy hE rfl (Zu hE rfl) ⟨_, rfl, rfl, hM.kept⟩)
noncomputable def WS (p0 : GVault) (s24 : Int) : Option (Fl Int (Fl Unit Bool)) :=
 if (decide (s24 < (p0.Records.length : Int))) = true then ((idx p0.Records s24).bind fun x29 => ((YU x29.Number 1 (wr (p0.Next - 1))).bind fun r45 => if (!r45) = true then (some true) else (if (decide (s24 > 0)) = true then ((idx p0.Records (wr (s24 - 1))).bind fun x50 => some (decide (x50.Number ≥ x29.Number))) else (some false)) : Option (Bool)).bind fun j41 => if j41 = true then (some (Fl.ex (Fl.ex false))) else (((Yx p0.Keys).bind fun r68 => (YU x29.Version 0 (wr (r68 - 1))).bind fun r70 => if (!r70) = true then (some true) else (if (decide ((x29.Label.length : Int) > 32)) = true then (some true) else (some (decide ((x29.Body.length : Int) > 200)))) : Option (Bool)).bind fun j64 => if j64 = true then (some (Fl.ex (Fl.ex false))) else (some (Fl.nx (wr (s24 + 1)))))) else (some (Fl.ex (Fl.nx ())))
noncomputable def UL (p0 : GVault) : Option (Bool) :=
 ((Yx p0.Keys).bind fun r6 => (YU r6 1 8).bind fun r8 => if (!r8) = true then (some true) else ((YU p0.Next 1 1000000).bind fun r12 => if (!r12) = true then (some true) else (if (decide ((p0.Records.length : Int) > 12)) = true then (some true) else (some (decide ((p0.Events.length : Int) > 60))))) : Option (Bool)).bind fun j3 => if j3 = true then (some false) else ((ZG (WS p0) 0 : Option (Fl Unit Bool)).bind fun j20 => j20.el (fun s23 => (Z0 p0.Events (fun z0 => Vy z0)).bind fun r80 => some (!r80)) (fun r => some r))
theorem BS (w0 : World) (p0 : GVault) (v0_1 : Value) (hv0_1 : Ro w0 p0.Keys [v0_1]) (v0_2 : Value) (hv0_2 : Ro w0 p0.Records [v0_2]) (v0_3 : Value) (hv0_3 : Ro w0 p0.Events [v0_3]) (r : Bool) (hF : UL p0 = some r) :
  Calls Tryz.prog 108 [(Value.agg (cat [[v0_1], [vI p0.Next], [v0_2], [v0_3], enc p0.Head]).toArray)].toArray w0 (fun en w' => ∃ v, en = .returned v ∧ (v = (vT r) ∧ Kept (Old w0) w0 w')) := by
 refine ZD (n := 84) Tryz.func108 rfl rfl (Nat.le_of_ble_eq_true rfl) rfl ?_
 intro a hE
 have hM := M.start w0
 unfold UL at hF
 refine Zc (ZX (cs := cat [[v0_1], [vI p0.Next], [v0_2], [v0_3], enc p0.Head]) hE hM Za ld rfl rfl fun b1 w a hM hE => Ze hE Za ld rfl fun a hE => Zf (wp_seq ?_))
 obtain ⟨j3, hl4, hF5⟩ := bind_some hF
 refine ZU (fun a w => Env 84 a [(1, (ptr b1 0)), (27, vT j3)] ∧ M (Old w0) w0 w [raw b1 (cat [[v0_1], [vI p0.Next], [v0_2], [v0_3], enc p0.Head])]) ?_ ?_
 ·skip
  refine wp_region_lit (Zg hE Za ld rfl (Tu) fun a hE => Zq (v := v0_1) hE Za ld rfl KN rfl (At.cat (pre := []) (hM.rawAt (pre := [])) cl0) ?_); intro a hE
  obtain ⟨r6, e7, hl4⟩ := bind_some hl4
  refine Zs hE Za ld rfl jb (XC _ p0.Keys v0_1 (hM.rdo hv0_1) r6 e7) ?_
  rintro v w a ⟨rfl, hK⟩ hE
  have hM := hM.keep hK
  obtain ⟨r8, e9, hl4⟩ := bind_some hl4
  refine Zs hE Za ld rfl KT (YV _ r6 1 8 r8 e9) ?_
  rintro v w a ⟨rfl, hK⟩ hE
  have hM := hM.keep hK
  refine WA hE Za ld rfl fun a hE => Zd hE Za ld rfl ?_; intro a hE
  refine Wc (!r8) (fun hb10 => ?_) (fun hb10 => ?_)
  ·have hl4 := ZA hl4 hb10
   refine Zw hE rfl (lkb rfl hb10) rfl (by decide) fun a hE => Zw hE rfl (lkb rfl hb10) rfl (by decide) fun a hE => Zw hE rfl (lkb rfl hb10) rfl (by decide) fun a hE => Zw hE rfl (lkb rfl hb10) rfl (by decide) fun a hE => Z9 hE Za ld (lkb rfl hb10) rfl fun a hE => Zd hE Za ld rfl fun a hE => Zw hE rfl rfl rfl (by decide) ?_; intro a hE
   refine Zw hE rfl rfl rfl (by decide) fun a hE => Zw hE rfl rfl rfl (by decide) fun a hE => Zw hE rfl rfl rfl (by decide) fun a hE => Z9 hE Za ld rfl rfl fun a hE => Zd hE Za ld rfl fun a hE => Zw hE rfl rfl rfl (by decide) fun a hE => Zw hE rfl rfl rfl (by decide) ?_; intro a hE
   refine Zw hE rfl rfl rfl (by decide) fun a hE => Zw hE rfl rfl rfl (by decide) fun a hE => Z9 hE Za ld rfl rfl fun a hE => Zi ?_
   have ht11 := Option.some.inj hl4
   subst ht11
   refine Zl ?_
   exact ⟨hE.sub ⟨rfl, rfl, trivial⟩, hM⟩
  ·have hl4 := ZB hl4 hb10
   refine Zg hE (Zx hE rfl (lkb rfl hb10)) (by decide) rfl (QN) fun a hE => Zq (v := (vI p0.Next)) hE (Zx hE rfl (lkb rfl hb10)) (by decide) rfl ty2 rfl (At.cat (pre := [[v0_1]]) (hM.rawAt (pre := [])) (cl1 (n := 1) (m := 0) rfl cl0)) ?_; intro a hE
   obtain ⟨r12, e13, hl4⟩ := bind_some hl4
   refine Zs hE (Zx hE rfl (lkb rfl hb10)) (by decide) rfl KT (YV _ p0.Next 1 1000000 r12 e13) ?_
   rintro v w a ⟨rfl, hK⟩ hE
   have hM := hM.keep hK
   refine WA hE (Zx hE rfl (lkb rfl hb10)) (by decide) rfl fun a hE => YL hE Za ld (lkb rfl hb10) rfl fun a hE => Zd hE Za ld rfl ?_; intro a hE
   refine Wc (!r12) (fun hb14 => ?_) (fun hb14 => ?_)
   ·have hl4 := ZA hl4 hb14
    refine Zw hE rfl (lkb rfl hb14) rfl (by decide) fun a hE => Zw hE rfl (lkb rfl hb14) rfl (by decide) fun a hE => Zw hE rfl (lkb rfl hb14) rfl (by decide) fun a hE => Zw hE rfl (lkb rfl hb14) rfl (by decide) fun a hE => Z9 hE Za ld (lkb rfl hb14) rfl fun a hE => Zd hE Za ld rfl fun a hE => Zw hE rfl rfl rfl (by decide) ?_; intro a hE
    refine Zw hE rfl rfl rfl (by decide) fun a hE => Zw hE rfl rfl rfl (by decide) fun a hE => Zw hE rfl rfl rfl (by decide) fun a hE => Z9 hE Za ld rfl rfl fun a hE => Zi ?_
    have ht15 := Option.some.inj hl4
    subst ht15
    refine Zl ?_
    exact ⟨hE.sub ⟨rfl, rfl, trivial⟩, hM⟩
   ·have hl4 := ZB hl4 hb14
    refine Zg hE (Zx hE rfl (lkb rfl hb14)) (by decide) rfl (Ut) fun a hE => Zq (v := v0_2) hE (Zx hE rfl (lkb rfl hb14)) (by decide) rfl QV rfl (At.cat (pre := [[v0_1], [vI p0.Next]]) (hM.rawAt (pre := [])) (cl1 (n := 1) (m := 1) rfl (cl1 (n := 1) (m := 0) rfl cl0))) fun a hE => Z6 hE (Zx hE rfl (lkb rfl hb14)) (by decide) rfl Tryz.underlying33 (hM.rd hv0_2) fun a hE => Zh hE (Zx hE rfl (lkb rfl hb14)) (by decide) rfl rfl rfl fun a hE => YL hE Za ld (lkb rfl hb14) rfl fun a hE => Zd hE Za ld rfl ?_; intro a hE
    refine Wc (decide ((p0.Records.length : Int) > 12)) (fun hb16 => ?_) (fun hb16 => ?_)
    ·have hl4 := ZA hl4 hb16
     refine Zw hE rfl (lkb rfl hb16) rfl (by decide) fun a hE => Zw hE rfl (lkb rfl hb16) rfl (by decide) fun a hE => Zw hE rfl (lkb rfl hb16) rfl (by decide) fun a hE => Zw hE rfl (lkb rfl hb16) rfl (by decide) fun a hE => Z9 hE Za ld (lkb rfl hb16) rfl fun a hE => Zi ?_
     have ht17 := Option.some.inj hl4
     subst ht17
     refine Zl ?_
     exact ⟨hE.sub ⟨rfl, rfl, trivial⟩, hM⟩
    ·have hl4 := ZB hl4 hb16
     refine Zg hE (Zx hE rfl (lkb rfl hb16)) (by decide) rfl (QW) fun a hE => Zq (v := v0_3) hE (Zx hE rfl (lkb rfl hb16)) (by decide) rfl Ap rfl (At.cat (pre := [[v0_1], [vI p0.Next], [v0_2]]) (hM.rawAt (pre := [])) (cl1 (n := 1) (m := 2) rfl (cl1 (n := 1) (m := 1) rfl (cl1 (n := 1) (m := 0) rfl cl0)))) fun a hE => Z6 hE (Zx hE rfl (lkb rfl hb16)) (by decide) rfl Tryz.underlying34 (hM.rd hv0_3) fun a hE => Zh hE (Zx hE rfl (lkb rfl hb16)) (by decide) rfl rfl rfl fun a hE => YL hE Za ld (lkb rfl hb16) rfl fun a hE => Zi ?_
     have ht18 := Option.some.inj hl4
     subst ht18
     refine Zl ?_
     exact ⟨hE.sub ⟨rfl, rfl, trivial⟩, hM⟩
 ·skip
  rintro a w ⟨hE, hM⟩
  refine Zv hE rfl ?_ ?_
  ·intro hb19
   have hF5 := ZA hF5 hb19
   refine Zc (Ze hE Za ld rfl fun a hE => Zf ?_)
   have hr := Option.some.inj hF5
   subst hr
   have hM := M.fst (l := []) hM
   exact wp_ret (ZE (Zy hE rfl (Zu hE rfl) ⟨_, rfl, rfl, hM.kept⟩))
  ·intro hb19
   have hF5 := ZB hF5 hb19
   refine wp_skip (Zz (wp_seq (Zc (Zg hE Za ld rfl (Ut) fun a hE => Zq (v := v0_2) hE Za ld rfl QV rfl (At.cat (pre := [[v0_1], [vI p0.Next]]) (hM.rawAt (pre := [])) (cl1 (n := 1) (m := 1) rfl (cl1 (n := 1) (m := 0) rfl cl0))) fun a hE => Z6 hE Za ld rfl Tryz.underlying33 (hM.rd hv0_2) fun a hE => Zd hE Za ld rfl fun a hE => Zf ?_))))
   obtain ⟨j20, hl21, hF22⟩ := bind_some hF5
   refine ZR (fun a w => ∃ s23 : Unit, j20 = Fl.nx s23 ∧ Env 84 a [(1, (ptr b1 0))] ∧ M (Old w0) w0 w [raw b1 (cat [[v0_1], [vI p0.Next], [v0_2], [v0_3], enc p0.Head])]) ?_ ?_
   ·skip
    refine wp_block ?_
    refine ZK (fun (s24 : Int) a w => Env 84 a [(1, (ptr b1 0)), (29, v0_2), (30, (vI (p0.Records.length : Int))), (31, vI s24)] ∧ M (Old w0) w0 w [raw b1 (cat [[v0_1], [vI p0.Next], [v0_2], [v0_3], enc p0.Head])]) hl21 ⟨hE.sub ⟨rfl, rfl, rfl, rfl, trivial⟩, hM⟩ ?_
    rintro s24 a w ⟨hE, hM⟩ o27 hs25 hx26
    unfold WS at hs25
    refine Zc (Zh hE Za ld rfl rfl rfl fun a hE => Zf (wp_seq ?_))
    refine Zv hE rfl ?_ ?_
    ·intro hb28
     have hs25 := ZA hs25 hb28
     refine wp_skip (Zz (wp_seq (wp_block (Zc (Zd hE Za ld rfl ?_))))); intro a hE
     obtain ⟨x29, e30, hs25⟩ := bind_some hs25
     have hi31 := ZO e30
     refine ZN hE Za ld rfl rfl Tryz.underlying33 Wx (hM.rd hv0_2) hi31.1 ?_; intro a hE
     obtain ⟨cs32, hs33, hA34⟩ := Vn hv0_2 hi31.2 -- ^
     obtain ⟨u35, u37, rfl, h36, h38⟩ := Y8 hs33 -- ^
     refine Zm (cs := cat [[vI x29.Number], [vI x29.Version], enc x29.Nonce, [u35], [u37], enc x29.Tag]) hE Za ld rfl Wx rfl (hM.atk hA34 (Tc hv0_2 hi31.2)) (ZC (cl1 (n := 1) (m := 51) rfl (cl1 (n := 1) (m := 50) rfl (cl1 (n := 16) (m := 34) (Flat.len _) (cl1 (n := 1) (m := 33) rfl (cl1 (n := 1) (m := 32) rfl (cl1 (n := 32) (m := 0) (Flat.len _) cl0))))))) fun a hE => ZI hE hM Za ld Wx fun b39 w a hM hE => Ze hE Za ld rfl fun a hE => Zt (seg := cat [[vI x29.Number], [vI x29.Version], enc x29.Nonce, [u35], [u37], enc x29.Tag]) (cs' := cat [[vI x29.Number], [vI x29.Version], enc x29.Nonce, [u35], [u37], enc x29.Tag]) hE hM Za rfl rfl rfl Wx (ZC (cl1 (n := 1) (m := 51) rfl (cl1 (n := 1) (m := 50) rfl (cl1 (n := 16) (m := 34) (Flat.len _) (cl1 (n := 1) (m := 33) rfl (cl1 (n := 1) (m := 32) rfl (cl1 (n := 32) (m := 0) (Flat.len _) cl0))))))) (Nat.le_of_eq ((Nat.zero_add _).trans (Eq.trans (ZC (cl1 (n := 1) (m := 51) rfl (cl1 (n := 1) (m := 50) rfl (cl1 (n := 16) (m := 34) (Flat.len _) (cl1 (n := 1) (m := 33) rfl (cl1 (n := 1) (m := 32) rfl (cl1 (n := 32) (m := 0) (Flat.len _) cl0))))))) (Eq.symm (ZC (cl1 (n := 1) (m := 51) rfl (cl1 (n := 1) (m := 50) rfl (cl1 (n := 16) (m := 34) (Flat.len _) (cl1 (n := 1) (m := 33) rfl (cl1 (n := 1) (m := 32) rfl (cl1 (n := 32) (m := 0) (Flat.len _) cl0))))))))))) (WD (cc1 (Flat.cell (x29.Number : Int)) (cc1 (Flat.cell (x29.Version : Int)) (cc1 (Flat.cell _) (cc1 (Rep.cell (hM.rd h36)) (cc1 (Rep.cell (hM.rd h38)) (cc1 (Flat.cell _) cc0))))))) (Zo (Eq.trans (ZC (cl1 (n := 1) (m := 51) rfl (cl1 (n := 1) (m := 50) rfl (cl1 (n := 16) (m := 34) (Flat.len _) (cl1 (n := 1) (m := 33) rfl (cl1 (n := 1) (m := 32) rfl (cl1 (n := 32) (m := 0) (Flat.len _) cl0))))))) (Eq.symm (ZC (cl1 (n := 1) (m := 51) rfl (cl1 (n := 1) (m := 50) rfl (cl1 (n := 16) (m := 34) (Flat.len _) (cl1 (n := 1) (m := 33) rfl (cl1 (n := 1) (m := 32) rfl (cl1 (n := 32) (m := 0) (Flat.len _) cl0)))))))))) fun w a hM hE => Zf (wp_seq ?_)
     obtain ⟨j41, hl42, hF43⟩ := bind_some hs25
     refine ZU (fun a w => Env 84 a [(1, (ptr b1 0)), (4, (ptr b39 0)), (29, v0_2), (30, (vI (p0.Records.length : Int))), (31, vI s24), (58, vT j41)] ∧ M (Old w0) w0 w [raw b39 (cat [[vI x29.Number], [vI x29.Version], enc x29.Nonce, [u35], [u37], enc x29.Tag]), raw b1 (cat [[v0_1], [vI p0.Next], [v0_2], [v0_3], enc p0.Head])]) ?_ ?_
     ·skip
      obtain ⟨r45, e46, hl42⟩ := bind_some hl42
      refine Wc (!r45) (fun hb47 => ?_) (fun hb47 => ?_)
      ·have hl42 := ZA hl42 hb47
       refine Yr (n := 84) (hd := [_, _, _, _, _, _, _, _, _, _, _, _, _, _, _, _, _, _, _, _, _, _, _]) (tl := []) YN rfl rfl [36, 37, 38, 39, 40, 41, 42, 43, 44, 45, 46, 47, 48, 49, 50, 51, 52, 53, 54, 55, 56, 57, 58] (by decide) (fun w => M (Old w0) w0 w [raw b39 (cat [[vI x29.Number], [vI x29.Version], enc x29.Nonce, [u35], [u37], enc x29.Tag]), raw b1 (cat [[v0_1], [vI p0.Next], [v0_2], [v0_3], enc p0.Head])]) (fun j => ([fun v _ => v = (ptr b39 (0 + 0)), fun v _ => v = (vI x29.Number), fun v _ => v = (ptr b1 (0 + 1)), fun v _ => v = (vI p0.Next), fun v _ => v = (vI (wr (p0.Next - 1))), fun v _ => v = (vT r45), fun v _ => v = (vT (!r45)), fun v _ => v = (vT (!r45)), fun v _ => v = undef, fun v _ => v = undef, fun v _ => v = undef, fun v _ => v = undef, fun v _ => v = undef, fun v _ => v = undef, fun v _ => v = undef, fun v _ => v = undef, fun v _ => v = undef, fun v _ => v = undef, fun v _ => v = undef, fun v _ => v = undef, fun v _ => v = undef, fun v _ => v = undef, fun v _ => v = (vT true)] : List (Value → World → Prop)).getD j (fun _ _ => True)) (fun _ _ h hk => h.keep hk) (gup (Zk (Zk (Zk (Zk (Zk (Zk (Zk (Zk (Zk (Zk (Zk (Zk (Zk (Zk (Zk (Zk (Zk (Zk (Zk (Zk (Zk (Zk (Zk VK)))))))))))))))))))))))) hE hM.drew (ZL (Zb ?_ (Zb ?_ (Zb ?_ (Zb ?_ (Zb ?_ (Zb ?_ (Zb ?_ (Zb ?_ (Zb ?_ (Zb ?_ (Zb ?_ (Zb ?_ (Zb ?_ (Zb ?_ (Zb ?_ (Zb ?_ (Zb ?_ (Zb ?_ (Zb ?_ (Zb ?_ (Zb ?_ (Zb ?_ (Zb ?_ ZF)))))))))))))))))))))))) ?_
       ·exact fun a w ux44 hE hM hp => Zg hE Za ld rfl (Td) fun a hE => ⟨Kept.refl _ _, _, _, rfl, hE, rfl⟩
       ·intro a w ux44 hE hM hp
        have f0 : ux44 0 = (ptr b39 (0 + 0)) := hp 0 _ rfl rfl
        exact Zq (v := (vI x29.Number)) hE Za ld (lk rfl f0) ty2 rfl (At.cat (pre := []) (hM.rawAt (pre := [])) cl0) fun a hE => ⟨Kept.refl _ _, _, _, rfl, hE, rfl⟩
       ·exact fun a w ux44 hE hM hp => Zg hE Za ld rfl (QN) fun a hE => ⟨Kept.refl _ _, _, _, rfl, hE, rfl⟩
       ·intro a w ux44 hE hM hp
        have f2 : ux44 2 = (ptr b1 (0 + 1)) := hp 0 _ rfl rfl
        exact Zq (v := (vI p0.Next)) hE Za ld (lk rfl f2) ty2 rfl (At.cat (pre := [[v0_1]]) (hM.rawAt (pre := [_])) (cl1 (n := 1) (m := 0) rfl cl0)) fun a hE => ⟨Kept.refl _ _, _, _, rfl, hE, rfl⟩
       ·intro a w ux44 hE hM hp
        have f3 : ux44 3 = (vI p0.Next) := hp 0 _ rfl rfl
        exact Zh hE Za ld (lk rfl f3) rfl rfl fun a hE => ⟨Kept.refl _ _, _, _, rfl, hE, rfl⟩
       ·intro a w ux44 hE hM hp
        have f1 : ux44 1 = (vI x29.Number) := hp 0 _ rfl rfl
        have f4 : ux44 4 = (vI (wr (p0.Next - 1))) := hp 1 _ rfl rfl
        refine Zs hE Za ld (ZY (ZS (lk rfl f1) (ZS rfl (ZS (lk rfl f4) YT)))) KT (YV _ x29.Number 1 (wr (p0.Next - 1)) r45 e46) ?_
        rintro v w a ⟨rfl, hK⟩ hE
        exact ⟨hK, _, _, rfl, hE, rfl⟩
       ·intro a w ux44 hE hM hp
        have f5 : ux44 5 = (vT r45) := hp 0 _ rfl rfl
        exact WA hE Za ld (lk rfl f5) fun a hE => ⟨Kept.refl _ _, _, _, rfl, hE, rfl⟩
       ·intro a w ux44 hE hM hp
        have f6 : ux44 6 = (vT (!r45)) := hp 0 _ rfl rfl
        exact Zd hE Za ld (lk rfl f6) fun a hE => ⟨Kept.refl _ _, _, _, rfl, hE, rfl⟩
       ·intro a w ux44 hE hM hp
        have f7 : ux44 7 = (vT (!r45)) := hp 0 _ rfl rfl
        exact Zw hE rfl (lkb (lk rfl f7) hb47) rfl (by decide) fun a hE => ⟨Kept.refl _ _, _, _, rfl, hE, rfl⟩
       ·intro a w ux44 hE hM hp
        have f7 : ux44 7 = (vT (!r45)) := hp 1 _ rfl rfl
        have f8 : ux44 8 = undef := hp 0 _ rfl rfl
        exact Zw hE rfl (lkb (lk rfl f7) hb47) rfl (by decide) fun a hE => ⟨Kept.refl _ _, _, _, rfl, hE, rfl⟩
       ·intro a w ux44 hE hM hp
        have f7 : ux44 7 = (vT (!r45)) := hp 1 _ rfl rfl
        have f9 : ux44 9 = undef := hp 0 _ rfl rfl
        exact Zw hE rfl (lkb (lk rfl f7) hb47) rfl (by decide) fun a hE => ⟨Kept.refl _ _, _, _, rfl, hE, rfl⟩
       ·intro a w ux44 hE hM hp
        have f10 : ux44 10 = undef := hp 0 _ rfl rfl
        exact TX hE rfl (lk rfl f10) (by decide) fun a hE => ⟨Kept.refl _ _, _, _, rfl, hE, rfl⟩
       ·intro a w ux44 hE hM hp
        have f10 : ux44 10 = undef := hp 1 _ rfl rfl
        have f11 : ux44 11 = undef := hp 0 _ rfl rfl
        exact TX hE rfl (lk rfl f10) (by decide) fun a hE => ⟨Kept.refl _ _, _, _, rfl, hE, rfl⟩
       ·intro a w ux44 hE hM hp
        have f10 : ux44 10 = undef := hp 0 _ rfl rfl
        exact TX hE rfl (lk rfl f10) (by decide) fun a hE => ⟨Kept.refl _ _, _, _, rfl, hE, rfl⟩
       ·intro a w ux44 hE hM hp
        have f10 : ux44 10 = undef := hp 1 _ rfl rfl
        have f13 : ux44 13 = undef := hp 0 _ rfl rfl
        exact TX hE rfl (lk rfl f10) (by decide) fun a hE => ⟨Kept.refl _ _, _, _, rfl, hE, rfl⟩
       ·intro a w ux44 hE hM hp
        have f10 : ux44 10 = undef := hp 2 _ rfl rfl
        have f12 : ux44 12 = undef := hp 0 _ rfl rfl
        have f14 : ux44 14 = undef := hp 1 _ rfl rfl
        exact TX hE rfl (lk rfl f10) (by decide) fun a hE => ⟨Kept.refl _ _, _, _, rfl, hE, rfl⟩
       ·intro a w ux44 hE hM hp
        have f10 : ux44 10 = undef := hp 1 _ rfl rfl
        have f15 : ux44 15 = undef := hp 0 _ rfl rfl
        exact TX hE rfl (lk rfl f10) (by decide) fun a hE => ⟨Kept.refl _ _, _, _, rfl, hE, rfl⟩
       ·intro a w ux44 hE hM hp
        have f10 : ux44 10 = undef := hp 1 _ rfl rfl
        have f16 : ux44 16 = undef := hp 0 _ rfl rfl
        exact TX hE rfl (lk rfl f10) (by decide) fun a hE => ⟨Kept.refl _ _, _, _, rfl, hE, rfl⟩
       ·intro a w ux44 hE hM hp
        have f10 : ux44 10 = undef := hp 0 _ rfl rfl
        exact TX hE rfl (lk rfl f10) (by decide) fun a hE => ⟨Kept.refl _ _, _, _, rfl, hE, rfl⟩
       ·intro a w ux44 hE hM hp
        have f10 : ux44 10 = undef := hp 1 _ rfl rfl
        have f18 : ux44 18 = undef := hp 0 _ rfl rfl
        exact TX hE rfl (lk rfl f10) (by decide) fun a hE => ⟨Kept.refl _ _, _, _, rfl, hE, rfl⟩
       ·intro a w ux44 hE hM hp
        have f10 : ux44 10 = undef := hp 2 _ rfl rfl
        have f17 : ux44 17 = undef := hp 0 _ rfl rfl
        have f19 : ux44 19 = undef := hp 1 _ rfl rfl
        exact TX hE rfl (lk rfl f10) (by decide) fun a hE => ⟨Kept.refl _ _, _, _, rfl, hE, rfl⟩
       ·intro a w ux44 hE hM hp
        have f7 : ux44 7 = (vT (!r45)) := hp 2 _ rfl rfl
        have f10 : ux44 10 = undef := hp 0 _ rfl rfl
        have f20 : ux44 20 = undef := hp 1 _ rfl rfl
        exact Zw hE rfl (lkb (lk rfl f7) hb47) rfl (by decide) fun a hE => ⟨Kept.refl _ _, _, _, rfl, hE, rfl⟩
       ·intro a w ux44 hE hM hp
        have f7 : ux44 7 = (vT (!r45)) := hp 0 _ rfl rfl
        have f21 : ux44 21 = undef := hp 1 _ rfl rfl
        exact Z9 hE Za ld (lkb (lk rfl f7) hb47) rfl fun a hE => ⟨Kept.refl _ _, _, _, rfl, hE, rfl⟩
       ·intro a w ux44 hE hM hg
        have hE := hE.sub (e' := [(58, vT true), (1, (ptr b1 0)), (3, vI s24), (4, (ptr b39 0)), (29, v0_2), (30, (vI (p0.Records.length : Int))), (31, vI s24), (32, (vT (decide (s24 < (p0.Records.length : Int))))), (33, vI s24), (34, (ptr (sb v0_2) (so v0_2 + (s24).toNat * 52))), (35, (Value.agg (cat [[vI x29.Number], [vI x29.Version], enc x29.Nonce, [u35], [u37], enc x29.Tag]).toArray))]) ⟨lk rfl (hg 22 (by decide)), rfl, rfl, rfl, rfl, rfl, rfl, rfl, rfl, rfl, rfl, trivial⟩
        refine Zi ?_
        have ht48 := Option.some.inj hl42
        subst ht48
        refine Zl ?_
        exact ⟨hE.sub ⟨rfl, rfl, rfl, rfl, rfl, rfl, trivial⟩, hM⟩
      ·have hl42 := ZB hl42 hb47
       refine Wc (decide (s24 > 0)) (fun hb49 => ?_) (fun hb49 => ?_)
       ·have hl42 := ZA hl42 hb49
        obtain ⟨x50, e51, hl42⟩ := bind_some hl42
        have hi52 := ZO e51
        obtain ⟨cs53, hs54, hA55⟩ := Vn hv0_2 hi52.2 -- ^
        obtain ⟨u56, u58, rfl, h57, h59⟩ := Y8 hs54 -- ^
        refine Yr (n := 84) (hd := [_, _, _, _, _, _, _, _, _, _, _, _, _, _, _, _, _, _, _, _, _, _, _]) (tl := []) YN rfl rfl [36, 37, 38, 39, 40, 41, 42, 43, 44, 45, 46, 47, 48, 49, 50, 51, 52, 53, 54, 55, 56, 57, 58] (by decide) (fun w => M (Old w0) w0 w [raw b39 (cat [[vI x29.Number], [vI x29.Version], enc x29.Nonce, [u35], [u37], enc x29.Tag]), raw b1 (cat [[v0_1], [vI p0.Next], [v0_2], [v0_3], enc p0.Head])]) (fun j => ([fun v _ => v = (ptr b39 (0 + 0)), fun v _ => v = (vI x29.Number), fun v _ => v = (ptr b1 (0 + 1)), fun v _ => v = (vI p0.Next), fun v _ => v = (vI (wr (p0.Next - 1))), fun v _ => v = (vT r45), fun v _ => v = (vT (!r45)), fun v _ => v = (vT (!r45)), fun v _ => v = (vI s24), fun v _ => v = (vT (decide (s24 > 0))), fun v _ => v = (vT (decide (s24 > 0))), fun v _ => v = (ptr b1 (0 + 2)), fun v _ => v = v0_2, fun v _ => v = (vI s24), fun v _ => v = (vI (wr (s24 - 1))), fun v _ => v = (ptr (sb v0_2) (so v0_2 + ((wr (s24 - 1))).toNat * 52)), fun v _ => v = (ptr (sb v0_2) (so v0_2 + ((wr (s24 - 1))).toNat * 52 + 0)), fun v _ => v = (vI x50.Number), fun v _ => v = (ptr b39 (0 + 0)), fun v _ => v = (vI x29.Number), fun v _ => v = (vT (decide (x50.Number ≥ x29.Number))), fun v _ => v = (vT (decide (x50.Number ≥ x29.Number))), fun v _ => v = (vT (decide (x50.Number ≥ x29.Number)))] : List (Value → World → Prop)).getD j (fun _ _ => True)) (fun _ _ h hk => h.keep hk) (gup (Zk (Zk (Zk (Zk (Zk (Zk (Zk (Zk (Zk (Zk (Zk (Zk (Zk (Zk (Zk (Zk (Zk (Zk (Zk (Zk (Zk (Zk (Zk VK)))))))))))))))))))))))) hE hM.drew (ZL (Zb ?_ (Zb ?_ (Zb ?_ (Zb ?_ (Zb ?_ (Zb ?_ (Zb ?_ (Zb ?_ (Zb ?_ (Zb ?_ (Zb ?_ (Zb ?_ (Zb ?_ (Zb ?_ (Zb ?_ (Zb ?_ (Zb ?_ (Zb ?_ (Zb ?_ (Zb ?_ (Zb ?_ (Zb ?_ (Zb ?_ ZF)))))))))))))))))))))))) ?_
        ·exact fun a w ux44 hE hM hp => Zg hE Za ld rfl (Td) fun a hE => ⟨Kept.refl _ _, _, _, rfl, hE, rfl⟩
        ·intro a w ux44 hE hM hp
         have f0 : ux44 0 = (ptr b39 (0 + 0)) := hp 0 _ rfl rfl
         exact Zq (v := (vI x29.Number)) hE Za ld (lk rfl f0) ty2 rfl (At.cat (pre := []) (hM.rawAt (pre := [])) cl0) fun a hE => ⟨Kept.refl _ _, _, _, rfl, hE, rfl⟩
        ·exact fun a w ux44 hE hM hp => Zg hE Za ld rfl (QN) fun a hE => ⟨Kept.refl _ _, _, _, rfl, hE, rfl⟩
        ·intro a w ux44 hE hM hp
         have f2 : ux44 2 = (ptr b1 (0 + 1)) := hp 0 _ rfl rfl
         exact Zq (v := (vI p0.Next)) hE Za ld (lk rfl f2) ty2 rfl (At.cat (pre := [[v0_1]]) (hM.rawAt (pre := [_])) (cl1 (n := 1) (m := 0) rfl cl0)) fun a hE => ⟨Kept.refl _ _, _, _, rfl, hE, rfl⟩
        ·intro a w ux44 hE hM hp
         have f3 : ux44 3 = (vI p0.Next) := hp 0 _ rfl rfl
         exact Zh hE Za ld (lk rfl f3) rfl rfl fun a hE => ⟨Kept.refl _ _, _, _, rfl, hE, rfl⟩
        ·intro a w ux44 hE hM hp
         have f1 : ux44 1 = (vI x29.Number) := hp 0 _ rfl rfl
         have f4 : ux44 4 = (vI (wr (p0.Next - 1))) := hp 1 _ rfl rfl
         refine Zs hE Za ld (ZY (ZS (lk rfl f1) (ZS rfl (ZS (lk rfl f4) YT)))) KT (YV _ x29.Number 1 (wr (p0.Next - 1)) r45 e46) ?_
         rintro v w a ⟨rfl, hK⟩ hE
         exact ⟨hK, _, _, rfl, hE, rfl⟩
        ·intro a w ux44 hE hM hp
         have f5 : ux44 5 = (vT r45) := hp 0 _ rfl rfl
         exact WA hE Za ld (lk rfl f5) fun a hE => ⟨Kept.refl _ _, _, _, rfl, hE, rfl⟩
        ·intro a w ux44 hE hM hp
         have f6 : ux44 6 = (vT (!r45)) := hp 0 _ rfl rfl
         exact Zd hE Za ld (lk rfl f6) fun a hE => ⟨Kept.refl _ _, _, _, rfl, hE, rfl⟩
        ·intro a w ux44 hE hM hp
         have f7 : ux44 7 = (vT (!r45)) := hp 0 _ rfl rfl
         exact Zd hE (Zx hE rfl (lkb (lk rfl f7) hb47)) (by decide) rfl fun a hE => ⟨Kept.refl _ _, _, _, rfl, hE, rfl⟩
        ·intro a w ux44 hE hM hp
         have f7 : ux44 7 = (vT (!r45)) := hp 1 _ rfl rfl
         have f8 : ux44 8 = (vI s24) := hp 0 _ rfl rfl
         exact Zh hE (Zx hE rfl (lkb (lk rfl f7) hb47)) (by decide) (lk rfl f8) rfl rfl fun a hE => ⟨Kept.refl _ _, _, _, rfl, hE, rfl⟩
        ·intro a w ux44 hE hM hp
         have f7 : ux44 7 = (vT (!r45)) := hp 1 _ rfl rfl
         have f9 : ux44 9 = (vT (decide (s24 > 0))) := hp 0 _ rfl rfl
         exact Zd hE (Zx hE rfl (lkb (lk rfl f7) hb47)) (by decide) (lk rfl f9) fun a hE => ⟨Kept.refl _ _, _, _, rfl, hE, rfl⟩
        ·intro a w ux44 hE hM hp
         have f10 : ux44 10 = (vT (decide (s24 > 0))) := hp 0 _ rfl rfl
         exact Zg hE (Zx hE rfl (lkb (lk rfl f10) hb49)) (by decide) rfl (Ut) fun a hE => ⟨Kept.refl _ _, _, _, rfl, hE, rfl⟩
        ·intro a w ux44 hE hM hp
         have f10 : ux44 10 = (vT (decide (s24 > 0))) := hp 1 _ rfl rfl
         have f11 : ux44 11 = (ptr b1 (0 + 2)) := hp 0 _ rfl rfl
         exact Zq (v := v0_2) hE (Zx hE rfl (lkb (lk rfl f10) hb49)) (by decide) (lk rfl f11) QV rfl (At.cat (pre := [[v0_1], [vI p0.Next]]) (hM.rawAt (pre := [_])) (cl1 (n := 1) (m := 1) rfl (cl1 (n := 1) (m := 0) rfl cl0))) fun a hE => ⟨Kept.refl _ _, _, _, rfl, hE, rfl⟩
        ·intro a w ux44 hE hM hp
         have f10 : ux44 10 = (vT (decide (s24 > 0))) := hp 0 _ rfl rfl
         exact Zd hE (Zx hE rfl (lkb (lk rfl f10) hb49)) (by decide) rfl fun a hE => ⟨Kept.refl _ _, _, _, rfl, hE, rfl⟩
        ·intro a w ux44 hE hM hp
         have f10 : ux44 10 = (vT (decide (s24 > 0))) := hp 1 _ rfl rfl
         have f13 : ux44 13 = (vI s24) := hp 0 _ rfl rfl
         exact Zh hE (Zx hE rfl (lkb (lk rfl f10) hb49)) (by decide) (lk rfl f13) rfl rfl fun a hE => ⟨Kept.refl _ _, _, _, rfl, hE, rfl⟩
        ·intro a w ux44 hE hM hp
         have f10 : ux44 10 = (vT (decide (s24 > 0))) := hp 2 _ rfl rfl
         have f12 : ux44 12 = v0_2 := hp 0 _ rfl rfl
         have f14 : ux44 14 = (vI (wr (s24 - 1))) := hp 1 _ rfl rfl
         exact ZN hE (Zx hE rfl (lkb (lk rfl f10) hb49)) (by decide) (lk rfl f12) (lk rfl f14) Tryz.underlying33 Wx (hM.rd hv0_2) hi52.1 fun a hE => ⟨Kept.refl _ _, _, _, rfl, hE, rfl⟩
        ·intro a w ux44 hE hM hp
         have f10 : ux44 10 = (vT (decide (s24 > 0))) := hp 1 _ rfl rfl
         have f15 : ux44 15 = (ptr (sb v0_2) (so v0_2 + ((wr (s24 - 1))).toNat * 52)) := hp 0 _ rfl rfl
         exact Zg hE (Zx hE rfl (lkb (lk rfl f10) hb49)) (by decide) (lk rfl f15) (Td) fun a hE => ⟨Kept.refl _ _, _, _, rfl, hE, rfl⟩
        ·intro a w ux44 hE hM hp
         have f10 : ux44 10 = (vT (decide (s24 > 0))) := hp 1 _ rfl rfl
         have f16 : ux44 16 = (ptr (sb v0_2) (so v0_2 + ((wr (s24 - 1))).toNat * 52 + 0)) := hp 0 _ rfl rfl
         exact Zq (v := (vI x50.Number)) hE (Zx hE rfl (lkb (lk rfl f10) hb49)) (by decide) (lk rfl f16) ty2 rfl (At.cat (pre := []) (hM.atk hA55 (Tc hv0_2 hi52.2)) cl0) fun a hE => ⟨Kept.refl _ _, _, _, rfl, hE, rfl⟩
        ·intro a w ux44 hE hM hp
         have f10 : ux44 10 = (vT (decide (s24 > 0))) := hp 0 _ rfl rfl
         exact Zg hE (Zx hE rfl (lkb (lk rfl f10) hb49)) (by decide) rfl (Td) fun a hE => ⟨Kept.refl _ _, _, _, rfl, hE, rfl⟩
        ·intro a w ux44 hE hM hp
         have f10 : ux44 10 = (vT (decide (s24 > 0))) := hp 1 _ rfl rfl
         have f18 : ux44 18 = (ptr b39 (0 + 0)) := hp 0 _ rfl rfl
         exact Zq (v := (vI x29.Number)) hE (Zx hE rfl (lkb (lk rfl f10) hb49)) (by decide) (lk rfl f18) ty2 rfl (At.cat (pre := []) (hM.rawAt (pre := [])) cl0) fun a hE => ⟨Kept.refl _ _, _, _, rfl, hE, rfl⟩
        ·intro a w ux44 hE hM hp
         have f10 : ux44 10 = (vT (decide (s24 > 0))) := hp 2 _ rfl rfl
         have f17 : ux44 17 = (vI x50.Number) := hp 0 _ rfl rfl
         have f19 : ux44 19 = (vI x29.Number) := hp 1 _ rfl rfl
         exact Zh hE (Zx hE rfl (lkb (lk rfl f10) hb49)) (by decide) (lk rfl f17) (lk rfl f19) rfl fun a hE => ⟨Kept.refl _ _, _, _, rfl, hE, rfl⟩
        ·intro a w ux44 hE hM hp
         have f7 : ux44 7 = (vT (!r45)) := hp 2 _ rfl rfl
         have f10 : ux44 10 = (vT (decide (s24 > 0))) := hp 0 _ rfl rfl
         have f20 : ux44 20 = (vT (decide (x50.Number ≥ x29.Number))) := hp 1 _ rfl rfl
         exact Z9 hE (Zx hE rfl (lkb (lk rfl f7) hb47)) (by decide) (lkb (lk rfl f10) hb49) (lk rfl f20) fun a hE => ⟨Kept.refl _ _, _, _, rfl, hE, rfl⟩
        ·intro a w ux44 hE hM hp
         have f7 : ux44 7 = (vT (!r45)) := hp 0 _ rfl rfl
         have f21 : ux44 21 = (vT (decide (x50.Number ≥ x29.Number))) := hp 1 _ rfl rfl
         exact YL hE Za ld (lkb (lk rfl f7) hb47) (lk rfl f21) fun a hE => ⟨Kept.refl _ _, _, _, rfl, hE, rfl⟩
        ·intro a w ux44 hE hM hg
         have hE := hE.sub (e' := [(58, (vT (decide (x50.Number ≥ x29.Number)))), (1, (ptr b1 0)), (3, vI s24), (4, (ptr b39 0)), (29, v0_2), (30, (vI (p0.Records.length : Int))), (31, vI s24), (32, (vT (decide (s24 < (p0.Records.length : Int))))), (33, vI s24), (34, (ptr (sb v0_2) (so v0_2 + (s24).toNat * 52))), (35, (Value.agg (cat [[vI x29.Number], [vI x29.Version], enc x29.Nonce, [u35], [u37], enc x29.Tag]).toArray))]) ⟨lk rfl (hg 22 (by decide)), rfl, rfl, rfl, rfl, rfl, rfl, rfl, rfl, rfl, rfl, trivial⟩
         refine Zi ?_
         have ht60 := Option.some.inj hl42
         subst ht60
         refine Zl ?_
         exact ⟨hE.sub ⟨rfl, rfl, rfl, rfl, rfl, rfl, trivial⟩, hM⟩
       ·have hl42 := ZB hl42 hb49
        refine Yr (n := 84) (hd := [_, _, _, _, _, _, _, _, _, _, _, _, _, _, _, _, _, _, _, _, _, _, _]) (tl := []) YN rfl rfl [36, 37, 38, 39, 40, 41, 42, 43, 44, 45, 46, 47, 48, 49, 50, 51, 52, 53, 54, 55, 56, 57, 58] (by decide) (fun w => M (Old w0) w0 w [raw b39 (cat [[vI x29.Number], [vI x29.Version], enc x29.Nonce, [u35], [u37], enc x29.Tag]), raw b1 (cat [[v0_1], [vI p0.Next], [v0_2], [v0_3], enc p0.Head])]) (fun j => ([fun v _ => v = (ptr b39 (0 + 0)), fun v _ => v = (vI x29.Number), fun v _ => v = (ptr b1 (0 + 1)), fun v _ => v = (vI p0.Next), fun v _ => v = (vI (wr (p0.Next - 1))), fun v _ => v = (vT r45), fun v _ => v = (vT (!r45)), fun v _ => v = (vT (!r45)), fun v _ => v = (vI s24), fun v _ => v = (vT (decide (s24 > 0))), fun v _ => v = (vT (decide (s24 > 0))), fun v _ => v = undef, fun v _ => v = undef, fun v _ => v = undef, fun v _ => v = undef, fun v _ => v = undef, fun v _ => v = undef, fun v _ => v = undef, fun v _ => v = undef, fun v _ => v = undef, fun v _ => v = undef, fun v _ => v = (vT false), fun v _ => v = (vT false)] : List (Value → World → Prop)).getD j (fun _ _ => True)) (fun _ _ h hk => h.keep hk) (gup (Zk (Zk (Zk (Zk (Zk (Zk (Zk (Zk (Zk (Zk (Zk (Zk (Zk (Zk (Zk (Zk (Zk (Zk (Zk (Zk (Zk (Zk (Zk VK)))))))))))))))))))))))) hE hM.drew (ZL (Zb ?_ (Zb ?_ (Zb ?_ (Zb ?_ (Zb ?_ (Zb ?_ (Zb ?_ (Zb ?_ (Zb ?_ (Zb ?_ (Zb ?_ (Zb ?_ (Zb ?_ (Zb ?_ (Zb ?_ (Zb ?_ (Zb ?_ (Zb ?_ (Zb ?_ (Zb ?_ (Zb ?_ (Zb ?_ (Zb ?_ ZF)))))))))))))))))))))))) ?_
        ·exact fun a w ux44 hE hM hp => Zg hE Za ld rfl (Td) fun a hE => ⟨Kept.refl _ _, _, _, rfl, hE, rfl⟩
        ·intro a w ux44 hE hM hp
         have f0 : ux44 0 = (ptr b39 (0 + 0)) := hp 0 _ rfl rfl
         exact Zq (v := (vI x29.Number)) hE Za ld (lk rfl f0) ty2 rfl (At.cat (pre := []) (hM.rawAt (pre := [])) cl0) fun a hE => ⟨Kept.refl _ _, _, _, rfl, hE, rfl⟩
        ·exact fun a w ux44 hE hM hp => Zg hE Za ld rfl (QN) fun a hE => ⟨Kept.refl _ _, _, _, rfl, hE, rfl⟩
        ·intro a w ux44 hE hM hp
         have f2 : ux44 2 = (ptr b1 (0 + 1)) := hp 0 _ rfl rfl
         exact Zq (v := (vI p0.Next)) hE Za ld (lk rfl f2) ty2 rfl (At.cat (pre := [[v0_1]]) (hM.rawAt (pre := [_])) (cl1 (n := 1) (m := 0) rfl cl0)) fun a hE => ⟨Kept.refl _ _, _, _, rfl, hE, rfl⟩
        ·intro a w ux44 hE hM hp
         have f3 : ux44 3 = (vI p0.Next) := hp 0 _ rfl rfl
         exact Zh hE Za ld (lk rfl f3) rfl rfl fun a hE => ⟨Kept.refl _ _, _, _, rfl, hE, rfl⟩
        ·intro a w ux44 hE hM hp
         have f1 : ux44 1 = (vI x29.Number) := hp 0 _ rfl rfl
         have f4 : ux44 4 = (vI (wr (p0.Next - 1))) := hp 1 _ rfl rfl
         refine Zs hE Za ld (ZY (ZS (lk rfl f1) (ZS rfl (ZS (lk rfl f4) YT)))) KT (YV _ x29.Number 1 (wr (p0.Next - 1)) r45 e46) ?_
         rintro v w a ⟨rfl, hK⟩ hE
         exact ⟨hK, _, _, rfl, hE, rfl⟩
        ·intro a w ux44 hE hM hp
         have f5 : ux44 5 = (vT r45) := hp 0 _ rfl rfl
         exact WA hE Za ld (lk rfl f5) fun a hE => ⟨Kept.refl _ _, _, _, rfl, hE, rfl⟩
        ·intro a w ux44 hE hM hp
         have f6 : ux44 6 = (vT (!r45)) := hp 0 _ rfl rfl
         exact Zd hE Za ld (lk rfl f6) fun a hE => ⟨Kept.refl _ _, _, _, rfl, hE, rfl⟩
        ·intro a w ux44 hE hM hp
         have f7 : ux44 7 = (vT (!r45)) := hp 0 _ rfl rfl
         exact Zd hE (Zx hE rfl (lkb (lk rfl f7) hb47)) (by decide) rfl fun a hE => ⟨Kept.refl _ _, _, _, rfl, hE, rfl⟩
        ·intro a w ux44 hE hM hp
         have f7 : ux44 7 = (vT (!r45)) := hp 1 _ rfl rfl
         have f8 : ux44 8 = (vI s24) := hp 0 _ rfl rfl
         exact Zh hE (Zx hE rfl (lkb (lk rfl f7) hb47)) (by decide) (lk rfl f8) rfl rfl fun a hE => ⟨Kept.refl _ _, _, _, rfl, hE, rfl⟩
        ·intro a w ux44 hE hM hp
         have f7 : ux44 7 = (vT (!r45)) := hp 1 _ rfl rfl
         have f9 : ux44 9 = (vT (decide (s24 > 0))) := hp 0 _ rfl rfl
         exact Zd hE (Zx hE rfl (lkb (lk rfl f7) hb47)) (by decide) (lk rfl f9) fun a hE => ⟨Kept.refl _ _, _, _, rfl, hE, rfl⟩
        ·intro a w ux44 hE hM hp
         have f10 : ux44 10 = (vT (decide (s24 > 0))) := hp 0 _ rfl rfl
         exact Zw hE rfl (lkb (lk rfl f10) hb49) rfl (by decide) fun a hE => ⟨Kept.refl _ _, _, _, rfl, hE, rfl⟩
        ·intro a w ux44 hE hM hp
         have f10 : ux44 10 = (vT (decide (s24 > 0))) := hp 1 _ rfl rfl
         have f11 : ux44 11 = undef := hp 0 _ rfl rfl
         exact Zw hE rfl (lkb (lk rfl f10) hb49) rfl (by decide) fun a hE => ⟨Kept.refl _ _, _, _, rfl, hE, rfl⟩
        ·intro a w ux44 hE hM hp
         have f10 : ux44 10 = (vT (decide (s24 > 0))) := hp 0 _ rfl rfl
         exact Zw hE rfl (lkb (lk rfl f10) hb49) rfl (by decide) fun a hE => ⟨Kept.refl _ _, _, _, rfl, hE, rfl⟩
        ·intro a w ux44 hE hM hp
         have f10 : ux44 10 = (vT (decide (s24 > 0))) := hp 1 _ rfl rfl
         have f13 : ux44 13 = undef := hp 0 _ rfl rfl
         exact Zw hE rfl (lkb (lk rfl f10) hb49) rfl (by decide) fun a hE => ⟨Kept.refl _ _, _, _, rfl, hE, rfl⟩
        ·intro a w ux44 hE hM hp
         have f10 : ux44 10 = (vT (decide (s24 > 0))) := hp 2 _ rfl rfl
         have f12 : ux44 12 = undef := hp 0 _ rfl rfl
         have f14 : ux44 14 = undef := hp 1 _ rfl rfl
         exact Zw hE rfl (lkb (lk rfl f10) hb49) rfl (by decide) fun a hE => ⟨Kept.refl _ _, _, _, rfl, hE, rfl⟩
        ·intro a w ux44 hE hM hp
         have f10 : ux44 10 = (vT (decide (s24 > 0))) := hp 1 _ rfl rfl
         have f15 : ux44 15 = undef := hp 0 _ rfl rfl
         exact Zw hE rfl (lkb (lk rfl f10) hb49) rfl (by decide) fun a hE => ⟨Kept.refl _ _, _, _, rfl, hE, rfl⟩
        ·intro a w ux44 hE hM hp
         have f10 : ux44 10 = (vT (decide (s24 > 0))) := hp 1 _ rfl rfl
         have f16 : ux44 16 = undef := hp 0 _ rfl rfl
         exact Zw hE rfl (lkb (lk rfl f10) hb49) rfl (by decide) fun a hE => ⟨Kept.refl _ _, _, _, rfl, hE, rfl⟩
        ·intro a w ux44 hE hM hp
         have f10 : ux44 10 = (vT (decide (s24 > 0))) := hp 0 _ rfl rfl
         exact Zw hE rfl (lkb (lk rfl f10) hb49) rfl (by decide) fun a hE => ⟨Kept.refl _ _, _, _, rfl, hE, rfl⟩
        ·intro a w ux44 hE hM hp
         have f10 : ux44 10 = (vT (decide (s24 > 0))) := hp 1 _ rfl rfl
         have f18 : ux44 18 = undef := hp 0 _ rfl rfl
         exact Zw hE rfl (lkb (lk rfl f10) hb49) rfl (by decide) fun a hE => ⟨Kept.refl _ _, _, _, rfl, hE, rfl⟩
        ·intro a w ux44 hE hM hp
         have f10 : ux44 10 = (vT (decide (s24 > 0))) := hp 2 _ rfl rfl
         have f17 : ux44 17 = undef := hp 0 _ rfl rfl
         have f19 : ux44 19 = undef := hp 1 _ rfl rfl
         exact Zw hE rfl (lkb (lk rfl f10) hb49) rfl (by decide) fun a hE => ⟨Kept.refl _ _, _, _, rfl, hE, rfl⟩
        ·intro a w ux44 hE hM hp
         have f7 : ux44 7 = (vT (!r45)) := hp 2 _ rfl rfl
         have f10 : ux44 10 = (vT (decide (s24 > 0))) := hp 0 _ rfl rfl
         have f20 : ux44 20 = undef := hp 1 _ rfl rfl
         exact YL hE (Zx hE rfl (lkb (lk rfl f7) hb47)) (by decide) (lkb (lk rfl f10) hb49) rfl fun a hE => ⟨Kept.refl _ _, _, _, rfl, hE, rfl⟩
        ·intro a w ux44 hE hM hp
         have f7 : ux44 7 = (vT (!r45)) := hp 0 _ rfl rfl
         have f21 : ux44 21 = (vT false) := hp 1 _ rfl rfl
         exact YL hE Za ld (lkb (lk rfl f7) hb47) (lk rfl f21) fun a hE => ⟨Kept.refl _ _, _, _, rfl, hE, rfl⟩
        ·intro a w ux44 hE hM hg
         have hE := hE.sub (e' := [(58, vT false), (1, (ptr b1 0)), (3, vI s24), (4, (ptr b39 0)), (29, v0_2), (30, (vI (p0.Records.length : Int))), (31, vI s24), (32, (vT (decide (s24 < (p0.Records.length : Int))))), (33, vI s24), (34, (ptr (sb v0_2) (so v0_2 + (s24).toNat * 52))), (35, (Value.agg (cat [[vI x29.Number], [vI x29.Version], enc x29.Nonce, [u35], [u37], enc x29.Tag]).toArray))]) ⟨lk rfl (hg 22 (by decide)), rfl, rfl, rfl, rfl, rfl, rfl, rfl, rfl, rfl, rfl, trivial⟩
         refine Zi ?_
         have ht61 := Option.some.inj hl42
         subst ht61
         refine Zl ?_
         exact ⟨hE.sub ⟨rfl, rfl, rfl, rfl, rfl, rfl, trivial⟩, hM⟩
     ·skip
      rintro a w ⟨hE, hM⟩
      refine Zv hE rfl ?_ ?_
      ·intro hb62
       have hF43 := ZA hF43 hb62
       refine Zc (Ze hE Za ld rfl fun a hE => Zf ?_)
       have ht63 := hx26 _ (Option.some.inj hF43).symm
       subst ht63
       have hr := Option.some.inj hF22
       subst hr
       have hM := M.fst (l := []) hM
       exact wp_ret (ZE (Wl (ZE (ZE (Wl (ZE (ZE (Zy hE rfl (Zu hE rfl) ⟨_, rfl, rfl, hM.kept⟩))))))))
      ·intro hb62
       have hF43 := ZB hF43 hb62
       refine wp_skip (Zz ?_)
       obtain ⟨j64, hl65, hF66⟩ := bind_some hF43
       refine ZU (fun a w => Env 84 a [(1, (ptr b1 0)), (29, v0_2), (30, (vI (p0.Records.length : Int))), (31, vI s24), (78, vT j64)] ∧ M (Old w0) w0 w [raw b1 (cat [[v0_1], [vI p0.Next], [v0_2], [v0_3], enc p0.Head])]) ?_ ?_
       ·skip
        obtain ⟨r68, e69, hl65⟩ := bind_some hl65
        obtain ⟨r70, e71, hl65⟩ := bind_some hl65
        refine Wc (!r70) (fun hb72 => ?_) (fun hb72 => ?_)
        ·have hl65 := ZA hl65 hb72
         refine Yr (n := 84) (hd := [_, _, _, _, _, _, _, _, _, _, _, _, _, _, _, _, _, _, _, _]) (tl := []) YN rfl rfl [59, 60, 61, 62, 63, 64, 65, 66, 67, 68, 69, 70, 71, 72, 73, 74, 75, 76, 77, 78] (by decide) (fun w => M (Old w0) w0 w [raw b39 (cat [[vI x29.Number], [vI x29.Version], enc x29.Nonce, [u35], [u37], enc x29.Tag]), raw b1 (cat [[v0_1], [vI p0.Next], [v0_2], [v0_3], enc p0.Head])]) (fun j => ([fun v _ => v = (ptr b39 (0 + 1)), fun v _ => v = (vI x29.Version), fun v _ => v = (ptr b1 (0 + 0)), fun v _ => v = v0_1, fun v _ => v = (vI r68), fun v _ => v = (vI (wr (r68 - 1))), fun v _ => v = (vT r70), fun v _ => v = (vT (!r70)), fun v _ => v = (vT (!r70)), fun v _ => v = undef, fun v _ => v = undef, fun v _ => v = undef, fun v _ => v = undef, fun v _ => v = (vT true), fun v _ => v = (vT true), fun v _ => v = undef, fun v _ => v = undef, fun v _ => v = undef, fun v _ => v = undef, fun v _ => v = (vT true)] : List (Value → World → Prop)).getD j (fun _ _ => True)) (fun _ _ h hk => h.keep hk) (gup (Zk (Zk (Zk (Zk (Zk (Zk (Zk (Zk (Zk (Zk (Zk (Zk (Zk (Zk (Zk (Zk (Zk (Zk (Zk (Zk VK))))))))))))))))))))) hE hM.drew (ZL (Zb ?_ (Zb ?_ (Zb ?_ (Zb ?_ (Zb ?_ (Zb ?_ (Zb ?_ (Zb ?_ (Zb ?_ (Zb ?_ (Zb ?_ (Zb ?_ (Zb ?_ (Zb ?_ (Zb ?_ (Zb ?_ (Zb ?_ (Zb ?_ (Zb ?_ (Zb ?_ ZF))))))))))))))))))))) ?_
         ·exact fun a w ux67 hE hM hp => Zg hE Za ld rfl (TO) fun a hE => ⟨Kept.refl _ _, _, _, rfl, hE, rfl⟩
         ·intro a w ux67 hE hM hp
          have f0 : ux67 0 = (ptr b39 (0 + 1)) := hp 0 _ rfl rfl
          exact Zq (v := (vI x29.Version)) hE Za ld (lk rfl f0) ty2 rfl (At.cat (pre := [[vI x29.Number]]) (hM.rawAt (pre := [])) (cl1 (n := 1) (m := 0) rfl cl0)) fun a hE => ⟨Kept.refl _ _, _, _, rfl, hE, rfl⟩
         ·exact fun a w ux67 hE hM hp => Zg hE Za ld rfl (Tu) fun a hE => ⟨Kept.refl _ _, _, _, rfl, hE, rfl⟩
         ·intro a w ux67 hE hM hp
          have f2 : ux67 2 = (ptr b1 (0 + 0)) := hp 0 _ rfl rfl
          exact Zq (v := v0_1) hE Za ld (lk rfl f2) KN rfl (At.cat (pre := []) (hM.rawAt (pre := [_])) cl0) fun a hE => ⟨Kept.refl _ _, _, _, rfl, hE, rfl⟩
         ·intro a w ux67 hE hM hp
          have f3 : ux67 3 = v0_1 := hp 0 _ rfl rfl
          refine Zs hE Za ld (ZY (ZS (lk rfl f3) YT)) jb (XC _ p0.Keys v0_1 (hM.rdo hv0_1) r68 e69) ?_
          rintro v w a ⟨rfl, hK⟩ hE
          exact ⟨hK, _, _, rfl, hE, rfl⟩
         ·intro a w ux67 hE hM hp
          have f4 : ux67 4 = (vI r68) := hp 0 _ rfl rfl
          exact Zh hE Za ld (lk rfl f4) rfl rfl fun a hE => ⟨Kept.refl _ _, _, _, rfl, hE, rfl⟩
         ·intro a w ux67 hE hM hp
          have f1 : ux67 1 = (vI x29.Version) := hp 0 _ rfl rfl
          have f5 : ux67 5 = (vI (wr (r68 - 1))) := hp 1 _ rfl rfl
          refine Zs hE Za ld (ZY (ZS (lk rfl f1) (ZS rfl (ZS (lk rfl f5) YT)))) KT (YV _ x29.Version 0 (wr (r68 - 1)) r70 e71) ?_
          rintro v w a ⟨rfl, hK⟩ hE
          exact ⟨hK, _, _, rfl, hE, rfl⟩
         ·intro a w ux67 hE hM hp
          have f6 : ux67 6 = (vT r70) := hp 0 _ rfl rfl
          exact WA hE Za ld (lk rfl f6) fun a hE => ⟨Kept.refl _ _, _, _, rfl, hE, rfl⟩
         ·intro a w ux67 hE hM hp
          have f7 : ux67 7 = (vT (!r70)) := hp 0 _ rfl rfl
          exact Zd hE Za ld (lk rfl f7) fun a hE => ⟨Kept.refl _ _, _, _, rfl, hE, rfl⟩
         ·intro a w ux67 hE hM hp
          have f8 : ux67 8 = (vT (!r70)) := hp 0 _ rfl rfl
          exact Zw hE rfl (lkb (lk rfl f8) hb72) rfl (by decide) fun a hE => ⟨Kept.refl _ _, _, _, rfl, hE, rfl⟩
         ·intro a w ux67 hE hM hp
          have f8 : ux67 8 = (vT (!r70)) := hp 1 _ rfl rfl
          have f9 : ux67 9 = undef := hp 0 _ rfl rfl
          exact Zw hE rfl (lkb (lk rfl f8) hb72) rfl (by decide) fun a hE => ⟨Kept.refl _ _, _, _, rfl, hE, rfl⟩
         ·intro a w ux67 hE hM hp
          have f8 : ux67 8 = (vT (!r70)) := hp 1 _ rfl rfl
          have f10 : ux67 10 = undef := hp 0 _ rfl rfl
          exact Zw hE rfl (lkb (lk rfl f8) hb72) rfl (by decide) fun a hE => ⟨Kept.refl _ _, _, _, rfl, hE, rfl⟩
         ·intro a w ux67 hE hM hp
          have f8 : ux67 8 = (vT (!r70)) := hp 1 _ rfl rfl
          have f11 : ux67 11 = undef := hp 0 _ rfl rfl
          exact Zw hE rfl (lkb (lk rfl f8) hb72) rfl (by decide) fun a hE => ⟨Kept.refl _ _, _, _, rfl, hE, rfl⟩
         ·intro a w ux67 hE hM hp
          have f8 : ux67 8 = (vT (!r70)) := hp 0 _ rfl rfl
          have f12 : ux67 12 = undef := hp 1 _ rfl rfl
          exact Z9 hE Za ld (lkb (lk rfl f8) hb72) rfl fun a hE => ⟨Kept.refl _ _, _, _, rfl, hE, rfl⟩
         ·intro a w ux67 hE hM hp
          have f13 : ux67 13 = (vT true) := hp 0 _ rfl rfl
          exact Zd hE Za ld (lk rfl f13) fun a hE => ⟨Kept.refl _ _, _, _, rfl, hE, rfl⟩
         ·intro a w ux67 hE hM hp
          have f14 : ux67 14 = (vT true) := hp 0 _ rfl rfl
          exact Zw hE rfl (lk rfl f14) rfl (by decide) fun a hE => ⟨Kept.refl _ _, _, _, rfl, hE, rfl⟩
         ·intro a w ux67 hE hM hp
          have f14 : ux67 14 = (vT true) := hp 1 _ rfl rfl
          have f15 : ux67 15 = undef := hp 0 _ rfl rfl
          exact Zw hE rfl (lk rfl f14) rfl (by decide) fun a hE => ⟨Kept.refl _ _, _, _, rfl, hE, rfl⟩
         ·intro a w ux67 hE hM hp
          have f14 : ux67 14 = (vT true) := hp 1 _ rfl rfl
          have f16 : ux67 16 = undef := hp 0 _ rfl rfl
          exact Zw hE rfl (lk rfl f14) rfl (by decide) fun a hE => ⟨Kept.refl _ _, _, _, rfl, hE, rfl⟩
         ·intro a w ux67 hE hM hp
          have f14 : ux67 14 = (vT true) := hp 1 _ rfl rfl
          have f17 : ux67 17 = undef := hp 0 _ rfl rfl
          exact Zw hE rfl (lk rfl f14) rfl (by decide) fun a hE => ⟨Kept.refl _ _, _, _, rfl, hE, rfl⟩
         ·intro a w ux67 hE hM hp
          have f14 : ux67 14 = (vT true) := hp 0 _ rfl rfl
          have f18 : ux67 18 = undef := hp 1 _ rfl rfl
          exact Z9 hE Za ld (lk rfl f14) rfl fun a hE => ⟨Kept.refl _ _, _, _, rfl, hE, rfl⟩
         ·intro a w ux67 hE hM hg
          have hE := hE.sub (e' := [(78, vT true), (1, (ptr b1 0)), (4, (ptr b39 0)), (29, v0_2), (30, (vI (p0.Records.length : Int))), (31, vI s24), (58, vT j41)]) ⟨lk rfl (hg 19 (by decide)), rfl, rfl, rfl, rfl, rfl, rfl, trivial⟩
          refine Zi ?_
          have ht73 := Option.some.inj hl65
          subst ht73
          refine Zl ?_
          have hM := hM.pull (pre := [_])
          have hM := M.fst (l := [_]) hM
          exact ⟨hE.sub ⟨rfl, rfl, rfl, rfl, rfl, trivial⟩, hM⟩
        ·have hl65 := ZB hl65 hb72
         refine Wc (decide ((x29.Label.length : Int) > 32)) (fun hb74 => ?_) (fun hb74 => ?_)
         ·have hl65 := ZA hl65 hb74
          refine Yr (n := 84) (hd := [_, _, _, _, _, _, _, _, _, _, _, _, _, _, _, _, _, _, _, _]) (tl := []) YN rfl rfl [59, 60, 61, 62, 63, 64, 65, 66, 67, 68, 69, 70, 71, 72, 73, 74, 75, 76, 77, 78] (by decide) (fun w => M (Old w0) w0 w [raw b39 (cat [[vI x29.Number], [vI x29.Version], enc x29.Nonce, [u35], [u37], enc x29.Tag]), raw b1 (cat [[v0_1], [vI p0.Next], [v0_2], [v0_3], enc p0.Head])]) (fun j => ([fun v _ => v = (ptr b39 (0 + 1)), fun v _ => v = (vI x29.Version), fun v _ => v = (ptr b1 (0 + 0)), fun v _ => v = v0_1, fun v _ => v = (vI r68), fun v _ => v = (vI (wr (r68 - 1))), fun v _ => v = (vT r70), fun v _ => v = (vT (!r70)), fun v _ => v = (vT (!r70)), fun v _ => v = (ptr b39 (0 + 18)), fun v _ => v = u35, fun v _ => v = (vI (x29.Label.length : Int)), fun v _ => v = (vT (decide ((x29.Label.length : Int) > 32))), fun v _ => v = (vT (decide ((x29.Label.length : Int) > 32))), fun v _ => v = (vT (decide ((x29.Label.length : Int) > 32))), fun v _ => v = undef, fun v _ => v = undef, fun v _ => v = undef, fun v _ => v = undef, fun v _ => v = (vT true)] : List (Value → World → Prop)).getD j (fun _ _ => True)) (fun _ _ h hk => h.keep hk) (gup (Zk (Zk (Zk (Zk (Zk (Zk (Zk (Zk (Zk (Zk (Zk (Zk (Zk (Zk (Zk (Zk (Zk (Zk (Zk (Zk VK))))))))))))))))))))) hE hM.drew (ZL (Zb ?_ (Zb ?_ (Zb ?_ (Zb ?_ (Zb ?_ (Zb ?_ (Zb ?_ (Zb ?_ (Zb ?_ (Zb ?_ (Zb ?_ (Zb ?_ (Zb ?_ (Zb ?_ (Zb ?_ (Zb ?_ (Zb ?_ (Zb ?_ (Zb ?_ (Zb ?_ ZF))))))))))))))))))))) ?_
          ·exact fun a w ux67 hE hM hp => Zg hE Za ld rfl (TO) fun a hE => ⟨Kept.refl _ _, _, _, rfl, hE, rfl⟩
          ·intro a w ux67 hE hM hp
           have f0 : ux67 0 = (ptr b39 (0 + 1)) := hp 0 _ rfl rfl
           exact Zq (v := (vI x29.Version)) hE Za ld (lk rfl f0) ty2 rfl (At.cat (pre := [[vI x29.Number]]) (hM.rawAt (pre := [])) (cl1 (n := 1) (m := 0) rfl cl0)) fun a hE => ⟨Kept.refl _ _, _, _, rfl, hE, rfl⟩
          ·exact fun a w ux67 hE hM hp => Zg hE Za ld rfl (Tu) fun a hE => ⟨Kept.refl _ _, _, _, rfl, hE, rfl⟩
          ·intro a w ux67 hE hM hp
           have f2 : ux67 2 = (ptr b1 (0 + 0)) := hp 0 _ rfl rfl
           exact Zq (v := v0_1) hE Za ld (lk rfl f2) KN rfl (At.cat (pre := []) (hM.rawAt (pre := [_])) cl0) fun a hE => ⟨Kept.refl _ _, _, _, rfl, hE, rfl⟩
          ·intro a w ux67 hE hM hp
           have f3 : ux67 3 = v0_1 := hp 0 _ rfl rfl
           refine Zs hE Za ld (ZY (ZS (lk rfl f3) YT)) jb (XC _ p0.Keys v0_1 (hM.rdo hv0_1) r68 e69) ?_
           rintro v w a ⟨rfl, hK⟩ hE
           exact ⟨hK, _, _, rfl, hE, rfl⟩
          ·intro a w ux67 hE hM hp
           have f4 : ux67 4 = (vI r68) := hp 0 _ rfl rfl
           exact Zh hE Za ld (lk rfl f4) rfl rfl fun a hE => ⟨Kept.refl _ _, _, _, rfl, hE, rfl⟩
          ·intro a w ux67 hE hM hp
           have f1 : ux67 1 = (vI x29.Version) := hp 0 _ rfl rfl
           have f5 : ux67 5 = (vI (wr (r68 - 1))) := hp 1 _ rfl rfl
           refine Zs hE Za ld (ZY (ZS (lk rfl f1) (ZS rfl (ZS (lk rfl f5) YT)))) KT (YV _ x29.Version 0 (wr (r68 - 1)) r70 e71) ?_
           rintro v w a ⟨rfl, hK⟩ hE
           exact ⟨hK, _, _, rfl, hE, rfl⟩
          ·intro a w ux67 hE hM hp
           have f6 : ux67 6 = (vT r70) := hp 0 _ rfl rfl
           exact WA hE Za ld (lk rfl f6) fun a hE => ⟨Kept.refl _ _, _, _, rfl, hE, rfl⟩
          ·intro a w ux67 hE hM hp
           have f7 : ux67 7 = (vT (!r70)) := hp 0 _ rfl rfl
           exact Zd hE Za ld (lk rfl f7) fun a hE => ⟨Kept.refl _ _, _, _, rfl, hE, rfl⟩
          ·intro a w ux67 hE hM hp
           have f8 : ux67 8 = (vT (!r70)) := hp 0 _ rfl rfl
           exact Zg hE (Zx hE rfl (lkb (lk rfl f8) hb72)) (by decide) rfl (Qn) fun a hE => ⟨Kept.refl _ _, _, _, rfl, hE, rfl⟩
          ·intro a w ux67 hE hM hp
           have f8 : ux67 8 = (vT (!r70)) := hp 1 _ rfl rfl
           have f9 : ux67 9 = (ptr b39 (0 + 18)) := hp 0 _ rfl rfl
           exact Zq (v := u35) hE (Zx hE rfl (lkb (lk rfl f8) hb72)) (by decide) (lk rfl f9) Ua rfl (At.cat (pre := [[vI x29.Number], [vI x29.Version], enc x29.Nonce]) (hM.rawAt (pre := [])) (cl1 (n := 1) (m := 17) rfl (cl1 (n := 1) (m := 16) rfl (cl1 (n := 16) (m := 0) (Flat.len _) cl0)))) fun a hE => ⟨Kept.refl _ _, _, _, rfl, hE, rfl⟩
          ·intro a w ux67 hE hM hp
           have f8 : ux67 8 = (vT (!r70)) := hp 1 _ rfl rfl
           have f10 : ux67 10 = u35 := hp 0 _ rfl rfl
           exact Z6 hE (Zx hE rfl (lkb (lk rfl f8) hb72)) (by decide) (lk rfl f10) Tryz.underlying57 (hM.rd h36) fun a hE => ⟨Kept.refl _ _, _, _, rfl, hE, rfl⟩
          ·intro a w ux67 hE hM hp
           have f8 : ux67 8 = (vT (!r70)) := hp 1 _ rfl rfl
           have f11 : ux67 11 = (vI (x29.Label.length : Int)) := hp 0 _ rfl rfl
           exact Zh hE (Zx hE rfl (lkb (lk rfl f8) hb72)) (by decide) (lk rfl f11) rfl rfl fun a hE => ⟨Kept.refl _ _, _, _, rfl, hE, rfl⟩
          ·intro a w ux67 hE hM hp
           have f8 : ux67 8 = (vT (!r70)) := hp 0 _ rfl rfl
           have f12 : ux67 12 = (vT (decide ((x29.Label.length : Int) > 32))) := hp 1 _ rfl rfl
           exact YL hE Za ld (lkb (lk rfl f8) hb72) (lk rfl f12) fun a hE => ⟨Kept.refl _ _, _, _, rfl, hE, rfl⟩
          ·intro a w ux67 hE hM hp
           have f13 : ux67 13 = (vT (decide ((x29.Label.length : Int) > 32))) := hp 0 _ rfl rfl
           exact Zd hE Za ld (lk rfl f13) fun a hE => ⟨Kept.refl _ _, _, _, rfl, hE, rfl⟩
          ·intro a w ux67 hE hM hp
           have f14 : ux67 14 = (vT (decide ((x29.Label.length : Int) > 32))) := hp 0 _ rfl rfl
           exact Zw hE rfl (lkb (lk rfl f14) hb74) rfl (by decide) fun a hE => ⟨Kept.refl _ _, _, _, rfl, hE, rfl⟩
          ·intro a w ux67 hE hM hp
           have f14 : ux67 14 = (vT (decide ((x29.Label.length : Int) > 32))) := hp 1 _ rfl rfl
           have f15 : ux67 15 = undef := hp 0 _ rfl rfl
           exact Zw hE rfl (lkb (lk rfl f14) hb74) rfl (by decide) fun a hE => ⟨Kept.refl _ _, _, _, rfl, hE, rfl⟩
          ·intro a w ux67 hE hM hp
           have f14 : ux67 14 = (vT (decide ((x29.Label.length : Int) > 32))) := hp 1 _ rfl rfl
           have f16 : ux67 16 = undef := hp 0 _ rfl rfl
           exact Zw hE rfl (lkb (lk rfl f14) hb74) rfl (by decide) fun a hE => ⟨Kept.refl _ _, _, _, rfl, hE, rfl⟩
          ·intro a w ux67 hE hM hp
           have f14 : ux67 14 = (vT (decide ((x29.Label.length : Int) > 32))) := hp 1 _ rfl rfl
           have f17 : ux67 17 = undef := hp 0 _ rfl rfl
           exact Zw hE rfl (lkb (lk rfl f14) hb74) rfl (by decide) fun a hE => ⟨Kept.refl _ _, _, _, rfl, hE, rfl⟩
          ·intro a w ux67 hE hM hp
           have f14 : ux67 14 = (vT (decide ((x29.Label.length : Int) > 32))) := hp 0 _ rfl rfl
           have f18 : ux67 18 = undef := hp 1 _ rfl rfl
           exact Z9 hE Za ld (lkb (lk rfl f14) hb74) rfl fun a hE => ⟨Kept.refl _ _, _, _, rfl, hE, rfl⟩
          ·intro a w ux67 hE hM hg
           have hE := hE.sub (e' := [(78, vT true), (1, (ptr b1 0)), (4, (ptr b39 0)), (29, v0_2), (30, (vI (p0.Records.length : Int))), (31, vI s24), (58, vT j41)]) ⟨lk rfl (hg 19 (by decide)), rfl, rfl, rfl, rfl, rfl, rfl, trivial⟩
           refine Zi ?_
           have ht75 := Option.some.inj hl65
           subst ht75
           refine Zl ?_
           have hM := hM.pull (pre := [_])
           have hM := M.fst (l := [_]) hM
           exact ⟨hE.sub ⟨rfl, rfl, rfl, rfl, rfl, trivial⟩, hM⟩
         ·have hl65 := ZB hl65 hb74
          refine Yr (n := 84) (hd := [_, _, _, _, _, _, _, _, _, _, _, _, _, _, _, _, _, _, _, _]) (tl := []) YN rfl rfl [59, 60, 61, 62, 63, 64, 65, 66, 67, 68, 69, 70, 71, 72, 73, 74, 75, 76, 77, 78] (by decide) (fun w => M (Old w0) w0 w [raw b39 (cat [[vI x29.Number], [vI x29.Version], enc x29.Nonce, [u35], [u37], enc x29.Tag]), raw b1 (cat [[v0_1], [vI p0.Next], [v0_2], [v0_3], enc p0.Head])]) (fun j => ([fun v _ => v = (ptr b39 (0 + 1)), fun v _ => v = (vI x29.Version), fun v _ => v = (ptr b1 (0 + 0)), fun v _ => v = v0_1, fun v _ => v = (vI r68), fun v _ => v = (vI (wr (r68 - 1))), fun v _ => v = (vT r70), fun v _ => v = (vT (!r70)), fun v _ => v = (vT (!r70)), fun v _ => v = (ptr b39 (0 + 18)), fun v _ => v = u35, fun v _ => v = (vI (x29.Label.length : Int)), fun v _ => v = (vT (decide ((x29.Label.length : Int) > 32))), fun v _ => v = (vT (decide ((x29.Label.length : Int) > 32))), fun v _ => v = (vT (decide ((x29.Label.length : Int) > 32))), fun v _ => v = (ptr b39 (0 + 19)), fun v _ => v = u37, fun v _ => v = (vI (x29.Body.length : Int)), fun v _ => v = (vT (decide ((x29.Body.length : Int) > 200))), fun v _ => v = (vT (decide ((x29.Body.length : Int) > 200)))] : List (Value → World → Prop)).getD j (fun _ _ => True)) (fun _ _ h hk => h.keep hk) (gup (Zk (Zk (Zk (Zk (Zk (Zk (Zk (Zk (Zk (Zk (Zk (Zk (Zk (Zk (Zk (Zk (Zk (Zk (Zk (Zk VK))))))))))))))))))))) hE hM.drew (ZL (Zb ?_ (Zb ?_ (Zb ?_ (Zb ?_ (Zb ?_ (Zb ?_ (Zb ?_ (Zb ?_ (Zb ?_ (Zb ?_ (Zb ?_ (Zb ?_ (Zb ?_ (Zb ?_ (Zb ?_ (Zb ?_ (Zb ?_ (Zb ?_ (Zb ?_ (Zb ?_ ZF))))))))))))))))))))) ?_
          ·exact fun a w ux67 hE hM hp => Zg hE Za ld rfl (TO) fun a hE => ⟨Kept.refl _ _, _, _, rfl, hE, rfl⟩
          ·intro a w ux67 hE hM hp
           have f0 : ux67 0 = (ptr b39 (0 + 1)) := hp 0 _ rfl rfl
           exact Zq (v := (vI x29.Version)) hE Za ld (lk rfl f0) ty2 rfl (At.cat (pre := [[vI x29.Number]]) (hM.rawAt (pre := [])) (cl1 (n := 1) (m := 0) rfl cl0)) fun a hE => ⟨Kept.refl _ _, _, _, rfl, hE, rfl⟩
          ·exact fun a w ux67 hE hM hp => Zg hE Za ld rfl (Tu) fun a hE => ⟨Kept.refl _ _, _, _, rfl, hE, rfl⟩
          ·intro a w ux67 hE hM hp
           have f2 : ux67 2 = (ptr b1 (0 + 0)) := hp 0 _ rfl rfl
           exact Zq (v := v0_1) hE Za ld (lk rfl f2) KN rfl (At.cat (pre := []) (hM.rawAt (pre := [_])) cl0) fun a hE => ⟨Kept.refl _ _, _, _, rfl, hE, rfl⟩
          ·intro a w ux67 hE hM hp
           have f3 : ux67 3 = v0_1 := hp 0 _ rfl rfl
           refine Zs hE Za ld (ZY (ZS (lk rfl f3) YT)) jb (XC _ p0.Keys v0_1 (hM.rdo hv0_1) r68 e69) ?_
           rintro v w a ⟨rfl, hK⟩ hE
           exact ⟨hK, _, _, rfl, hE, rfl⟩
          ·intro a w ux67 hE hM hp
           have f4 : ux67 4 = (vI r68) := hp 0 _ rfl rfl
           exact Zh hE Za ld (lk rfl f4) rfl rfl fun a hE => ⟨Kept.refl _ _, _, _, rfl, hE, rfl⟩
          ·intro a w ux67 hE hM hp
           have f1 : ux67 1 = (vI x29.Version) := hp 0 _ rfl rfl
           have f5 : ux67 5 = (vI (wr (r68 - 1))) := hp 1 _ rfl rfl
           refine Zs hE Za ld (ZY (ZS (lk rfl f1) (ZS rfl (ZS (lk rfl f5) YT)))) KT (YV _ x29.Version 0 (wr (r68 - 1)) r70 e71) ?_
           rintro v w a ⟨rfl, hK⟩ hE
           exact ⟨hK, _, _, rfl, hE, rfl⟩
          ·intro a w ux67 hE hM hp
           have f6 : ux67 6 = (vT r70) := hp 0 _ rfl rfl
           exact WA hE Za ld (lk rfl f6) fun a hE => ⟨Kept.refl _ _, _, _, rfl, hE, rfl⟩
          ·intro a w ux67 hE hM hp
           have f7 : ux67 7 = (vT (!r70)) := hp 0 _ rfl rfl
           exact Zd hE Za ld (lk rfl f7) fun a hE => ⟨Kept.refl _ _, _, _, rfl, hE, rfl⟩
          ·intro a w ux67 hE hM hp
           have f8 : ux67 8 = (vT (!r70)) := hp 0 _ rfl rfl
           exact Zg hE (Zx hE rfl (lkb (lk rfl f8) hb72)) (by decide) rfl (Qn) fun a hE => ⟨Kept.refl _ _, _, _, rfl, hE, rfl⟩
          ·intro a w ux67 hE hM hp
           have f8 : ux67 8 = (vT (!r70)) := hp 1 _ rfl rfl
           have f9 : ux67 9 = (ptr b39 (0 + 18)) := hp 0 _ rfl rfl
           exact Zq (v := u35) hE (Zx hE rfl (lkb (lk rfl f8) hb72)) (by decide) (lk rfl f9) Ua rfl (At.cat (pre := [[vI x29.Number], [vI x29.Version], enc x29.Nonce]) (hM.rawAt (pre := [])) (cl1 (n := 1) (m := 17) rfl (cl1 (n := 1) (m := 16) rfl (cl1 (n := 16) (m := 0) (Flat.len _) cl0)))) fun a hE => ⟨Kept.refl _ _, _, _, rfl, hE, rfl⟩
          ·intro a w ux67 hE hM hp
           have f8 : ux67 8 = (vT (!r70)) := hp 1 _ rfl rfl
           have f10 : ux67 10 = u35 := hp 0 _ rfl rfl
           exact Z6 hE (Zx hE rfl (lkb (lk rfl f8) hb72)) (by decide) (lk rfl f10) Tryz.underlying57 (hM.rd h36) fun a hE => ⟨Kept.refl _ _, _, _, rfl, hE, rfl⟩
          ·intro a w ux67 hE hM hp
           have f8 : ux67 8 = (vT (!r70)) := hp 1 _ rfl rfl
           have f11 : ux67 11 = (vI (x29.Label.length : Int)) := hp 0 _ rfl rfl
           exact Zh hE (Zx hE rfl (lkb (lk rfl f8) hb72)) (by decide) (lk rfl f11) rfl rfl fun a hE => ⟨Kept.refl _ _, _, _, rfl, hE, rfl⟩
          ·intro a w ux67 hE hM hp
           have f8 : ux67 8 = (vT (!r70)) := hp 0 _ rfl rfl
           have f12 : ux67 12 = (vT (decide ((x29.Label.length : Int) > 32))) := hp 1 _ rfl rfl
           exact YL hE Za ld (lkb (lk rfl f8) hb72) (lk rfl f12) fun a hE => ⟨Kept.refl _ _, _, _, rfl, hE, rfl⟩
          ·intro a w ux67 hE hM hp
           have f13 : ux67 13 = (vT (decide ((x29.Label.length : Int) > 32))) := hp 0 _ rfl rfl
           exact Zd hE Za ld (lk rfl f13) fun a hE => ⟨Kept.refl _ _, _, _, rfl, hE, rfl⟩
          ·intro a w ux67 hE hM hp
           have f14 : ux67 14 = (vT (decide ((x29.Label.length : Int) > 32))) := hp 0 _ rfl rfl
           exact Zg hE (Zx hE rfl (lkb (lk rfl f14) hb74)) (by decide) rfl (QA) fun a hE => ⟨Kept.refl _ _, _, _, rfl, hE, rfl⟩
          ·intro a w ux67 hE hM hp
           have f14 : ux67 14 = (vT (decide ((x29.Label.length : Int) > 32))) := hp 1 _ rfl rfl
           have f15 : ux67 15 = (ptr b39 (0 + 19)) := hp 0 _ rfl rfl
           exact Zq (v := u37) hE (Zx hE rfl (lkb (lk rfl f14) hb74)) (by decide) (lk rfl f15) Ua rfl (At.cat (pre := [[vI x29.Number], [vI x29.Version], enc x29.Nonce, [u35]]) (hM.rawAt (pre := [])) (cl1 (n := 1) (m := 18) rfl (cl1 (n := 1) (m := 17) rfl (cl1 (n := 16) (m := 1) (Flat.len _) (cl1 (n := 1) (m := 0) rfl cl0))))) fun a hE => ⟨Kept.refl _ _, _, _, rfl, hE, rfl⟩
          ·intro a w ux67 hE hM hp
           have f14 : ux67 14 = (vT (decide ((x29.Label.length : Int) > 32))) := hp 1 _ rfl rfl
           have f16 : ux67 16 = u37 := hp 0 _ rfl rfl
           exact Z6 hE (Zx hE rfl (lkb (lk rfl f14) hb74)) (by decide) (lk rfl f16) Tryz.underlying57 (hM.rd h38) fun a hE => ⟨Kept.refl _ _, _, _, rfl, hE, rfl⟩
          ·intro a w ux67 hE hM hp
           have f14 : ux67 14 = (vT (decide ((x29.Label.length : Int) > 32))) := hp 1 _ rfl rfl
           have f17 : ux67 17 = (vI (x29.Body.length : Int)) := hp 0 _ rfl rfl
           exact Zh hE (Zx hE rfl (lkb (lk rfl f14) hb74)) (by decide) (lk rfl f17) rfl rfl fun a hE => ⟨Kept.refl _ _, _, _, rfl, hE, rfl⟩
          ·intro a w ux67 hE hM hp
           have f14 : ux67 14 = (vT (decide ((x29.Label.length : Int) > 32))) := hp 0 _ rfl rfl
           have f18 : ux67 18 = (vT (decide ((x29.Body.length : Int) > 200))) := hp 1 _ rfl rfl
           exact YL hE Za ld (lkb (lk rfl f14) hb74) (lk rfl f18) fun a hE => ⟨Kept.refl _ _, _, _, rfl, hE, rfl⟩
          ·intro a w ux67 hE hM hg
           have hE := hE.sub (e' := [(78, (vT (decide ((x29.Body.length : Int) > 200)))), (1, (ptr b1 0)), (4, (ptr b39 0)), (29, v0_2), (30, (vI (p0.Records.length : Int))), (31, vI s24), (58, vT j41)]) ⟨lk rfl (hg 19 (by decide)), rfl, rfl, rfl, rfl, rfl, rfl, trivial⟩
           refine Zi ?_
           have ht76 := Option.some.inj hl65
           subst ht76
           refine Zl ?_
           have hM := hM.pull (pre := [_])
           have hM := M.fst (l := [_]) hM
           exact ⟨hE.sub ⟨rfl, rfl, rfl, rfl, rfl, trivial⟩, hM⟩
       ·skip
        rintro a w ⟨hE, hM⟩
        refine Zv hE rfl ?_ ?_
        ·intro hb77
         have hF66 := ZA hF66 hb77
         refine Zc (Ze hE Za ld rfl fun a hE => Zf ?_)
         have ht78 := hx26 _ (Option.some.inj hF66).symm
         subst ht78
         have hr := Option.some.inj hF22
         subst hr
         have hM := M.fst (l := []) hM
         exact wp_ret (Wl (ZE (ZE (Wl (ZE (ZE (Zy hE rfl (Zu hE rfl) ⟨_, rfl, rfl, hM.kept⟩)))))))
        ·intro hb77
         have hF66 := ZB hF66 hb77
         refine wp_skip (Ye (Zz (wp_region_lit (Zh hE Za ld rfl rfl rfl fun a hE => Zd hE Za ld rfl fun a hE => Zi (Zl ?_)))))
         exact ⟨_, (Option.some.inj hF66).symm, hE.sub ⟨rfl, rfl, rfl, rfl, trivial⟩, hM⟩
    ·intro hb28
     have hs25 := ZB hs25 hb28
     refine wp_exit (Zp (Zp (Yc ?_)))
     have ht79 := hx26 _ (Option.some.inj hs25).symm
     subst ht79
     refine Zl ?_
     exact ⟨(), rfl, hE.sub ⟨rfl, trivial⟩, hM⟩
   ·skip
    rintro a w ⟨s23, ht, hE, hM⟩
    subst ht
    have hF22 := Qo hF22
    refine Zz (Zc (Zg hE Za ld rfl (QW) fun a hE => Zq (v := v0_3) hE Za ld rfl Ap rfl (At.cat (pre := [[v0_1], [vI p0.Next], [v0_2]]) (hM.rawAt (pre := [])) (cl1 (n := 1) (m := 2) rfl (cl1 (n := 1) (m := 1) rfl (cl1 (n := 1) (m := 0) rfl cl0)))) ?_)); intro a hE
    obtain ⟨r80, e81, hF22⟩ := bind_some hF22
    refine Zs hE Za ld rfl cb170 (VU _ p0.Events v0_3 (hM.rdo hv0_3) (fun z0 => Vy z0) 171 [] cb171 (fun w2 hk2 z0 zr zhr => Hc w2 z0 zr zhr) r80 e81) ?_
    rintro v w a ⟨rfl, hK⟩ hE
    have hM := hM.keep hK
    refine WA hE Za ld rfl fun a hE => Ze hE Za ld rfl fun a hE => Zf ?_
    have hr := Option.some.inj hF22
    subst hr
    have hM := M.fst (l := []) hM
    exact wp_ret (Zy hE rfl (Zu hE rfl) ⟨_, rfl, rfl, hM.kept⟩)
noncomputable def Yt (p0 : (List GRecord)) (p1 : GRecord → Option (Bool)) (s5 : Int) : Option (Fl Int (Fl Unit Int)) :=
 if (decide (s5 < (p0.length : Int))) = true then ((idx p0 s5).bind fun x10 => ((p1 x10)).bind fun r20 => if r20 = true then (some (Fl.ex (Fl.ex s5))) else (some (Fl.nx (wr (s5 + 1))))) else (some (Fl.ex (Fl.nx ())))
noncomputable def Yd (p0 : (List GRecord)) (p1 : GRecord → Option (Bool)) : Option (Int) :=
 (ZG (Yt p0 p1) 0 : Option (Fl Unit Int)).bind fun j1 => j1.el (fun s4 => some (-1)) (fun r => some r)
theorem V6 (w0 : World) (p0 : (List GRecord)) (v0_1 : Value) (hv0_1 : Ro w0 p0 [v0_1]) (p1 : GRecord → Option (Bool)) (k1 : Nat) (q1 : List Value) (hcb1 : Callable Tryz.prog k1) (hg1 : ∀ (w2 : World), Kept (Old w0) w0 w2 → ∀ (z0 : GRecord) (zu1 : Value) (_ : Ro w2 z0.Label [zu1]) (zu2 : Value) (_ : Ro w2 z0.Body [zu2]) (zr : Bool), p1 z0 = some zr → Calls Tryz.prog k1 ([(Value.agg (cat [[vI z0.Number], [vI z0.Version], enc z0.Nonce, [zu1], [zu2], enc z0.Tag]).toArray)] ++ q1).toArray w2 (fun en w3 => ∃ v, en = .returned v ∧ (v = (vT zr) ∧ Kept (Old w2) w2 w3))) (r : Int) (hF : Yd p0 p1 = some r) :
  Calls Tryz.prog 183 [v0_1, (Value.func (.func k1) #[] q1.toArray)].toArray w0 (fun en w' => ∃ v, en = .returned v ∧ (v = (vI r) ∧ Kept (Old w0) w0 w')) := by
 refine ZD (n := 19) Tryz.func183 rfl rfl (Nat.le_of_ble_eq_true rfl) rfl ?_
 intro a hE
 have hM := M.start w0
 unfold Yd at hF
 refine Zc (Ze hE Za ld rfl fun a hE => Zf (wp_seq (Zc (Zd hE Za ld rfl fun a hE => Z6 hE Za ld rfl Tryz.underlying33 (hM.rd hv0_1) fun a hE => Zd hE Za ld rfl fun a hE => Zf ?_))))
 obtain ⟨j1, hl2, hF3⟩ := bind_some hF
 refine ZR (fun a w => ∃ s4 : Unit, j1 = Fl.nx s4 ∧ Env 19 a [] ∧ M (Old w0) w0 w []) ?_ ?_
 ·skip
  refine wp_block ?_
  refine ZK (fun (s5 : Int) a w => Env 19 a [(0, v0_1), (1, (Value.func (.func k1) #[] q1.toArray)), (7, (vI (p0.length : Int))), (8, vI s5)] ∧ M (Old w0) w0 w []) hl2 ⟨hE.sub ⟨rfl, rfl, rfl, rfl, trivial⟩, hM⟩ ?_
  rintro s5 a w ⟨hE, hM⟩ o8 hs6 hx7
  unfold Yt at hs6
  refine Zc (Zh hE Za ld rfl rfl rfl fun a hE => Zf (wp_seq ?_))
  refine Zv hE rfl ?_ ?_
  ·intro hb9
   have hs6 := ZA hs6 hb9
   refine wp_skip (Zz (wp_seq (wp_block (Zc (Zd hE Za ld rfl fun a hE => Ze hE Za ld rfl fun a hE => Zf (Zc (Zd hE Za ld rfl fun a hE => Zd hE Za ld rfl fun a hE => Zd hE Za ld rfl ?_))))))); intro a hE
   obtain ⟨x10, e11, hs6⟩ := bind_some hs6
   have hi12 := ZO e11
   refine ZN hE Za ld rfl rfl Tryz.underlying33 Wx (hM.rd hv0_1) hi12.1 ?_; intro a hE
   obtain ⟨cs13, hs14, hA15⟩ := Vn hv0_1 hi12.2 -- ^
   obtain ⟨u16, u18, rfl, h17, h19⟩ := Y8 hs14 -- ^
   refine Zm (cs := cat [[vI x10.Number], [vI x10.Version], enc x10.Nonce, [u16], [u18], enc x10.Tag]) hE Za ld rfl Wx rfl (hM.atk hA15 (Tc hv0_1 hi12.2)) (ZC (cl1 (n := 1) (m := 51) rfl (cl1 (n := 1) (m := 50) rfl (cl1 (n := 16) (m := 34) (Flat.len _) (cl1 (n := 1) (m := 33) rfl (cl1 (n := 1) (m := 32) rfl (cl1 (n := 32) (m := 0) (Flat.len _) cl0))))))) ?_; intro a hE
   obtain ⟨r20, e21, hs6⟩ := bind_some hs6
   refine zB (vs := [(Value.agg (cat [[vI x10.Number], [vI x10.Version], enc x10.Nonce, [u16], [u18], enc x10.Tag]).toArray)]) hE Za ld rfl rfl hcb1 (hg1 _ hM.kept x10 u16 (hM.rdo h17) u18 (hM.rdo h19) r20 e21) ?_
   rintro v w a ⟨rfl, hK⟩ hE
   have hM := hM.keep hK
   refine Zf ?_
   refine Zv hE rfl ?_ ?_
   ·intro hb22
    have hs6 := ZA hs6 hb22
    refine Zc (Zd hE Za ld rfl fun a hE => Ze hE Za ld rfl fun a hE => Zf ?_)
    have ht23 := hx7 _ (Option.some.inj hs6).symm
    subst ht23
    have hr := Option.some.inj hF3
    subst hr
    exact wp_ret (Wl (ZE (ZE (Wl (ZE (ZE (Zy hE rfl (Zu hE rfl) ⟨_, rfl, rfl, hM.kept⟩)))))))
   ·intro hb22
    have hs6 := ZB hs6 hb22
    refine wp_skip (Ye (Zz (wp_region_lit (Zh hE Za ld rfl rfl rfl fun a hE => Zd hE Za ld rfl fun a hE => Zi (Zl ?_)))))
    exact ⟨_, (Option.some.inj hs6).symm, hE.sub ⟨rfl, rfl, rfl, rfl, trivial⟩, hM⟩
  ·intro hb9
   have hs6 := ZB hs6 hb9
   refine wp_exit (Zp (Zp (Yc ?_)))
   have ht24 := hx7 _ (Option.some.inj hs6).symm
   subst ht24
   refine Zl ?_
   exact ⟨(), rfl, hE.sub trivial, hM⟩
 ·skip
  rintro a w ⟨s4, ht, hE, hM⟩
  subst ht
  have hF3 := Qo hF3
  refine Zz (Zc (Ze hE Za ld rfl fun a hE => Zf ?_))
  have hr := Option.some.inj hF3
  subst hr
  exact wp_ret (Zy hE rfl (Zu hE rfl) ⟨_, rfl, rfl, hM.kept⟩)
noncomputable def Vf (p0 : GRecord) (p1 : Int) : Option (Bool) :=
 some (p0.Number == p1)
theorem Kb (w0 : World) (p0 : GRecord) (v0_1 : Value) (hv0_1 : Ro w0 p0.Label [v0_1]) (v0_2 : Value) (hv0_2 : Ro w0 p0.Body [v0_2]) (pb1 : Nat) (p1 : Int) (hA1 : At w0 pb1 0 ([vI p1])) (hB1 : Old w0 pb1) (r : Bool) (hF : Vf p0 p1 = some r) :
  Calls Tryz.prog 184 [(Value.agg (cat [[vI p0.Number], [vI p0.Version], enc p0.Nonce, [v0_1], [v0_2], enc p0.Tag]).toArray), (ptr pb1 0)].toArray w0 (fun en w' => ∃ v, en = .returned v ∧ (v = (vT r) ∧ Kept (Old w0) w0 w')) := by
 refine ZD (n := 8) Tryz.func184 rfl rfl (Nat.le_of_ble_eq_true rfl) rfl ?_
 intro a hE
 have hM := M.start w0
 unfold Vf at hF
 refine Zc (ZX (cs := cat [[vI p0.Number], [vI p0.Version], enc p0.Nonce, [v0_1], [v0_2], enc p0.Tag]) hE hM Za ld rfl rfl fun b1 w a hM hE => Ze hE Za ld rfl fun a hE => Zf (Zc (Zg hE Za ld rfl (Td) fun a hE => Zq (v := (vI p0.Number)) hE Za ld rfl ty2 rfl (At.cat (pre := []) (hM.rawAt (pre := [])) cl0) fun a hE => Zq (v := (vI p1)) hE Za ld rfl ty2 rfl (hM.atk hA1 hB1) fun a hE => Zh hE Za ld rfl rfl rfl fun a hE => Ze hE Za ld rfl ?_))); intro a hE
 refine Zf ?_
 have hr := Option.some.inj hF
 subst hr
 have hM := M.fst (l := []) hM
 exact wp_ret (Zy hE rfl (Zu hE rfl) ⟨_, rfl, rfl, hM.kept⟩)
noncomputable def WK (p0 : GVault) (p1 : Int) : Option (Int) :=
 (Yd p0.Records (fun z0 => Vf z0 p1)).bind fun r5 => some r5
theorem K7 (w0 : World) (p0 : GVault) (v0_1 : Value) (hv0_1 : Ro w0 p0.Keys [v0_1]) (v0_2 : Value) (hv0_2 : Ro w0 p0.Records [v0_2]) (v0_3 : Value) (hv0_3 : Ro w0 p0.Events [v0_3]) (p1 : Int) (r : Int) (hF : WK p0 p1 = some r) :
  Calls Tryz.prog 137 [(Value.agg (cat [[v0_1], [vI p0.Next], [v0_2], [v0_3], enc p0.Head]).toArray), vI p1].toArray w0 (fun en w' => ∃ v, en = .returned v ∧ (v = (vI r) ∧ Kept (Old w0) w0 w')) := by
 refine ZD (n := 9) Tryz.func137 rfl rfl (Nat.le_of_ble_eq_true rfl) rfl ?_
 intro a hE
 have hM := M.start w0
 unfold WK at hF
 refine Zc (ZX (cs := cat [[v0_1], [vI p0.Next], [v0_2], [v0_3], enc p0.Head]) hE hM Za ld rfl rfl fun b1 w a hM hE => ZX (cs := [vI p1]) hE hM Za ld rfl rfl fun b3 w a hM hE => Ze hE Za ld rfl fun a hE => Zf (Zc (Zg hE Za ld rfl (Ut) fun a hE => Zq (v := v0_2) hE Za ld rfl QV rfl (At.cat (pre := [[v0_1], [vI p0.Next]]) (hM.rawAt (pre := [_])) (cl1 (n := 1) (m := 1) rfl (cl1 (n := 1) (m := 0) rfl cl0))) fun a hE => yB hE Za ld rfl ?_))); intro a hE
 obtain ⟨r5, e6, hF⟩ := bind_some hF
 refine Zs hE Za ld rfl cb183 (V6 _ p0.Records v0_2 (hM.rdo hv0_2) (fun z0 => Vf z0 p1) 184 [(ptr b3 0)] cb184 (fun w2 hk2 z0 zu0_0 zh0_0 zu0_1 zh0_1 zr zhr => Kb w2 z0 zu0_0 zh0_0 zu0_1 zh0_1 b3 p1 (km (hM.rawAt (pre := [])) hk2 (by simp [cat])) (zI (hM.rawAt (pre := [])) hk2 (by simp [cat])) zr zhr) r5 e6) ?_
 rintro v w a ⟨rfl, hK⟩ hE
 have hM := hM.keep hK
 refine Ze hE Za ld rfl fun a hE => Zf ?_
 have hr := Option.some.inj hF
 subst hr
 have hM := M.fst (l := []) hM
 exact wp_ret (Zy hE rfl (Zu hE rfl) ⟨_, rfl, rfl, hM.kept⟩)
noncomputable def WC (p0 : GVault) (p1 : Int) : Option (Int × Int) :=
 (UL p0).bind fun r3 => if (!r3) = true then (some (0, 1)) else ((WK p0 p1).bind fun r6 => if (decide (r6 < 0)) = true then (some (0, 4)) else (some (r6, 0)))
theorem Ji (w0 : World) (p0 : GVault) (v0_1 : Value) (hv0_1 : Ro w0 p0.Keys [v0_1]) (v0_2 : Value) (hv0_2 : Ro w0 p0.Records [v0_2]) (v0_3 : Value) (hv0_3 : Ro w0 p0.Events [v0_3]) (p1 : Int) (r : Int × Int) (hF : WC p0 p1 = some r) :
  Calls Tryz.prog 59 [(Value.agg (cat [[v0_1], [vI p0.Next], [v0_2], [v0_3], enc p0.Head]).toArray), vI p1].toArray w0 (fun en w' => ∃ v, en = .returned v ∧ (v = (Value.tuple [vI r.1, vI r.2].toArray) ∧ Kept (Old w0) w0 w')) := by
 refine ZD (n := 16) Tryz.func59 rfl rfl (Nat.le_of_ble_eq_true rfl) rfl ?_
 intro a hE
 have hM := M.start w0
 unfold WC at hF
 refine Zc (ZX (cs := cat [[v0_1], [vI p0.Next], [v0_2], [v0_3], enc p0.Head]) hE hM Za ld rfl rfl fun b1 w a hM hE => Ze hE Za ld rfl fun a hE => Ze hE Za ld rfl fun a hE => Zf (wp_seq (Zc (Zm (cs := cat [[v0_1], [vI p0.Next], [v0_2], [v0_3], enc p0.Head]) hE Za ld rfl Qd rfl (hM.rawAt (pre := [])) (ZC (cl1 (n := 1) (m := 35) rfl (cl1 (n := 1) (m := 34) rfl (cl1 (n := 1) (m := 33) rfl (cl1 (n := 1) (m := 32) rfl (cl1 (n := 32) (m := 0) (Flat.len _) cl0)))))) ?_)))); intro a hE
 obtain ⟨r3, e4, hF⟩ := bind_some hF
 refine Zs hE Za ld rfl cb108 (BS _ p0 v0_1 (hM.rdo hv0_1) v0_2 (hM.rdo hv0_2) v0_3 (hM.rdo hv0_3) r3 e4) ?_
 rintro v w a ⟨rfl, hK⟩ hE
 have hM := hM.keep hK
 refine WA hE Za ld rfl fun a hE => Zf ?_
 refine Zv hE rfl ?_ ?_
 ·intro hb5
  have hF := ZA hF hb5
  refine Zc (Ze hE Za ld rfl fun a hE => Ze hE Za ld rfl fun a hE => Zf ?_)
  have hr := Option.some.inj hF
  subst hr
  have hM := M.fst (l := []) hM
  exact wp_ret (ZE (TQ hE rfl (Zu hE rfl) (Zu hE rfl) ⟨_, rfl, rfl, hM.kept⟩))
 ·intro hb5
  have hF := ZB hF hb5
  refine wp_skip (Zz (Zc (Zm (cs := cat [[v0_1], [vI p0.Next], [v0_2], [v0_3], enc p0.Head]) hE Za ld rfl Qd rfl (hM.rawAt (pre := [])) (ZC (cl1 (n := 1) (m := 35) rfl (cl1 (n := 1) (m := 34) rfl (cl1 (n := 1) (m := 33) rfl (cl1 (n := 1) (m := 32) rfl (cl1 (n := 32) (m := 0) (Flat.len _) cl0)))))) fun a hE => Zd hE Za ld rfl ?_))); intro a hE
  obtain ⟨r6, e7, hF⟩ := bind_some hF
  refine Zs hE Za ld rfl cb137 (K7 _ p0 v0_1 (hM.rdo hv0_1) v0_2 (hM.rdo hv0_2) v0_3 (hM.rdo hv0_3) p1 r6 e7) ?_
  rintro v w a ⟨rfl, hK⟩ hE
  have hM := hM.keep hK
  refine Ze hE Za ld rfl fun a hE => Zf (wp_seq (Zc (Zd hE Za ld rfl fun a hE => Zh hE Za ld rfl rfl rfl fun a hE => Zf ?_)))
  refine Zv hE rfl ?_ ?_
  ·intro hb8
   have hF := ZA hF hb8
   refine Zc (Ze hE Za ld rfl fun a hE => Ze hE Za ld rfl fun a hE => Zf ?_)
   have hr := Option.some.inj hF
   subst hr
   have hM := M.fst (l := []) hM
   exact wp_ret (ZE (TQ hE rfl (Zu hE rfl) (Zu hE rfl) ⟨_, rfl, rfl, hM.kept⟩))
  ·intro hb8
   have hF := ZB hF hb8
   refine wp_skip (Zz (Zc (Zd hE Za ld rfl fun a hE => Ze hE Za ld rfl fun a hE => Ze hE Za ld rfl fun a hE => Zf ?_)))
   have hr := Option.some.inj hF
   subst hr
   have hM := M.fst (l := []) hM
   exact wp_ret (TQ hE rfl (Zu hE rfl) (Zu hE rfl) ⟨_, rfl, rfl, hM.kept⟩)
noncomputable def U4 (p1 : Int) (p2 : Int) (s4 : Int × Int) : Option (Fl (Int × Int) Int) :=
 if (decide (s4.2 ≥ p2)) = true then (((XJ s4.2).bind fun _ => (if ((Qg (Wd s4.1 s4.2) 1) == 1) = true then ((XJ (wr (s4.2 - p2))).bind fun _ => some (Q2 s4.1 (Ai p1 (wr (s4.2 - p2))))) else (some s4.1) : Option (Int)).bind fun j13 => some j13 : Option (Int)).bind fun j9 => some (Fl.nx (j9, wr (s4.2 - 1)))) else (some (Fl.ex s4.1))
noncomputable def TC (p0 : Int) (p1 : Int) (p2 : Int) : Option (Int) :=
 (ZG (U4 p1 p2) (p0, 15) : Option (Int)).bind fun j1 => some j1
theorem yh (w0 : World) (p0 : Int) (p1 : Int) (p2 : Int) (r : Int) (hF : TC p0 p1 p2 = some r) :
  Calls Tryz.prog 249 [vI p0, vI p1, vI p2].toArray w0 (fun en w' => ∃ v, en = .returned v ∧ (v = (vI r) ∧ Kept (Old w0) w0 w')) := by
 refine ZD (n := 26) Tryz.func249 rfl rfl (Nat.le_of_ble_eq_true rfl) rfl ?_
 intro a hE
 have hM := M.start w0
 unfold TC at hF
 refine Zc (Ze hE Za ld rfl fun a hE => Zf (wp_seq (Zc (Ze hE Za ld rfl fun a hE => Zf ?_))))
 obtain ⟨j1, hl2, hF3⟩ := bind_some hF
 refine ZR (fun a w => Env 26 a [(0, vI j1)] ∧ M (Old w0) w0 w []) ?_ ?_
 ·skip
  refine wp_block ?_
  refine ZK (fun (s4 : Int × Int) a w => Env 26 a [(0, vI s4.1), (1, vI p1), (2, vI p2), (7, vI s4.2)] ∧ M (Old w0) w0 w []) hl2 ⟨hE.sub ⟨rfl, rfl, rfl, rfl, trivial⟩, hM⟩ ?_
  rintro s4 a w ⟨hE, hM⟩ o7 hs5 hx6
  unfold U4 at hs5
  refine wp_seq (Zc (Zd hE Za ld rfl fun a hE => Zd hE Za ld rfl fun a hE => Zh hE Za ld rfl rfl rfl fun a hE => Zf ?_))
  refine Zv hE rfl ?_ ?_
  ·intro hb8
   have hs5 := ZA hs5 hb8
   refine wp_skip (Zz ?_)
   obtain ⟨j9, hl10, hF11⟩ := bind_some hs5
   refine ZU (fun a w => Env 26 a [(0, vI j9), (1, vI p1), (2, vI p2), (7, vI s4.2)] ∧ M (Old w0) w0 w []) ?_ ?_
   ·skip
    refine wp_block (Zc (Zd hE Za ld rfl fun a hE => Zd hE Za ld rfl ?_)); intro a hE
    obtain ⟨_, e12, hl10⟩ := bind_some hl10
    have e12 := Vd e12
    refine Ju hE Za ld rfl rfl (Kp _ _ e12) fun a hE => Zh hE Za ld rfl rfl rfl fun a hE => Zh hE Za ld rfl rfl rfl fun a hE => Zf ?_
    obtain ⟨j13, hl14, hF15⟩ := bind_some hl10
    refine ZR (fun a w => Env 26 a [(0, vI j13), (1, vI p1), (2, vI p2), (7, vI s4.2)] ∧ M (Old w0) w0 w []) ?_ ?_
    ·skip
     refine Zv hE rfl ?_ ?_
     ·intro hb16
      have hl14 := ZA hl14 hb16
      refine wp_region_lit (Zd hE Za ld rfl fun a hE => Zd hE Za ld rfl fun a hE => Zd hE Za ld rfl fun a hE => Zd hE Za ld rfl fun a hE => Zh hE Za ld rfl rfl rfl ?_); intro a hE
      obtain ⟨_, e17, hl14⟩ := bind_some hl14
      have e17 := Vd e17
      refine Ju hE Za ld rfl rfl (y4 _ _ e17) fun a hE => Zh hE Za ld rfl rfl rfl fun a hE => Ze hE Za ld rfl fun a hE => Zi ?_
      have ht18 := Option.some.inj hl14
      subst ht18
      refine Zl ?_
      exact ⟨hE.sub ⟨rfl, rfl, rfl, rfl, trivial⟩, hM⟩
     ·intro hb16
      have hl14 := ZB hl14 hb16
      refine wp_skip ?_
      have ht19 := Option.some.inj hl14
      subst ht19
      refine Zl ?_
      exact ⟨hE.sub ⟨rfl, rfl, rfl, rfl, trivial⟩, hM⟩
    ·skip
     rintro a w ⟨hE, hM⟩
     refine Ye ?_
     have ht20 := Option.some.inj hF15
     subst ht20
     refine Zl ?_
     exact ⟨hE.sub ⟨rfl, rfl, rfl, rfl, trivial⟩, hM⟩
   ·skip
    rintro a w ⟨hE, hM⟩
    refine wp_region_lit (Zd hE Za ld rfl fun a hE => Zh hE Za ld rfl rfl rfl fun a hE => Ze hE Za ld rfl fun a hE => Zi (Zl ?_))
    exact ⟨_, (Option.some.inj hF11).symm, hE.sub ⟨rfl, rfl, rfl, rfl, trivial⟩, hM⟩
  ·intro hb8
   have hs5 := ZB hs5 hb8
   refine wp_exit (Zp (Zp (Yc ?_)))
   have ht21 := hx6 _ (Option.some.inj hs5).symm
   subst ht21
   refine Zl ?_
   exact ⟨hE.sub ⟨rfl, trivial⟩, hM⟩
 ·skip
  rintro a w ⟨hE, hM⟩
  refine Zz (Zc (Zd hE Za ld rfl fun a hE => Ze hE Za ld rfl fun a hE => Zf ?_))
  have hr := Option.some.inj hF3
  subst hr
  exact wp_ret (Zy hE rfl (Zu hE rfl) ⟨_, rfl, rfl, hM.kept⟩)
noncomputable def Xg (p1 : UInt8) (p2 : UInt8) (s4 : Int × Int) : Option (Fl (Int × Int) Int) :=
 if (decide (s4.2 < 8)) = true then (((XJ s4.2).bind fun _ => (if (((B4 p2 s4.2) &&& 1) == 1) = true then ((XJ s4.2).bind fun _ => some (Q2 s4.1 (Ai (bI p1) s4.2))) else (some s4.1) : Option (Int)).bind fun j13 => some j13 : Option (Int)).bind fun j9 => some (Fl.nx (j9, wr (s4.2 + 1)))) else (some (Fl.ex s4.1))
noncomputable def Ya (p0 : Int) (p1 : UInt8) (p2 : UInt8) : Option (UInt8) :=
 (ZG (Xg p1 p2) (0, 0) : Option (Int)).bind fun j1 => (TC j1 p0 8).bind fun r22 => some (Zr r22)
theorem YF (w0 : World) (p0 : Int) (p1 : UInt8) (p2 : UInt8) (r : UInt8) (hF : Ya p0 p1 p2 = some r) :
  Calls Tryz.prog 239 [vI p0, vB p1, vB p2].toArray w0 (fun en w' => ∃ v, en = .returned v ∧ (v = (vB r) ∧ Kept (Old w0) w0 w')) := by
 refine ZD (n := 28) Tryz.func239 rfl rfl (Nat.le_of_ble_eq_true rfl) rfl ?_
 intro a hE
 have hM := M.start w0
 unfold Ya at hF
 refine Zc (Ze hE Za ld rfl fun a hE => Zf (Zc (Ze hE Za ld rfl fun a hE => Zf (wp_seq (Zc (Zd hE Za ld rfl fun a hE => Zf ?_))))))
 obtain ⟨j1, hl2, hF3⟩ := bind_some hF
 refine ZR (fun a w => Env 28 a [(0, vI p0), (7, vI j1)] ∧ M (Old w0) w0 w []) ?_ ?_
 ·skip
  refine wp_block ?_
  refine ZK (fun (s4 : Int × Int) a w => Env 28 a [(0, vI p0), (1, vB p1), (2, vB p2), (7, vI s4.1), (9, vI s4.2)] ∧ M (Old w0) w0 w []) hl2 ⟨hE.sub ⟨rfl, rfl, rfl, rfl, rfl, trivial⟩, hM⟩ ?_
  rintro s4 a w ⟨hE, hM⟩ o7 hs5 hx6
  unfold Xg at hs5
  refine Zc (Zh hE Za ld rfl rfl rfl fun a hE => Zf (wp_seq ?_))
  refine Zv hE rfl ?_ ?_
  ·intro hb8
   have hs5 := ZA hs5 hb8
   refine wp_skip (Zz ?_)
   obtain ⟨j9, hl10, hF11⟩ := bind_some hs5
   refine ZU (fun a w => Env 28 a [(0, vI p0), (1, vB p1), (2, vB p2), (7, vI j9), (9, vI s4.2)] ∧ M (Old w0) w0 w []) ?_ ?_
   ·skip
    refine wp_block (Zc (Zd hE Za ld rfl fun a hE => Ze hE Za ld rfl fun a hE => Zf (Zc (Zd hE Za ld rfl fun a hE => Zd hE Za ld rfl ?_)))); intro a hE
    obtain ⟨_, e12, hl10⟩ := bind_some hl10
    have e12 := Vd e12
    refine Ju hE Za ld rfl rfl (kg _ _ e12) fun a hE => Zh hE Za ld rfl rfl (bB_and (B4 p2 s4.2) 1) fun a hE => Zh hE Za ld rfl rfl (kr ((B4 p2 s4.2) &&& 1) 1) fun a hE => Zf ?_
    obtain ⟨j13, hl14, hF15⟩ := bind_some hl10
    refine ZR (fun a w => Env 28 a [(0, vI p0), (1, vB p1), (2, vB p2), (7, vI j13), (9, vI s4.2)] ∧ M (Old w0) w0 w []) ?_ ?_
    ·skip
     refine Zv hE rfl ?_ ?_
     ·intro hb16
      have hl14 := ZA hl14 hb16
      refine wp_region_lit (Zd hE Za ld rfl fun a hE => Zd hE Za ld rfl fun a hE => Yj hE Za ld rfl Tryz.underlying5 Tryz.underlying2 ?_); intro a hE
      rw [KD] at hE
      refine Zd hE Za ld rfl ?_; intro a hE
      obtain ⟨_, e17, hl14⟩ := bind_some hl14
      have e17 := Vd e17
      refine Ju hE Za ld rfl rfl (y4 _ _ e17) fun a hE => Zh hE Za ld rfl rfl rfl fun a hE => Ze hE Za ld rfl fun a hE => Zi ?_
      have ht18 := Option.some.inj hl14
      subst ht18
      refine Zl ?_
      exact ⟨hE.sub ⟨rfl, rfl, rfl, rfl, rfl, trivial⟩, hM⟩
     ·intro hb16
      have hl14 := ZB hl14 hb16
      refine wp_skip ?_
      have ht19 := Option.some.inj hl14
      subst ht19
      refine Zl ?_
      exact ⟨hE.sub ⟨rfl, rfl, rfl, rfl, rfl, trivial⟩, hM⟩
    ·skip
     rintro a w ⟨hE, hM⟩
     refine Ye ?_
     have ht20 := Option.some.inj hF15
     subst ht20
     refine Zl ?_
     exact ⟨hE.sub ⟨rfl, rfl, rfl, rfl, rfl, trivial⟩, hM⟩
   ·skip
    rintro a w ⟨hE, hM⟩
    refine wp_region_lit (Zh hE Za ld rfl rfl rfl fun a hE => Zd hE Za ld rfl fun a hE => Zi (Zl ?_))
    exact ⟨_, (Option.some.inj hF11).symm, hE.sub ⟨rfl, rfl, rfl, rfl, rfl, trivial⟩, hM⟩
  ·intro hb8
   have hs5 := ZB hs5 hb8
   refine wp_exit (Zp (Zp (Yc ?_)))
   have ht21 := hx6 _ (Option.some.inj hs5).symm
   subst ht21
   refine Zl ?_
   exact ⟨hE.sub ⟨rfl, rfl, trivial⟩, hM⟩
 ·skip
  rintro a w ⟨hE, hM⟩
  refine Zz (Zc (Zd hE Za ld rfl fun a hE => Zd hE Za ld rfl ?_)); intro a hE
  obtain ⟨r22, e23, hF3⟩ := bind_some hF3
  refine Zs hE Za ld rfl cb249 (yh _ j1 p0 8 r22 e23) ?_
  rintro v w a ⟨rfl, hK⟩ hE
  have hM := hM.keep hK
  refine Yj hE Za ld rfl Tryz.underlying2 Tryz.underlying5 ?_; intro a hE
  rw [ZW] at hE
  refine Ze hE Za ld rfl fun a hE => Zf ?_
  have hr := Option.some.inj hF3
  subst hr
  exact wp_ret (Zy hE rfl (Zu hE rfl) ⟨_, rfl, rfl, hM.kept⟩)
noncomputable def Vo (p0 : Int) (s4 : UInt8 × Int × UInt8) : Option (Fl (UInt8 × Int × UInt8) UInt8) :=
 if (decide (s4.2.1 > 0)) = true then (((if ((Int.tmod s4.2.1 2) == 1) = true then ((Ya p0 s4.2.2 s4.1).bind fun r16 => some r16) else (some s4.2.2) : Option (UInt8)).bind fun j12 => (Ya p0 s4.1 s4.1).bind fun r20 => some (r20, j12) : Option (UInt8 × UInt8)).bind fun j9 => some (Fl.nx (j9.1, wr (Int.tdiv s4.2.1 2), j9.2))) else (some (Fl.ex s4.2.2))
noncomputable def Xy (p0 : Int) (p1 : UInt8) (p2 : Int) : Option (UInt8) :=
 (ZG (Vo p0) (p1, p2, 1) : Option (UInt8)).bind fun j1 => some j1
theorem Jb (w0 : World) (p0 : Int) (p1 : UInt8) (p2 : Int) (r : UInt8) (hF : Xy p0 p1 p2 = some r) :
  Calls Tryz.prog 240 [vI p0, vB p1, vI p2].toArray w0 (fun en w' => ∃ v, en = .returned v ∧ (v = (vB r) ∧ Kept (Old w0) w0 w')) := by
 refine ZD (n := 24) Tryz.func240 rfl rfl (Nat.le_of_ble_eq_true rfl) rfl ?_
 intro a hE
 have hM := M.start w0
 unfold Xy at hF
 refine Zc (Ze hE Za ld rfl fun a hE => Zf (Zc (Ze hE Za ld rfl fun a hE => Zf ?_)))
 obtain ⟨j1, hl2, hF3⟩ := bind_some hF
 refine ZU (fun a w => Env 24 a [(7, vB j1)] ∧ M (Old w0) w0 w []) ?_ ?_
 ·skip
  refine wp_block ?_
  refine ZK (fun (s4 : UInt8 × Int × UInt8) a w => Env 24 a [(0, vI p0), (1, vB s4.1), (2, vI s4.2.1), (7, vB s4.2.2)] ∧ M (Old w0) w0 w []) hl2 ⟨hE.sub ⟨rfl, rfl, rfl, rfl, trivial⟩, hM⟩ ?_
  rintro s4 a w ⟨hE, hM⟩ o7 hs5 hx6
  unfold Vo at hs5
  refine wp_seq (Zc (Zd hE Za ld rfl fun a hE => Zh hE Za ld rfl rfl rfl fun a hE => Zf ?_))
  refine Zv hE rfl ?_ ?_
  ·intro hb8
   have hs5 := ZA hs5 hb8
   refine wp_skip (Zz ?_)
   obtain ⟨j9, hl10, hF11⟩ := bind_some hs5
   refine ZU (fun a w => Env 24 a [(0, vI p0), (1, vB j9.1), (2, vI s4.2.1), (7, vB j9.2)] ∧ M (Old w0) w0 w []) ?_ ?_
   ·skip
    refine wp_block ?_
    obtain ⟨j12, hl13, hF14⟩ := bind_some hl10
    refine ZU (fun a w => Env 24 a [(0, vI p0), (1, vB s4.1), (2, vI s4.2.1), (7, vB j12)] ∧ M (Old w0) w0 w []) ?_ ?_
    ·skip
     refine Zc (Zd hE Za ld rfl fun a hE => Zh hE Za ld rfl rfl (Qm _ _ (by decide)) fun a hE => Zh hE Za ld rfl rfl rfl fun a hE => Zf ?_)
     refine Zv hE rfl ?_ ?_
     ·intro hb15
      have hl13 := ZA hl13 hb15
      refine wp_region_lit (Zd hE Za ld rfl fun a hE => Zd hE Za ld rfl fun a hE => Zd hE Za ld rfl ?_); intro a hE
      obtain ⟨r16, e17, hl13⟩ := bind_some hl13
      refine Zs hE Za ld rfl HF (YF _ p0 s4.2.2 s4.1 r16 e17) ?_
      rintro v w a ⟨rfl, hK⟩ hE
      have hM := hM.keep hK
      refine Ze hE Za ld rfl fun a hE => Zi ?_
      have ht18 := Option.some.inj hl13
      subst ht18
      refine Zl ?_
      exact ⟨hE.sub ⟨rfl, rfl, rfl, rfl, trivial⟩, hM⟩
     ·intro hb15
      have hl13 := ZB hl13 hb15
      refine wp_skip ?_
      have ht19 := Option.some.inj hl13
      subst ht19
      refine Zl ?_
      exact ⟨hE.sub ⟨rfl, rfl, rfl, rfl, trivial⟩, hM⟩
    ·skip
     rintro a w ⟨hE, hM⟩
     refine wp_region_lit (Zd hE Za ld rfl fun a hE => Zd hE Za ld rfl fun a hE => Zd hE Za ld rfl ?_); intro a hE
     obtain ⟨r20, e21, hF14⟩ := bind_some hF14
     refine Zs hE Za ld rfl HF (YF _ p0 s4.1 s4.1 r20 e21) ?_
     rintro v w a ⟨rfl, hK⟩ hE
     have hM := hM.keep hK
     refine Ze hE Za ld rfl fun a hE => Zi (Ye ?_)
     have ht22 := Option.some.inj hF14
     subst ht22
     refine Zl ?_
     exact ⟨hE.sub ⟨rfl, rfl, rfl, rfl, trivial⟩, hM⟩
   ·skip
    rintro a w ⟨hE, hM⟩
    refine wp_region_lit (Zd hE Za ld rfl fun a hE => Zh hE Za ld rfl rfl (B3 _ _ (by decide)) fun a hE => Ze hE Za ld rfl fun a hE => Zi (Zl ?_))
    exact ⟨_, (Option.some.inj hF11).symm, hE.sub ⟨rfl, rfl, rfl, rfl, trivial⟩, hM⟩
  ·intro hb8
   have hs5 := ZB hs5 hb8
   refine wp_exit (Zp (Zp (Yc ?_)))
   have ht23 := hx6 _ (Option.some.inj hs5).symm
   subst ht23
   refine Zl ?_
   exact ⟨hE.sub ⟨rfl, trivial⟩, hM⟩
 ·skip
  rintro a w ⟨hE, hM⟩
  refine Zc (Zd hE Za ld rfl fun a hE => Ze hE Za ld rfl fun a hE => Zf ?_)
  have hr := Option.some.inj hF3
  subst hr
  exact wp_ret (Zy hE rfl (Zu hE rfl) ⟨_, rfl, rfl, hM.kept⟩)
noncomputable def Yk (p0 : Int) (p1 : UInt8) : Option (UInt8) :=
 (Xy p0 p1 254).bind fun r1 => some r1
theorem UM (w0 : World) (p0 : Int) (p1 : UInt8) (r : UInt8) (hF : Yk p0 p1 = some r) :
  Calls Tryz.prog 219 [vI p0, vB p1].toArray w0 (fun en w' => ∃ v, en = .returned v ∧ (v = (vB r) ∧ Kept (Old w0) w0 w')) := by
 refine ZD (n := 8) Tryz.func219 rfl rfl (Nat.le_of_ble_eq_true rfl) rfl ?_
 intro a hE
 have hM := M.start w0
 unfold Yk at hF
 refine Zc (Ze hE Za ld rfl fun a hE => Zf (Zc (Zd hE Za ld rfl fun a hE => Zd hE Za ld rfl ?_))); intro a hE
 obtain ⟨r1, e2, hF⟩ := bind_some hF
 refine Zs hE Za ld rfl cb240 (Jb _ p0 p1 254 r1 e2) ?_
 rintro v w a ⟨rfl, hK⟩ hE
 have hM := hM.keep hK
 refine Ze hE Za ld rfl fun a hE => Zf ?_
 have hr := Option.some.inj hF
 subst hr
 exact wp_ret (Zy hE rfl (Zu hE rfl) ⟨_, rfl, rfl, hM.kept⟩)
noncomputable def Yi (p0 : UInt8) (p1 : Int) : Option (UInt8) :=
 (XJ (wru (BitVec.ofInt 64 (IntKind.u64.wrap p1) &&& BitVec.ofInt 64 7).toNat)).bind fun _ => (XJ (IntKind.u64.wrap (8 - (wru (BitVec.ofInt 64 (IntKind.u64.wrap p1) &&& BitVec.ofInt 64 7).toNat)))).bind fun _ => some ((shlB p0 (wru (BitVec.ofInt 64 (IntKind.u64.wrap p1) &&& BitVec.ofInt 64 7).toNat)) ||| (B4 p0 (IntKind.u64.wrap (8 - (wru (BitVec.ofInt 64 (IntKind.u64.wrap p1) &&& BitVec.ofInt 64 7).toNat)))))
theorem Tz (w0 : World) (p0 : UInt8) (p1 : Int) (r : UInt8) (hF : Yi p0 p1 = some r) :
  Calls Tryz.prog 220 [vB p0, vI p1].toArray w0 (fun en w' => ∃ v, en = .returned v ∧ (v = (vB r) ∧ Kept (Old w0) w0 w')) := by
 refine ZD (n := 17) Tryz.func220 rfl rfl (Nat.le_of_ble_eq_true rfl) rfl ?_
 intro a hE
 have hM := M.start w0
 unfold Yi at hF
 refine Zc (Ze hE Za ld rfl fun a hE => Zf (Zc (Zd hE Za ld rfl fun a hE => Yj hE Za ld rfl Tryz.underlying3 Tryz.underlying198 fun a hE => Zh hE Za ld rfl rfl rfl fun a hE => Ze hE Za ld rfl fun a hE => Zf (Zc (Zd hE Za ld rfl fun a hE => Zd hE Za ld rfl ?_))))); intro a hE
 obtain ⟨_, e1, hF⟩ := bind_some hF
 have e1 := Vd e1
 refine Ju hE Za ld rfl rfl (bB_shl _ _ e1) fun a hE => Zd hE Za ld rfl fun a hE => Zd hE Za ld rfl fun a hE => Zh hE Za ld rfl rfl rfl ?_; intro a hE
 obtain ⟨_, e2, hF⟩ := bind_some hF
 have e2 := Vd e2
 refine Ju hE Za ld rfl rfl (kg _ _ e2) fun a hE => Zh hE Za ld rfl rfl (bB_or (shlB p0 (wru (BitVec.ofInt 64 (IntKind.u64.wrap p1) &&& BitVec.ofInt 64 7).toNat)) (B4 p0 (IntKind.u64.wrap (8 - (wru (BitVec.ofInt 64 (IntKind.u64.wrap p1) &&& BitVec.ofInt 64 7).toNat))))) fun a hE => Ze hE Za ld rfl fun a hE => Zf ?_
 have hr := Option.some.inj hF
 subst hr
 exact wp_ret (Zy hE rfl (Zu hE rfl) ⟨_, rfl, rfl, hM.kept⟩)
noncomputable def Wi (s8 : (Vector UInt8 256) × Int) : Option (Fl ((Vector UInt8 256) × Int) (Vector UInt8 256)) :=
 if (decide (s8.2 < 256)) = true then ((Yk 285 (Zr s8.2)).bind fun r13 => (Yi r13 1).bind fun r15 => (Yi r13 4).bind fun r17 => (ZM s8.1 s8.2).bind fun x20 => some (Fl.nx ((s8.1.setIfInBounds (s8.2).toNat (((r13 ^^^ r15) ^^^ r17) ^^^ 90)), wr (s8.2 + 1)))) else (some (Fl.ex s8.1))
noncomputable def Vr (s26 : (Vector (Vector UInt8 4) 4) × Int) (s34 : (Vector (Vector UInt8 4) 4) × Int) : Option (Fl ((Vector (Vector UInt8 4) 4) × Int) (Vector (Vector UInt8 4) 4)) :=
 if (decide (s34.2 < 4)) = true then ((Yk 285 (Zr (Q2 s26.2 (wr (4 + s34.2))))).bind fun r40 => (ZM s34.1 s26.2).bind fun x43 => (ZM x43 s34.2).bind fun x46 => some (Fl.nx ((s34.1.setIfInBounds (s26.2).toNat (x43.setIfInBounds (s34.2).toNat r40)), wr (s34.2 + 1)))) else (some (Fl.ex s34.1))
noncomputable def Vu (s26 : (Vector (Vector UInt8 4) 4) × Int) : Option (Fl ((Vector (Vector UInt8 4) 4) × Int) (Vector (Vector UInt8 4) 4)) :=
 if (decide (s26.2 < 4)) = true then ((ZG (Vr s26) (s26.1, 0) : Option ((Vector (Vector UInt8 4) 4))).bind fun j31 => some (Fl.nx (j31, wr (s26.2 + 1)))) else (some (Fl.ex s26.1))
noncomputable def Vs (s53 : (Vector UInt8 16) × Int) : Option (Fl ((Vector UInt8 16) × Int) (Vector UInt8 16)) :=
 if (decide (s53.2 < 16)) = true then ((ZM s53.1 s53.2).bind fun x59 => some (Fl.nx ((s53.1.setIfInBounds (s53.2).toNat (Zr (Int.tmod (wr ((wr (13 * s53.2)) + 4)) 16))), wr (s53.2 + 1)))) else (some (Fl.ex s53.1))
noncomputable def WE (p0 : Int) : Option (GCipher) :=
 (ZG (Wi) ((Vector.replicate 256 (0 : UInt8)), 0) : Option ((Vector UInt8 256))).bind fun j5 => (ZG (Vu) ((Vector.replicate 4 (Vector.replicate 4 (0 : UInt8))), 0) : Option ((Vector (Vector UInt8 4) 4))).bind fun j23 => (ZG (Vs) ((Vector.replicate 16 (0 : UInt8)), 0) : Option ((Vector UInt8 16))).bind fun j50 => some (⟨285, j5, j23, j50, p0⟩ : GCipher)
theorem K6 (w0 : World) (p0 : Int) (r : GCipher) (hF : WE p0 = some r) :
  Calls Tryz.prog 186 [vI p0].toArray w0 (fun en w' => ∃ v, en = .returned v ∧ (v = (Value.agg (enc r).toArray) ∧ Kept (Old w0) w0 w')) := by
 refine ZD (n := 61) Tryz.func186 rfl rfl (Nat.le_of_ble_eq_true rfl) rfl ?_
 intro a hE
 have hM := M.start w0
 unfold WE at hF
 refine Zc (ZI hE hM Za ld Va fun b1 w a hM hE => Zf (Zc (Zd hE Za ld rfl fun a hE => Jd (parts := [(0, .const (vI 285)), (4, .tmp 9)]) (vs := [(0, vI 285), (4, vI p0)]) (cs := cat [[vI 285], enc (Vector.replicate 256 (0 : UInt8)), enc (Vector.replicate 4 (Vector.replicate 4 (0 : UInt8))), enc (Vector.replicate 16 (0 : UInt8)), [vI p0]]) hE Za ld rfl rfl Va pl173 (VH (pre := []) (seg := [vI 0]) (seg' := [vI 285]) (post := [enc (Vector.replicate 256 (0 : UInt8)), enc (Vector.replicate 4 (Vector.replicate 4 (0 : UInt8))), enc (Vector.replicate 16 (0 : UInt8)), [vI 0]]) rfl cl0 rfl rfl rfl (VH (pre := [[vI 285], enc (Vector.replicate 256 (0 : UInt8)), enc (Vector.replicate 4 (Vector.replicate 4 (0 : UInt8))), enc (Vector.replicate 16 (0 : UInt8))]) (seg := [vI 0]) (seg' := [vI p0]) (post := []) rfl (cl1 (n := 1) (m := 288) rfl (cl1 (n := 256) (m := 32) (Flat.len _) (cl1 (n := 16) (m := 16) (Flat.len _) (cl1 (n := 16) (m := 0) (Flat.len _) cl0)))) rfl rfl rfl B1)) fun a hE => ZI hE hM Za ld Va fun b3 w a hM hE => Zt (seg := cat [[vI 285], enc (Vector.replicate 256 (0 : UInt8)), enc (Vector.replicate 4 (Vector.replicate 4 (0 : UInt8))), enc (Vector.replicate 16 (0 : UInt8)), [vI p0]]) (cs' := cat [[vI 285], enc (Vector.replicate 256 (0 : UInt8)), enc (Vector.replicate 4 (Vector.replicate 4 (0 : UInt8))), enc (Vector.replicate 16 (0 : UInt8)), [vI p0]]) hE hM Za rfl rfl rfl Va (ZC (cl1 (n := 1) (m := 289) rfl (cl1 (n := 256) (m := 33) (Flat.len _) (cl1 (n := 16) (m := 17) (Flat.len _) (cl1 (n := 16) (m := 1) (Flat.len _) (cl1 (n := 1) (m := 0) rfl cl0)))))) (Nat.le_of_eq ((Nat.zero_add _).trans (Eq.trans (ZC (cl1 (n := 1) (m := 289) rfl (cl1 (n := 256) (m := 33) (Flat.len _) (cl1 (n := 16) (m := 17) (Flat.len _) (cl1 (n := 16) (m := 1) (Flat.len _) (cl1 (n := 1) (m := 0) rfl cl0)))))) (Eq.symm (ZC (cl1 (n := 1) (m := 289) rfl (cl1 (n := 256) (m := 33) (Flat.len _) (cl1 (n := 16) (m := 17) (Flat.len _) (cl1 (n := 16) (m := 1) (Flat.len _) (cl1 (n := 1) (m := 0) rfl cl0)))))))))) (WD (cc1 (Flat.cell (285 : Int)) (cc1 (Flat.cell _) (cc1 (Flat.cell _) (cc1 (Flat.cell _) (cc1 (Flat.cell (p0 : Int)) cc0)))))) (Zo (Eq.trans (ZC (cl1 (n := 1) (m := 289) rfl (cl1 (n := 256) (m := 33) (Flat.len _) (cl1 (n := 16) (m := 17) (Flat.len _) (cl1 (n := 16) (m := 1) (Flat.len _) (cl1 (n := 1) (m := 0) rfl cl0)))))) (Eq.symm (ZC (cl1 (n := 1) (m := 289) rfl (cl1 (n := 256) (m := 33) (Flat.len _) (cl1 (n := 16) (m := 17) (Flat.len _) (cl1 (n := 16) (m := 1) (Flat.len _) (cl1 (n := 1) (m := 0) rfl cl0))))))))) fun w a hM hE => Zf (wp_seq (Zc (Zd hE Za ld rfl fun a hE => Zf ?_))))))
 obtain ⟨j5, hl6, hF7⟩ := bind_some hF
 refine ZR (fun a w => Env 61 a [(2, (ptr b1 0)), (3, (ptr b3 0))] ∧ M (Old w0) w0 w [raw b3 (cat [[vI 285], enc j5, enc (Vector.replicate 4 (Vector.replicate 4 (0 : UInt8))), enc (Vector.replicate 16 (0 : UInt8)), [vI p0]]), raw b1 (cat [[vI 0], enc (Vector.replicate 256 (0 : UInt8)), enc (Vector.replicate 4 (Vector.replicate 4 (0 : UInt8))), enc (Vector.replicate 16 (0 : UInt8)), [vI 0]])]) ?_ ?_
 ·skip
  refine wp_block ?_
  refine ZK (fun (s8 : (Vector UInt8 256) × Int) a w => Env 61 a [(2, (ptr b1 0)), (3, (ptr b3 0)), (11, vI s8.2)] ∧ M (Old w0) w0 w [raw b3 (cat [[vI 285], enc s8.1, enc (Vector.replicate 4 (Vector.replicate 4 (0 : UInt8))), enc (Vector.replicate 16 (0 : UInt8)), [vI p0]]), raw b1 (cat [[vI 0], enc (Vector.replicate 256 (0 : UInt8)), enc (Vector.replicate 4 (Vector.replicate 4 (0 : UInt8))), enc (Vector.replicate 16 (0 : UInt8)), [vI 0]])]) hl6 ⟨hE.sub ⟨rfl, rfl, rfl, trivial⟩, hM⟩ ?_
  rintro s8 a w ⟨hE, hM⟩ o11 hs9 hx10
  unfold Wi at hs9
  refine Zc (Zh hE Za ld rfl rfl rfl fun a hE => Zf (wp_seq ?_))
  refine Zv hE rfl ?_ ?_
  ·intro hb12
   have hs9 := ZA hs9 hb12
   refine wp_skip (Zz (wp_seq (wp_block (Zc (Zd hE Za ld rfl fun a hE => Ze hE Za ld rfl fun a hE => Zf (Zc (Zd hE Za ld rfl fun a hE => Yj hE Za ld rfl Tryz.underlying3 Tryz.underlying5 ?_))))))); intro a hE
   rw [ZW] at hE
   obtain ⟨r13, e14, hs9⟩ := bind_some hs9
   refine Zs hE Za ld rfl kK (UM _ 285 (Zr s8.2) r13 e14) ?_
   rintro v w a ⟨rfl, hK⟩ hE
   have hM := hM.keep hK
   refine Ze hE Za ld rfl fun a hE => Zf (wp_region_lit (Zd hE Za ld rfl fun a hE => Zd hE Za ld rfl fun a hE => Zd hE Za ld rfl ?_)); intro a hE
   obtain ⟨r15, e16, hs9⟩ := bind_some hs9
   refine Zs hE Za ld rfl cb220 (Tz _ r13 1 r15 e16) ?_
   rintro v w a ⟨rfl, hK⟩ hE
   have hM := hM.keep hK
   refine Zh hE Za ld rfl rfl (WJ r13 r15) fun a hE => Zd hE Za ld rfl ?_; intro a hE
   obtain ⟨r17, e18, hs9⟩ := bind_some hs9
   refine Zs hE Za ld rfl cb220 (Tz _ r13 4 r17 e18) ?_
   rintro v w a ⟨rfl, hK⟩ hE
   have hM := hM.keep hK
   refine Zh hE Za ld rfl rfl (WJ (r13 ^^^ r15) r17) fun a hE => Zh hE Za ld rfl rfl (WJ ((r13 ^^^ r15) ^^^ r17) 90) fun a hE => Zg hE Za ld rfl (KF) ?_; intro a hE
   obtain ⟨x20, e21, hs9⟩ := bind_some hs9
   have hi19 := Zj e21
   refine Zn hE Za ld rfl rfl Tryz.underlying167 ty5 hi19.1 fun a hE => Zt (seg := [(vB (((r13 ^^^ r15) ^^^ r17) ^^^ 90))]) (cs' := cat [[vI 285], enc (s8.1.setIfInBounds (s8.2).toNat (((r13 ^^^ r15) ^^^ r17) ^^^ 90)), enc (Vector.replicate 4 (Vector.replicate 4 (0 : UInt8))), enc (Vector.replicate 16 (0 : UInt8)), [vI p0]]) hE hM Za rfl rfl rfl ty5 rfl (Kd (o' := 0 + (s8.2).toNat * 1) (pre := [[vI 285]]) (seg := enc s8.1) (post := [enc (Vector.replicate 4 (Vector.replicate 4 (0 : UInt8))), enc (Vector.replicate 16 (0 : UInt8)), [vI p0]]) (cl1 (n := 1) (m := 0) rfl cl0) (ZQ (v := s8.1) (x := ((r13 ^^^ r15) ^^^ r17) ^^^ 90) hi19.1) (by first | omega | (simp only [Flat.n] <;> omega))) (Flat.cell (((r13 ^^^ r15) ^^^ r17) ^^^ 90 : UInt8)) (VV (o' := 0 + (s8.2).toNat * 1) (pre := [[vI 285]]) (seg := enc s8.1) (post := [enc (Vector.replicate 4 (Vector.replicate 4 (0 : UInt8))), enc (Vector.replicate 16 (0 : UInt8)), [vI p0]]) (cl1 (n := 1) (m := 0) rfl cl0) (ZQ (v := s8.1) (x := ((r13 ^^^ r15) ^^^ r17) ^^^ 90) hi19.1) (ZJ (v := s8.1) (x := ((r13 ^^^ r15) ^^^ r17) ^^^ 90) hi19.1) (by first | omega | (simp only [Flat.n] <;> omega))) fun w a hM hE => Zi (Ye (Zz (wp_region_lit (Zh hE Za ld rfl rfl rfl fun a hE => Zd hE Za ld rfl fun a hE => Zi (Zl ?_)))))
   exact ⟨_, (Option.some.inj hs9).symm, hE.sub ⟨rfl, rfl, rfl, trivial⟩, hM⟩
  ·intro hb12
   have hs9 := ZB hs9 hb12
   refine wp_exit (Zp (Zp (Yc ?_)))
   have ht22 := hx10 _ (Option.some.inj hs9).symm
   subst ht22
   refine Zl ?_
   exact ⟨hE.sub ⟨rfl, rfl, trivial⟩, hM⟩
 ·skip
  rintro a w ⟨hE, hM⟩
  refine Zz (wp_seq (Zc (Zd hE Za ld rfl fun a hE => Zf ?_)))
  obtain ⟨j23, hl24, hF25⟩ := bind_some hF7
  refine ZR (fun a w => Env 61 a [(2, (ptr b1 0)), (3, (ptr b3 0))] ∧ M (Old w0) w0 w [raw b3 (cat [[vI 285], enc j5, enc j23, enc (Vector.replicate 16 (0 : UInt8)), [vI p0]]), raw b1 (cat [[vI 0], enc (Vector.replicate 256 (0 : UInt8)), enc (Vector.replicate 4 (Vector.replicate 4 (0 : UInt8))), enc (Vector.replicate 16 (0 : UInt8)), [vI 0]])]) ?_ ?_
  ·skip
   refine wp_block ?_
   refine ZK (fun (s26 : (Vector (Vector UInt8 4) 4) × Int) a w => Env 61 a [(2, (ptr b1 0)), (3, (ptr b3 0)), (29, vI s26.2)] ∧ M (Old w0) w0 w [raw b3 (cat [[vI 285], enc j5, enc s26.1, enc (Vector.replicate 16 (0 : UInt8)), [vI p0]]), raw b1 (cat [[vI 0], enc (Vector.replicate 256 (0 : UInt8)), enc (Vector.replicate 4 (Vector.replicate 4 (0 : UInt8))), enc (Vector.replicate 16 (0 : UInt8)), [vI 0]])]) hl24 ⟨hE.sub ⟨rfl, rfl, rfl, trivial⟩, hM⟩ ?_
   rintro s26 a w ⟨hE, hM⟩ o29 hs27 hx28
   unfold Vu at hs27
   refine Zc (Zh hE Za ld rfl rfl rfl fun a hE => Zf (wp_seq ?_))
   refine Zv hE rfl ?_ ?_
   ·intro hb30
    have hs27 := ZA hs27 hb30
    refine wp_skip (Zz (wp_seq (wp_block (Zc (Zd hE Za ld rfl fun a hE => Ze hE Za ld rfl fun a hE => Zf (Zc (Zd hE Za ld rfl fun a hE => Zf ?_)))))))
    obtain ⟨j31, hl32, hF33⟩ := bind_some hs27
    refine ZR (fun a w => Env 61 a [(2, (ptr b1 0)), (3, (ptr b3 0)), (29, vI s26.2)] ∧ M (Old w0) w0 w [raw b3 (cat [[vI 285], enc j5, enc j31, enc (Vector.replicate 16 (0 : UInt8)), [vI p0]]), raw b1 (cat [[vI 0], enc (Vector.replicate 256 (0 : UInt8)), enc (Vector.replicate 4 (Vector.replicate 4 (0 : UInt8))), enc (Vector.replicate 16 (0 : UInt8)), [vI 0]])]) ?_ ?_
    ·skip
     refine wp_block ?_
     refine ZK (fun (s34 : (Vector (Vector UInt8 4) 4) × Int) a w => Env 61 a [(2, (ptr b1 0)), (3, (ptr b3 0)), (6, vI s26.2), (29, vI s26.2), (32, vI s34.2)] ∧ M (Old w0) w0 w [raw b3 (cat [[vI 285], enc j5, enc s34.1, enc (Vector.replicate 16 (0 : UInt8)), [vI p0]]), raw b1 (cat [[vI 0], enc (Vector.replicate 256 (0 : UInt8)), enc (Vector.replicate 4 (Vector.replicate 4 (0 : UInt8))), enc (Vector.replicate 16 (0 : UInt8)), [vI 0]])]) hl32 ⟨hE.sub ⟨rfl, rfl, rfl, rfl, rfl, trivial⟩, hM⟩ ?_
     rintro s34 a w ⟨hE, hM⟩ o37 hs35 hx36
     unfold Vr at hs35
     refine Zc (Zh hE Za ld rfl rfl rfl fun a hE => Zf (wp_seq ?_))
     refine Zv hE rfl ?_ ?_
     ·intro hb38
      have hs35 := ZA hs35 hb38
      refine wp_skip (Zz (wp_seq (wp_block (Zc (Zd hE Za ld rfl fun a hE => Ze hE Za ld rfl fun a hE => Zf ?_)))))
      obtain ⟨r40, e41, hs35⟩ := bind_some hs35
      obtain ⟨x43, e44, hs35⟩ := bind_some hs35
      have hi42 := Zj e44
      obtain ⟨x46, e47, hs35⟩ := bind_some hs35
      have hi45 := Zj e47
      refine Yr (n := 61) (hd := [_, _, _, _, _, _, _, _, _, _, _]) (tl := [_]) YN rfl rfl [35, 36, 37, 38, 39, 40, 41, 42, 43, 44, 45] (by decide) (fun w => M (Old w0) w0 w [raw b3 (cat [[vI 285], enc j5, enc s34.1, enc (Vector.replicate 16 (0 : UInt8)), [vI p0]]), raw b1 (cat [[vI 0], enc (Vector.replicate 256 (0 : UInt8)), enc (Vector.replicate 4 (Vector.replicate 4 (0 : UInt8))), enc (Vector.replicate 16 (0 : UInt8)), [vI 0]])]) (fun j => ([fun v _ => v = (vI s26.2), fun v _ => v = (vI s34.2), fun v _ => v = (vI s26.2), fun v _ => v = (vI s34.2), fun v _ => v = (vI (wr (4 + s34.2))), fun v _ => v = (vI (Q2 s26.2 (wr (4 + s34.2)))), fun v _ => v = (vB (Zr (Q2 s26.2 (wr (4 + s34.2))))), fun v _ => v = (vB r40), fun v _ => v = (ptr b3 (0 + 257)), fun v _ => v = (ptr b3 (0 + 257 + (s26.2).toNat * 4)), fun v _ => v = (ptr b3 (0 + 257 + (s26.2).toNat * 4 + (s34.2).toNat * 1))] : List (Value → World → Prop)).getD j (fun _ _ => True)) (fun _ _ h hk => h.keep hk) (gup (Zk (Zk (Zk (Zk (Zk (Zk (Zk (Zk (Zk (Zk (Zk VK)))))))))))) hE hM.drew (ZL (Zb ?_ (Zb ?_ (Zb ?_ (Zb ?_ (Zb ?_ (Zb ?_ (Zb ?_ (Zb ?_ (Zb ?_ (Zb ?_ (Zb ?_ ZF)))))))))))) ?_
      ·exact fun a w ux39 hE hM hp => Zd hE Za ld rfl fun a hE => ⟨Kept.refl _ _, _, _, rfl, hE, rfl⟩
      ·exact fun a w ux39 hE hM hp => Zd hE Za ld rfl fun a hE => ⟨Kept.refl _ _, _, _, rfl, hE, rfl⟩
      ·exact fun a w ux39 hE hM hp => Zd hE Za ld rfl fun a hE => ⟨Kept.refl _ _, _, _, rfl, hE, rfl⟩
      ·exact fun a w ux39 hE hM hp => Zd hE Za ld rfl fun a hE => ⟨Kept.refl _ _, _, _, rfl, hE, rfl⟩
      ·intro a w ux39 hE hM hp
       have f3 : ux39 3 = (vI s34.2) := hp 0 _ rfl rfl
       exact Zh hE Za ld rfl (lk rfl f3) rfl fun a hE => ⟨Kept.refl _ _, _, _, rfl, hE, rfl⟩
      ·intro a w ux39 hE hM hp
       have f2 : ux39 2 = (vI s26.2) := hp 0 _ rfl rfl
       have f4 : ux39 4 = (vI (wr (4 + s34.2))) := hp 1 _ rfl rfl
       exact Zh hE Za ld (lk rfl f2) (lk rfl f4) rfl fun a hE => ⟨Kept.refl _ _, _, _, rfl, hE, rfl⟩
      ·intro a w ux39 hE hM hp
       have f5 : ux39 5 = (vI (Q2 s26.2 (wr (4 + s34.2)))) := hp 0 _ rfl rfl
       refine Yj hE Za ld (lk rfl f5) Tryz.underlying3 Tryz.underlying5 ?_; intro a hE
       rw [ZW] at hE
       exact ⟨Kept.refl _ _, _, _, rfl, hE, rfl⟩
      ·intro a w ux39 hE hM hp
       have f6 : ux39 6 = (vB (Zr (Q2 s26.2 (wr (4 + s34.2))))) := hp 0 _ rfl rfl
       refine Zs hE Za ld (ZY (ZS rfl (ZS (lk rfl f6) YT))) kK (UM _ 285 (Zr (Q2 s26.2 (wr (4 + s34.2)))) r40 e41) ?_
       rintro v w a ⟨rfl, hK⟩ hE
       exact ⟨hK, _, _, rfl, hE, rfl⟩
      ·exact fun a w ux39 hE hM hp => Zg hE Za ld rfl (Jt) fun a hE => ⟨Kept.refl _ _, _, _, rfl, hE, rfl⟩
      ·intro a w ux39 hE hM hp
       have f0 : ux39 0 = (vI s26.2) := hp 1 _ rfl rfl
       have f8 : ux39 8 = (ptr b3 (0 + 257)) := hp 0 _ rfl rfl
       exact Zn hE Za ld (lk rfl f8) (lk rfl f0) Tryz.underlying170 Xm hi42.1 fun a hE => ⟨Kept.refl _ _, _, _, rfl, hE, rfl⟩
      ·intro a w ux39 hE hM hp
       have f1 : ux39 1 = (vI s34.2) := hp 1 _ rfl rfl
       have f9 : ux39 9 = (ptr b3 (0 + 257 + (s26.2).toNat * 4)) := hp 0 _ rfl rfl
       exact Zn hE Za ld (lk rfl f9) (lk rfl f1) Tryz.underlying168 ty5 hi45.1 fun a hE => ⟨Kept.refl _ _, _, _, rfl, hE, rfl⟩
      ·intro a w ux39 hE hM hg
       have hE := hE.sub (e' := [(42, vB r40), (45, (ptr b3 (0 + 257 + (s26.2).toNat * 4 + (s34.2).toNat * 1))), (2, (ptr b1 0)), (3, (ptr b3 0)), (6, vI s26.2), (7, vI s34.2), (29, vI s26.2), (32, vI s34.2), (33, (vT (decide (s34.2 < 4)))), (34, vI s34.2)]) ⟨lk rfl (hg 7 (by decide)), lk rfl (hg 10 (by decide)), rfl, rfl, rfl, rfl, rfl, rfl, rfl, rfl, trivial⟩
       refine Zt (seg := [vB r40]) (cs' := cat [[vI 285], enc j5, enc (s34.1.setIfInBounds (s26.2).toNat (x43.setIfInBounds (s34.2).toNat r40)), enc (Vector.replicate 16 (0 : UInt8)), [vI p0]]) hE hM Za rfl rfl rfl ty5 rfl (Kd (o' := (s26.2).toNat * 4 + (0 + (s34.2).toNat * 1)) (pre := [[vI 285], enc j5]) (seg := enc s34.1) (post := [enc (Vector.replicate 16 (0 : UInt8)), [vI p0]]) (cl1 (n := 1) (m := 256) rfl (cl1 (n := 256) (m := 0) (Flat.len _) cl0)) (V7 (o' := 0 + (s34.2).toNat * 1) hi42 (ZQ (v := x43) (x := r40) hi45.1) (by first | omega | (simp only [Flat.n] <;> omega))) (by first | omega | (simp only [Flat.n] <;> omega))) (Flat.cell (r40 : UInt8)) (VV (o' := (s26.2).toNat * 4 + (0 + (s34.2).toNat * 1)) (pre := [[vI 285], enc j5]) (seg := enc s34.1) (post := [enc (Vector.replicate 16 (0 : UInt8)), [vI p0]]) (cl1 (n := 1) (m := 256) rfl (cl1 (n := 256) (m := 0) (Flat.len _) cl0)) (V7 (o' := 0 + (s34.2).toNat * 1) hi42 (ZQ (v := x43) (x := r40) hi45.1) (by first | omega | (simp only [Flat.n] <;> omega))) (Vc (o' := 0 + (s34.2).toNat * 1) hi42 (ZQ (v := x43) (x := r40) hi45.1) (ZJ (v := x43) (x := r40) hi45.1) (by first | omega | (simp only [Flat.n] <;> omega))) (by first | omega | (simp only [Flat.n] <;> omega))) fun w a hM hE => Zi (Ye (Zz (wp_region_lit (Zh hE Za ld rfl rfl rfl fun a hE => Zd hE Za ld rfl fun a hE => Zi (Zl ?_)))))
       exact ⟨_, (Option.some.inj hs35).symm, hE.sub ⟨rfl, rfl, rfl, rfl, rfl, trivial⟩, hM⟩
     ·intro hb38
      have hs35 := ZB hs35 hb38
      refine wp_exit (Zp (Zp (Yc ?_)))
      have ht48 := hx36 _ (Option.some.inj hs35).symm
      subst ht48
      refine Zl ?_
      exact ⟨hE.sub ⟨rfl, rfl, rfl, trivial⟩, hM⟩
    ·skip
     rintro a w ⟨hE, hM⟩
     refine Ye (Zz (wp_region_lit (Zh hE Za ld rfl rfl rfl fun a hE => Zd hE Za ld rfl fun a hE => Zi (Zl ?_))))
     exact ⟨_, (Option.some.inj hF33).symm, hE.sub ⟨rfl, rfl, rfl, trivial⟩, hM⟩
   ·intro hb30
    have hs27 := ZB hs27 hb30
    refine wp_exit (Zp (Zp (Yc ?_)))
    have ht49 := hx28 _ (Option.some.inj hs27).symm
    subst ht49
    refine Zl ?_
    exact ⟨hE.sub ⟨rfl, rfl, trivial⟩, hM⟩
  ·skip
   rintro a w ⟨hE, hM⟩
   refine Zz (wp_seq (Zc (Zd hE Za ld rfl fun a hE => Zf ?_)))
   obtain ⟨j50, hl51, hF52⟩ := bind_some hF25
   refine ZR (fun a w => Env 61 a [(2, (ptr b1 0)), (3, (ptr b3 0))] ∧ M (Old w0) w0 w [raw b3 (cat [[vI 285], enc j5, enc j23, enc j50, [vI p0]]), raw b1 (cat [[vI 0], enc (Vector.replicate 256 (0 : UInt8)), enc (Vector.replicate 4 (Vector.replicate 4 (0 : UInt8))), enc (Vector.replicate 16 (0 : UInt8)), [vI 0]])]) ?_ ?_
   ·skip
    refine wp_block ?_
    refine ZK (fun (s53 : (Vector UInt8 16) × Int) a w => Env 61 a [(2, (ptr b1 0)), (3, (ptr b3 0)), (48, vI s53.2)] ∧ M (Old w0) w0 w [raw b3 (cat [[vI 285], enc j5, enc j23, enc s53.1, [vI p0]]), raw b1 (cat [[vI 0], enc (Vector.replicate 256 (0 : UInt8)), enc (Vector.replicate 4 (Vector.replicate 4 (0 : UInt8))), enc (Vector.replicate 16 (0 : UInt8)), [vI 0]])]) hl51 ⟨hE.sub ⟨rfl, rfl, rfl, trivial⟩, hM⟩ ?_
    rintro s53 a w ⟨hE, hM⟩ o56 hs54 hx55
    unfold Vs at hs54
    refine Zc (Zh hE Za ld rfl rfl rfl fun a hE => Zf (wp_seq ?_))
    refine Zv hE rfl ?_ ?_
    ·intro hb57
     have hs54 := ZA hs54 hb57
     refine wp_skip (Zz (wp_seq (wp_block (Zc (Zd hE Za ld rfl fun a hE => Ze hE Za ld rfl fun a hE => Zf (wp_region_lit (Zd hE Za ld rfl fun a hE => Zd hE Za ld rfl fun a hE => Zh hE Za ld rfl rfl rfl fun a hE => Zh hE Za ld rfl rfl rfl fun a hE => Zh hE Za ld rfl rfl (Qm _ _ (by decide)) ?_))))))); intro a hE
     refine Yj hE Za ld rfl Tryz.underlying3 Tryz.underlying5 ?_; intro a hE
     rw [ZW] at hE
     refine Zg hE Za ld rfl (JD) ?_; intro a hE
     obtain ⟨x59, e60, hs54⟩ := bind_some hs54
     have hi58 := Zj e60
     refine Zn hE Za ld rfl rfl Tryz.underlying171 ty5 hi58.1 fun a hE => Zt (seg := [(vB (Zr (Int.tmod (wr ((wr (13 * s53.2)) + 4)) 16)))]) (cs' := cat [[vI 285], enc j5, enc j23, enc (s53.1.setIfInBounds (s53.2).toNat (Zr (Int.tmod (wr ((wr (13 * s53.2)) + 4)) 16))), [vI p0]]) hE hM Za rfl rfl rfl ty5 rfl (Kd (o' := 0 + (s53.2).toNat * 1) (pre := [[vI 285], enc j5, enc j23]) (seg := enc s53.1) (post := [[vI p0]]) (cl1 (n := 1) (m := 272) rfl (cl1 (n := 256) (m := 16) (Flat.len _) (cl1 (n := 16) (m := 0) (Flat.len _) cl0))) (ZQ (v := s53.1) (x := Zr (Int.tmod (wr ((wr (13 * s53.2)) + 4)) 16)) hi58.1) (by first | omega | (simp only [Flat.n] <;> omega))) (Flat.cell (Zr (Int.tmod (wr ((wr (13 * s53.2)) + 4)) 16) : UInt8)) (VV (o' := 0 + (s53.2).toNat * 1) (pre := [[vI 285], enc j5, enc j23]) (seg := enc s53.1) (post := [[vI p0]]) (cl1 (n := 1) (m := 272) rfl (cl1 (n := 256) (m := 16) (Flat.len _) (cl1 (n := 16) (m := 0) (Flat.len _) cl0))) (ZQ (v := s53.1) (x := Zr (Int.tmod (wr ((wr (13 * s53.2)) + 4)) 16)) hi58.1) (ZJ (v := s53.1) (x := Zr (Int.tmod (wr ((wr (13 * s53.2)) + 4)) 16)) hi58.1) (by first | omega | (simp only [Flat.n] <;> omega))) fun w a hM hE => Zi (Ye (Zz (wp_region_lit (Zh hE Za ld rfl rfl rfl fun a hE => Zd hE Za ld rfl fun a hE => Zi (Zl ?_)))))
     exact ⟨_, (Option.some.inj hs54).symm, hE.sub ⟨rfl, rfl, rfl, trivial⟩, hM⟩
    ·intro hb57
     have hs54 := ZB hs54 hb57
     refine wp_exit (Zp (Zp (Yc ?_)))
     have ht61 := hx55 _ (Option.some.inj hs54).symm
     subst ht61
     refine Zl ?_
     exact ⟨hE.sub ⟨rfl, rfl, trivial⟩, hM⟩
   ·skip
    rintro a w ⟨hE, hM⟩
    refine Zz (Zc (Zm (cs := enc (⟨285, j5, j23, j50, p0⟩ : GCipher)) hE Za ld rfl Va rfl (hM.rawAt (pre := [])) (ZC (cl1 (n := 1) (m := 289) rfl (cl1 (n := 256) (m := 33) (Flat.len _) (cl1 (n := 16) (m := 17) (Flat.len _) (cl1 (n := 16) (m := 1) (Flat.len _) (cl1 (n := 1) (m := 0) rfl cl0)))))) ?_)); intro a hE
    have hM := hM.pull (pre := [_])
    refine Zt (seg := cat [[(vI ((⟨285, j5, j23, j50, p0⟩ : GCipher).Field))], enc ((⟨285, j5, j23, j50, p0⟩ : GCipher).Box), enc ((⟨285, j5, j23, j50, p0⟩ : GCipher).Mix), enc ((⟨285, j5, j23, j50, p0⟩ : GCipher).Places), [(vI ((⟨285, j5, j23, j50, p0⟩ : GCipher).Rounds))]]) (cs' := cat [[(vI ((⟨285, j5, j23, j50, p0⟩ : GCipher).Field))], enc ((⟨285, j5, j23, j50, p0⟩ : GCipher).Box), enc ((⟨285, j5, j23, j50, p0⟩ : GCipher).Mix), enc ((⟨285, j5, j23, j50, p0⟩ : GCipher).Places), [(vI ((⟨285, j5, j23, j50, p0⟩ : GCipher).Rounds))]]) hE hM Za rfl rfl rfl Va (ZC (cl1 (n := 1) (m := 289) rfl (cl1 (n := 256) (m := 33) (Flat.len _) (cl1 (n := 16) (m := 17) (Flat.len _) (cl1 (n := 16) (m := 1) (Flat.len _) (cl1 (n := 1) (m := 0) rfl cl0)))))) (Nat.le_of_eq ((Nat.zero_add _).trans (Eq.trans (ZC (cl1 (n := 1) (m := 289) rfl (cl1 (n := 256) (m := 33) (Flat.len _) (cl1 (n := 16) (m := 17) (Flat.len _) (cl1 (n := 16) (m := 1) (Flat.len _) (cl1 (n := 1) (m := 0) rfl cl0)))))) (Eq.symm (ZC (cl1 (n := 1) (m := 289) rfl (cl1 (n := 256) (m := 33) (Flat.len _) (cl1 (n := 16) (m := 17) (Flat.len _) (cl1 (n := 16) (m := 1) (Flat.len _) (cl1 (n := 1) (m := 0) rfl cl0)))))))))) (WD (cc1 (Flat.cell ((⟨285, j5, j23, j50, p0⟩ : GCipher).Field : Int)) (cc1 (Flat.cell _) (cc1 (Flat.cell _) (cc1 (Flat.cell _) (cc1 (Flat.cell ((⟨285, j5, j23, j50, p0⟩ : GCipher).Rounds : Int)) cc0)))))) (Zo (Eq.trans (ZC (cl1 (n := 1) (m := 289) rfl (cl1 (n := 256) (m := 33) (Flat.len _) (cl1 (n := 16) (m := 17) (Flat.len _) (cl1 (n := 16) (m := 1) (Flat.len _) (cl1 (n := 1) (m := 0) rfl cl0)))))) (Eq.symm (ZC (cl1 (n := 1) (m := 289) rfl (cl1 (n := 256) (m := 33) (Flat.len _) (cl1 (n := 16) (m := 17) (Flat.len _) (cl1 (n := 16) (m := 1) (Flat.len _) (cl1 (n := 1) (m := 0) rfl cl0))))))))) fun w a hM hE => Zf ?_
    have hr := Option.some.inj hF52
    subst hr
    have hq62 : YB Tryz.prog _ _ (.cell 2 173) _ := ZZ hE rfl Va rfl (hM.rawAt (pre := [])) (ZC (cl1 (n := 1) (m := 289) rfl (cl1 (n := 256) (m := 33) (Flat.len _) (cl1 (n := 16) (m := 17) (Flat.len _) (cl1 (n := 16) (m := 1) (Flat.len _) (cl1 (n := 1) (m := 0) rfl cl0)))))) rfl
    have hM := M.fst (l := []) hM
    exact wp_ret (Zy hE rfl hq62 ⟨_, rfl, rfl, hM.kept⟩)
noncomputable def Tw (s8 : (Vector (Vector UInt8 4) 4) × Int) : Option (Fl ((Vector (Vector UInt8 4) 4) × Int) (Vector (Vector UInt8 4) 4)) :=
 if (decide (s8.2 < 4)) = true then ((ZM s8.1 s8.2).bind fun x14 => (ZM x14 s8.2).bind fun x17 => some (Fl.nx ((s8.1.setIfInBounds (s8.2).toNat (x14.setIfInBounds (s8.2).toNat 1)), wr (s8.2 + 1)))) else (some (Fl.ex s8.1))
noncomputable def W5 : Option ((Vector (Vector UInt8 4) 4)) :=
 (ZG (Tw) ((Vector.replicate 4 (Vector.replicate 4 (0 : UInt8))), 0) : Option ((Vector (Vector UInt8 4) 4))).bind fun j5 => some j5
end Go.Proofs.YtifdeoikcebbjaaGreat
