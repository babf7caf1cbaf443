/- The walk of what the law reaches: contracts of functions. -/
import Derived.Test.YtifdeoikcebbjaaC2
set_option linter.unusedVariables false
set_option linter.unusedSimpArgs false
set_option maxRecDepth 20000
set_option maxHeartbeats 400000
namespace Go.Proofs.Ytifdeoikcebbjaa
open Go
theorem c_impl_field_invert (w0 : World) (p0 : Int) (p1 : (Vector (Vector UInt8 4) 4)) (r : UInt8 × (Vector (Vector UInt8 4) 4)) (hF : Y2 p0 p1 = some r) :
  Calls Try.prog 107 [(vI p0), (Value.agg (Flat.enc p1).toArray)].toArray w0 (fun en w' => ∃ v, en = .returned v ∧ (v = (Value.tuple [(vB r.1), (Value.agg (Flat.enc r.2).toArray)].toArray) ∧ Kept (Old w0) w0 w')) := by
 refine ZC (n := 153) Try.func107 rfl rfl (Nat.le_of_ble_eq_true rfl) rfl ?_
 intro a hE
 have hM := M.start w0
 unfold Y2 at hF
 refine Zc (Z5 (cs := Flat.enc p1) hE hM Za (dl rfl) rfl rfl ?_); intro b1 w a hM hE
 refine Ze hE Za (dl rfl) rfl ?_; intro a hE
 refine ZO hE hM Za (dl rfl) Vx ?_; intro b3 w a hM hE
 refine Zf (Zc ?_)
 obtain ⟨r5, e6, hF⟩ := bind_some hF
 refine Zw (vs := []) hE Za (dl rfl) rfl cb126 (c_impl_UnitMatrix _  r5 e6) ?_
 rintro v w a ⟨rfl, hK⟩ hE
 have hM := hM.keep hK
 refine ZO hE hM Za (dl rfl) Vx ?_; intro b7 w a hM hE
 refine Zs (seg := Flat.enc r5) (cs' := Flat.enc r5) hE hM Za rfl rfl rfl Vx (Flat.len _) (zle flq) (Flat.cell _) (Zq flq) ?_; intro w a hM hE
 refine Ze hE Za (dl rfl) rfl ?_; intro a hE
 refine Zf (wp_seq (Zc (Zd hE Za (dl rfl) rfl ?_))); intro a hE
 refine Zf ?_
 obtain ⟨j9, hl10, hF11⟩ := bind_some hF
 refine ZW (fun a w => ∃ s12 : (Vector (Vector UInt8 4) 4) × UInt8, j9 = Fl.nx s12 ∧ Env 153 a [(5, (ptr b3 0)), (6, (ptr b7 0)), (7, (vB s12.2))] ∧ M (Old w0) w0 w [raw b7 (Flat.enc s12.1), raw b3 (Flat.enc (Vector.replicate 4 (Vector.replicate 4 (0 : UInt8))))]) ?_ ?_
 ·skip
  refine wp_block ?_
  refine ZM (fun (s13 : (Vector (Vector UInt8 4) 4) × (Vector (Vector UInt8 4) 4) × Int × UInt8) a w => Env 153 a [(0, (vI p0)), (3, (ptr b1 0)), (5, (ptr b3 0)), (6, (ptr b7 0)), (7, (vB s13.2.2.2)), (16, (vI s13.2.2.1))] ∧ M (Old w0) w0 w [raw b7 (Flat.enc s13.2.1), raw b3 (Flat.enc (Vector.replicate 4 (Vector.replicate 4 (0 : UInt8)))), raw b1 (Flat.enc s13.1)]) hl10 ⟨hE.sub ⟨rfl, rfl, rfl, rfl, rfl, rfl, trivial⟩, hM⟩ ?_
  rintro s13 a w ⟨hE, hM⟩ o16 hs14 hx15
  unfold Yt at hs14
  refine Zc (Zh hE Za (dl rfl) rfl rfl rfl ?_); intro a hE
  refine Zf (wp_seq ?_)
  refine Zt hE rfl ?_ ?_
  ·intro hb17
   have hs14 := Zz hs14 hb17
   refine wp_skip (Zx (wp_seq (wp_block (Zc (Zd hE Za (dl rfl) rfl ?_))))); intro a hE
   refine Ze hE Za (dl rfl) rfl ?_; intro a hE
   refine Zf (Zc (Zd hE Za (dl rfl) rfl ?_)); intro a hE
   refine Ze hE Za (dl rfl) rfl ?_; intro a hE
   refine Zf ?_
   obtain ⟨j18, hl19, hF20⟩ := bind_some hs14
   refine ZS (fun a w => Env 153 a [(0, (vI p0)), (3, (ptr b1 0)), (5, (ptr b3 0)), (6, (ptr b7 0)), (7, (vB s13.2.2.2)), (8, (vI s13.2.2.1)), (9, (vI j18)), (16, (vI s13.2.2.1))] ∧ M (Old w0) w0 w [raw b7 (Flat.enc s13.2.1), raw b3 (Flat.enc (Vector.replicate 4 (Vector.replicate 4 (0 : UInt8)))), raw b1 (Flat.enc s13.1)]) ?_ ?_
   ·skip
    refine wp_block ?_
    refine ZM (fun (s21 : Int) a w => Env 153 a [(0, (vI p0)), (3, (ptr b1 0)), (5, (ptr b3 0)), (6, (ptr b7 0)), (7, (vB s13.2.2.2)), (8, (vI s13.2.2.1)), (9, (vI s21)), (16, (vI s13.2.2.1))] ∧ M (Old w0) w0 w [raw b7 (Flat.enc s13.2.1), raw b3 (Flat.enc (Vector.replicate 4 (Vector.replicate 4 (0 : UInt8)))), raw b1 (Flat.enc s13.1)]) hl19 ⟨hE.sub ⟨rfl, rfl, rfl, rfl, rfl, rfl, rfl, rfl, trivial⟩, hM⟩ ?_
    rintro s21 a w ⟨hE, hM⟩ o24 hs22 hx23
    unfold VO at hs22
    refine wp_seq ?_
    obtain ⟨j25, hl26, hF27⟩ := bind_some hs22
    refine ZS (fun a w => Env 153 a [(0, (vI p0)), (3, (ptr b1 0)), (5, (ptr b3 0)), (6, (ptr b7 0)), (7, (vB s13.2.2.2)), (8, (vI s13.2.2.1)), (9, (vI s21)), (16, (vI s13.2.2.1)), (29, (vT j25))] ∧ M (Old w0) w0 w [raw b7 (Flat.enc s13.2.1), raw b3 (Flat.enc (Vector.replicate 4 (Vector.replicate 4 (0 : UInt8)))), raw b1 (Flat.enc s13.1)]) ?_ ?_
    ·skip
     refine wp_region_lit (Zd hE Za (dl rfl) rfl ?_); intro a hE
     refine Zh hE Za (dl rfl) rfl rfl rfl ?_; intro a hE
     refine Zd hE Za (dl rfl) rfl ?_; intro a hE
     refine WV (decide (s21 < 4)) (fun hb28 => ?_) (fun hb28 => ?_)
     ·have hl26 := Zz hl26 hb28
      refine Zd hE (Zk hE rfl (lkb rfl hb28)) (by decide) rfl ?_; intro a hE
      refine Zd hE (Zk hE rfl (lkb rfl hb28)) (by decide) rfl ?_; intro a hE
      obtain ⟨x30, e31, hl26⟩ := bind_some hl26
      have hi29 := Zi e31
      refine Zm hE (Zk hE rfl (lkb rfl hb28)) (by decide) rfl rfl Try.underlying100 Ve hi29.1 ?_; intro a hE
      obtain ⟨x33, e34, hl26⟩ := bind_some hl26
      have hi32 := Zi e34
      refine Zm hE (Zk hE rfl (lkb rfl hb28)) (by decide) rfl rfl Try.underlying98 ty5 hi32.1 ?_; intro a hE
      refine Zv (v := (vB x33)) hE (Zk hE rfl (lkb rfl hb28)) (by decide) rfl ty5 rfl (At.vec (At.vec (hM.rawAt (pre := [_, _])) hi29.2) hi32.2) ?_; intro a hE
      refine Zh hE (Zk hE rfl (lkb rfl hb28)) (by decide) rfl rfl (bB_eql x33 0) ?_; intro a hE
      refine Yn hE Za (dl rfl) (lkb rfl hb28) rfl ?_; intro a hE
      refine Zj ?_
      have ht35 := Option.some.inj hl26
      subst ht35
      refine Zl ?_
      exact ⟨hE.sub ⟨rfl, rfl, rfl, rfl, rfl, rfl, rfl, rfl, rfl, trivial⟩, hM⟩
     ·have hl26 := ZA hl26 hb28
      refine Zn hE rfl (lkb rfl hb28) rfl (by decide) ?_; intro a hE
      refine Zn hE rfl (lkb rfl hb28) rfl (by decide) ?_; intro a hE
      refine Zn hE rfl (lkb rfl hb28) rfl (by decide) ?_; intro a hE
      refine Zn hE rfl (lkb rfl hb28) rfl (by decide) ?_; intro a hE
      refine Zn hE rfl (lkb rfl hb28) rfl (by decide) ?_; intro a hE
      refine Zn hE rfl (lkb rfl hb28) rfl (by decide) ?_; intro a hE
      refine YQ hE Za (dl rfl) (lkb rfl hb28) rfl ?_; intro a hE
      refine Zj ?_
      have ht36 := Option.some.inj hl26
      subst ht36
      refine Zl ?_
      exact ⟨hE.sub ⟨rfl, rfl, rfl, rfl, rfl, rfl, rfl, rfl, rfl, trivial⟩, hM⟩
    ·skip
     rintro a w ⟨hE, hM⟩
     refine Zt hE rfl ?_ ?_
     ·intro hb37
      have hF27 := Zz hF27 hb37
      refine wp_skip (Zx (wp_block (wp_region_lit (Zd hE Za (dl rfl) rfl ?_)))); intro a hE
      refine Zh hE Za (dl rfl) rfl rfl rfl ?_; intro a hE
      refine Ze hE Za (dl rfl) rfl ?_; intro a hE
      refine Zj (Yj (Zl ?_))
      exact ⟨_, (Option.some.inj hF27).symm, hE.sub ⟨rfl, rfl, rfl, rfl, rfl, rfl, rfl, rfl, trivial⟩, hM⟩
     ·intro hb37
      have hF27 := ZA hF27 hb37
      refine wp_exit (Zr (Zr (Yk ?_)))
      have ht38 := hx23 _ (Option.some.inj hF27).symm
      subst ht38
      refine Zl ?_
      exact ⟨hE.sub ⟨rfl, rfl, rfl, rfl, rfl, rfl, rfl, rfl, trivial⟩, hM⟩
   ·skip
    rintro a w ⟨hE, hM⟩
    refine wp_seq (Zc (Zd hE Za (dl rfl) rfl ?_)); intro a hE
    refine Zh hE Za (dl rfl) rfl rfl rfl ?_; intro a hE
    refine Zf ?_
    refine Zt hE rfl ?_ ?_
    ·intro hb39
     have hF20 := Zz hF20 hb39
     refine Zc (Xm (parts := []) (vs := []) (cs := Flat.enc (Vector.replicate 4 (Vector.replicate 4 (0 : UInt8)))) hE Za (dl rfl) rfl rfl Vx rfl Ve YO ?_); intro a hE
     refine Ze hE Za (dl rfl) rfl ?_; intro a hE
     have hM := hM.pull (pre := [_])
     refine Zs (seg := Flat.enc (Vector.replicate 4 (Vector.replicate 4 (0 : UInt8)))) (cs' := Flat.enc (Vector.replicate 4 (Vector.replicate 4 (0 : UInt8)))) hE hM Za rfl rfl rfl Vx (Flat.len _) (zle flq) (Flat.cell _) (Zq flq) ?_; intro w a hM hE
     refine Zf ?_
     have ht40 := hx15 _ (Option.some.inj hF20).symm
     subst ht40
     have hr := Option.some.inj hF11
     subst hr
     have hq41 : YR Try.prog _ _ (.cell 5 100) _ := Z7 hE rfl Vx rfl (hM.rawAt (pre := [])) (Flat.len _) rfl
     have hM := M.fst (l := []) hM
     exact wp_ret (ZL (WZ (ZL (ZL (WZ (ZL (ZL (k_ret2 hE rfl (Zu hE rfl) hq41 ⟨_, rfl, rfl, hM.kept⟩))))))))
    ·intro hb39
     have hF20 := ZA hF20 hb39
     refine wp_skip (Zx ?_)
     obtain ⟨j42, hl43, hF44⟩ := bind_some hF20
     refine ZS (fun a w => Env 153 a [(0, (vI p0)), (3, (ptr b1 0)), (5, (ptr b3 0)), (6, (ptr b7 0)), (7, (vB s13.2.2.2)), (8, (vI s13.2.2.1)), (9, (vI j18)), (16, (vI s13.2.2.1))] ∧ M (Old w0) w0 w [raw b7 (Flat.enc s13.2.1), raw b3 (Flat.enc (Vector.replicate 4 (Vector.replicate 4 (0 : UInt8)))), raw b1 (Flat.enc j42)]) ?_ ?_
     ·skip
      have hM := hM.pull (pre := [_, _])
      obtain ⟨x47, e48, hl43⟩ := bind_some hl43
      have hi46 := Zi e48
      obtain ⟨x50, e51, hl43⟩ := bind_some hl43
      have hi49 := Zi e51
      obtain ⟨x53, e54, hl43⟩ := bind_some hl43
      have hi52 := Zi e54
      refine Wz (n := 153) (hd := [_, _, _, _, _, _, _, _, _, _]) (tl := [_, _]) YB rfl rfl [35, 36, 37, 38, 39, 40, 41, 42, 43, 162] (by decide) (fun D u w => M (Old w0) w0 w ([raw b7 (Flat.enc s13.2.1), raw b3 (Flat.enc (Vector.replicate 4 (Vector.replicate 4 (0 : UInt8))))] ++ qL ([mkT 9 (raw b1 (Flat.enc s13.1)) (raw b1 (Flat.enc (s13.1.setIfInBounds (j18).toNat x47)))] : Mk) D u) ∧ GOk ([([], fun us v => v = (vI j18)), ([], fun us v => v = (vI s13.2.2.1)), ([], fun us v => v = (vI s13.2.2.1)), ([], fun us v => v = (ptr b1 (0 + (s13.2.2.1).toNat * 4))), ([], fun us v => v = (Value.agg (Flat.enc x47).toArray)), ([], fun us v => v = (vI j18)), ([], fun us v => v = (ptr b1 (0 + (j18).toNat * 4))), ([], fun us v => v = (Value.agg (Flat.enc x50).toArray)), ([], fun us v => v = (ptr b1 (0 + (j18).toNat * 4))), ([], fun us v => True)] : Gs) D u) hE (fun u => ⟨M.qT (M.q0 hM.drew u), gok0⟩) (ZH (Zb ?_ (Zb ?_ (Zb ?_ (Zb ?_ (Zb ?_ (Zb ?_ (Zb ?_ (Zb ?_ (Zb ?_ (Zb ?_ ZD))))))))))) ?_
      ·intro a w ux45 D hE hI hD hdc hp
       have hM0 := hI.1
       have hM := hI.1
       have hM := hM.togA (pre := [_, _]) (Bool.eq_false_iff.2 fun hx => Bool.noConfusion (hD.symm.trans (hdc 9 _ _ rfl (List.mem_of_getElem? (i := 2) rfl) rfl hx)))
       refine Zd hE Za (dl rfl) rfl ?_; intro a hE
       exact ⟨_, _, rfl, hE, M.qKeep hM0 rfl, hI.2.put hD rfl ZF rfl⟩
      ·intro a w ux45 D hE hI hD hdc hp
       have hM0 := hI.1
       refine Zd hE Za (dl rfl) rfl ?_; intro a hE
       exact ⟨_, _, rfl, hE, M.qKeep hM0 rfl, hI.2.put hD rfl ZF rfl⟩
      ·intro a w ux45 D hE hI hD hdc hp
       have hM0 := hI.1
       have hM := hI.1
       have hM := hM.togA (pre := [_, _]) (Bool.eq_false_iff.2 fun hx => Bool.noConfusion (hD.symm.trans (hdc 9 _ _ rfl (List.mem_of_getElem? (i := 4) rfl) rfl hx)))
       refine Zd hE Za (dl rfl) rfl ?_; intro a hE
       exact ⟨_, _, rfl, hE, M.qKeep hM0 rfl, hI.2.put hD rfl ZF rfl⟩
      ·intro a w ux45 D hE hI hD hdc hp
       have d2 : D 2 = true := hp 0 _ rfl rfl
       have g2 := hI.2 2 d2 _ rfl
       have f2 : ux45 2 = (vI s13.2.2.1) := g2.2
       have hM0 := hI.1
       have hM := hI.1
       have hM := hM.togA (pre := [_, _]) (Bool.eq_false_iff.2 fun hx => Bool.noConfusion (hD.symm.trans (hdc 9 _ _ rfl (List.mem_of_getElem? (i := 5) rfl) rfl hx)))
       refine Zm hE Za (dl rfl) rfl (lk rfl f2) Try.underlying100 Ve hi46.1 ?_; intro a hE
       exact ⟨_, _, rfl, hE, M.qKeep hM0 rfl, hI.2.put hD rfl ZF rfl⟩
      ·intro a w ux45 D hE hI hD hdc hp
       have d3 : D 3 = true := hp 0 _ rfl rfl
       have g3 := hI.2 3 d3 _ rfl
       have f3 : ux45 3 = (ptr b1 (0 + (s13.2.2.1).toNat * 4)) := g3.2
       have hM0 := hI.1
       have hM := hI.1
       have hM := hM.togA (pre := [_, _]) (Bool.eq_false_iff.2 fun hx => Bool.noConfusion (hD.symm.trans (hdc 9 _ _ rfl (List.mem_of_getElem? (i := 1) rfl) rfl hx)))
       refine Zp (cs := Flat.enc x47) hE Za (dl rfl) (lk rfl f3) Ve rfl (At.vec (hM.rawAt (pre := [_, _])) hi46.2) (Flat.len _) ?_; intro a hE
       exact ⟨_, _, rfl, hE, M.qKeep hM0 rfl, hI.2.put hD rfl ZF rfl⟩
      ·intro a w ux45 D hE hI hD hdc hp
       have hM0 := hI.1
       refine Zd hE Za (dl rfl) rfl ?_; intro a hE
       exact ⟨_, _, rfl, hE, M.qKeep hM0 rfl, hI.2.put hD rfl ZF rfl⟩
      ·intro a w ux45 D hE hI hD hdc hp
       have d5 : D 5 = true := hp 0 _ rfl rfl
       have g5 := hI.2 5 d5 _ rfl
       have f5 : ux45 5 = (vI j18) := g5.2
       have hM0 := hI.1
       have hM := hI.1
       have hM := hM.togA (pre := [_, _]) (Bool.eq_false_iff.2 fun hx => Bool.noConfusion (hD.symm.trans (hdc 9 _ _ rfl (List.mem_of_getElem? (i := 8) rfl) rfl hx)))
       refine Zm hE Za (dl rfl) rfl (lk rfl f5) Try.underlying100 Ve hi49.1 ?_; intro a hE
       exact ⟨_, _, rfl, hE, M.qKeep hM0 rfl, hI.2.put hD rfl ZF rfl⟩
      ·intro a w ux45 D hE hI hD hdc hp
       have d6 : D 6 = true := hp 0 _ rfl rfl
       have g6 := hI.2 6 d6 _ rfl
       have f6 : ux45 6 = (ptr b1 (0 + (j18).toNat * 4)) := g6.2
       have hM0 := hI.1
       have hM := hI.1
       have hM := hM.togA (pre := [_, _]) (Bool.eq_false_iff.2 fun hx => Bool.noConfusion (hD.symm.trans (hdc 9 _ _ rfl (List.mem_of_getElem? (i := 9) rfl) rfl hx)))
       refine Zp (cs := Flat.enc x50) hE Za (dl rfl) (lk rfl f6) Ve rfl (At.vec (hM.rawAt (pre := [_, _])) hi49.2) (Flat.len _) ?_; intro a hE
       exact ⟨_, _, rfl, hE, M.qKeep hM0 rfl, hI.2.put hD rfl ZF rfl⟩
      ·intro a w ux45 D hE hI hD hdc hp
       have d0 : D 0 = true := hp 0 _ rfl rfl
       have g0 := hI.2 0 d0 _ rfl
       have f0 : ux45 0 = (vI j18) := g0.2
       have hM0 := hI.1
       have hM := hI.1
       have hM := hM.togA (pre := [_, _]) (Bool.eq_false_iff.2 fun hx => Bool.noConfusion (hD.symm.trans (hdc 9 _ _ rfl (List.mem_of_getElem? (i := 0) rfl) rfl hx)))
       refine Zm hE Za (dl rfl) rfl (lk rfl f0) Try.underlying100 Ve hi52.1 ?_; intro a hE
       exact ⟨_, _, rfl, hE, M.qKeep hM0 rfl, hI.2.put hD rfl ZF rfl⟩
      ·intro a w ux45 D hE hI hD hdc hp
       have d4 : D 4 = true := hp 1 _ rfl rfl
       have g4 := hI.2 4 d4 _ rfl
       have f4 : ux45 4 = (Value.agg (Flat.enc x47).toArray) := g4.2
       have d8 : D 8 = true := hp 0 _ rfl rfl
       have g8 := hI.2 8 d8 _ rfl
       have f8 : ux45 8 = (ptr b1 (0 + (j18).toNat * 4)) := g8.2
       have hM0 := hI.1
       have hM := hI.1
       have hM := hM.togA (pre := [_, _]) hD
       have hM := hM.pull (pre := [_, _])
       refine Zs (seg := Flat.enc x47) (cs' := Flat.enc (s13.1.setIfInBounds (j18).toNat x47)) hE hM Za (lk rfl f8) (lk rfl f4) rfl Ve (Flat.len _) (ZT (v := s13.1) (x := x47) hi52.1) (Flat.cell _) (ZI (v := s13.1) (x := x47) hi52.1) ?_; intro w a hM hE
       exact ⟨undef, _, rfl, Env.dummy hE (by decide), M.qTog (mk1 := []) (mk2 := []) hM rfl, hI.2.put hD rfl ZF trivial⟩
      ·intro a w ux45 D hE hI hall
       have hM := hI.1
       have d0 : D 0 = true := hall 0 (by decide)
       have d1 : D 1 = true := hall 1 (by decide)
       have d2 : D 2 = true := hall 2 (by decide)
       have d3 : D 3 = true := hall 3 (by decide)
       have d4 : D 4 = true := hall 4 (by decide)
       have d5 : D 5 = true := hall 5 (by decide)
       have d6 : D 6 = true := hall 6 (by decide)
       have d7 : D 7 = true := hall 7 (by decide)
       have d8 : D 8 = true := hall 8 (by decide)
       have d9 : D 9 = true := hall 9 (by decide)
       have f0 : ux45 0 = (vI j18) := (hI.2 0 d0 _ rfl).2
       have f1 : ux45 1 = (vI s13.2.2.1) := (hI.2 1 d1 _ rfl).2
       have f2 : ux45 2 = (vI s13.2.2.1) := (hI.2 2 d2 _ rfl).2
       have f3 : ux45 3 = (ptr b1 (0 + (s13.2.2.1).toNat * 4)) := (hI.2 3 d3 _ rfl).2
       have f4 : ux45 4 = (Value.agg (Flat.enc x47).toArray) := (hI.2 4 d4 _ rfl).2
       have f5 : ux45 5 = (vI j18) := (hI.2 5 d5 _ rfl).2
       have f6 : ux45 6 = (ptr b1 (0 + (j18).toNat * 4)) := (hI.2 6 d6 _ rfl).2
       have f7 : ux45 7 = (Value.agg (Flat.enc x50).toArray) := (hI.2 7 d7 _ rfl).2
       have f8 : ux45 8 = (ptr b1 (0 + (j18).toNat * 4)) := (hI.2 8 d8 _ rfl).2
       have hM := hM.togB (pre := [_, _]) d9
       have hE := hE.sub (e' := [(35, (vI j18)), (36, (vI s13.2.2.1)), (37, (vI s13.2.2.1)), (38, (ptr b1 (0 + (s13.2.2.1).toNat * 4))), (39, (Value.agg (Flat.enc x47).toArray)), (40, (vI j18)), (41, (ptr b1 (0 + (j18).toNat * 4))), (42, (Value.agg (Flat.enc x50).toArray)), (43, (ptr b1 (0 + (j18).toNat * 4))), (0, (vI p0)), (3, (ptr b1 0)), (5, (ptr b3 0)), (6, (ptr b7 0)), (7, (vB s13.2.2.2)), (8, (vI s13.2.2.1)), (9, (vI j18)), (16, (vI s13.2.2.1)), (32, (vI j18)), (33, (vT (j18 == 4)))]) ⟨lk rfl f0, lk rfl f1, lk rfl f2, lk rfl f3, lk rfl f4, lk rfl f5, lk rfl f6, lk rfl f7, lk rfl f8, rfl, rfl, rfl, rfl, rfl, rfl, rfl, rfl, rfl, rfl, trivial⟩
       obtain ⟨x56, e57, hl43⟩ := bind_some hl43
       have hi55 := Zi e57
       refine Zm hE Za (dl rfl) rfl rfl Try.underlying100 Ve hi55.1 ?_; intro a hE
       have hM := hM.pull (pre := [_, _])
       refine Zs (seg := Flat.enc x50) (cs' := Flat.enc ((s13.1.setIfInBounds (j18).toNat x47).setIfInBounds (s13.2.2.1).toNat x50)) hE hM Za rfl rfl rfl Ve (Flat.len _) (ZT (v := (s13.1.setIfInBounds (j18).toNat x47)) (x := x50) hi55.1) (Flat.cell _) (ZI (v := (s13.1.setIfInBounds (j18).toNat x47)) (x := x50) hi55.1) ?_; intro w a hM hE
       refine Zj ?_
       have ht58 := Option.some.inj hl43
       subst ht58
       refine Zl ?_
       have hM := hM.pull (pre := [_, _])
       have hM := hM.pull (pre := [_, _])
       exact ⟨hE.sub ⟨rfl, rfl, rfl, rfl, rfl, rfl, rfl, rfl, trivial⟩, hM⟩
     ·skip
      rintro a w ⟨hE, hM⟩
      obtain ⟨j59, hl60, hF61⟩ := bind_some hF44
      refine ZS (fun a w => Env 153 a [(0, (vI p0)), (3, (ptr b1 0)), (5, (ptr b3 0)), (6, (ptr b7 0)), (7, (vB s13.2.2.2)), (8, (vI s13.2.2.1)), (16, (vI s13.2.2.1))] ∧ M (Old w0) w0 w [raw b7 (Flat.enc j59), raw b3 (Flat.enc (Vector.replicate 4 (Vector.replicate 4 (0 : UInt8)))), raw b1 (Flat.enc j42)]) ?_ ?_
      ·skip
       obtain ⟨x64, e65, hl60⟩ := bind_some hl60
       have hi63 := Zi e65
       obtain ⟨x67, e68, hl60⟩ := bind_some hl60
       have hi66 := Zi e68
       obtain ⟨x70, e71, hl60⟩ := bind_some hl60
       have hi69 := Zi e71
       refine Wz (n := 153) (hd := [_, _, _, _, _, _, _, _, _, _]) (tl := [_, _]) YB rfl rfl [45, 46, 47, 48, 49, 50, 51, 52, 53, 162] (by decide) (fun D u w => M (Old w0) w0 w ([raw b3 (Flat.enc (Vector.replicate 4 (Vector.replicate 4 (0 : UInt8)))), raw b1 (Flat.enc j42)] ++ qL ([mkT 9 (raw b7 (Flat.enc s13.2.1)) (raw b7 (Flat.enc (s13.2.1.setIfInBounds (j18).toNat x64)))] : Mk) D u) ∧ GOk ([([], fun us v => v = (vI j18)), ([], fun us v => v = (vI s13.2.2.1)), ([], fun us v => v = (vI s13.2.2.1)), ([], fun us v => v = (ptr b7 (0 + (s13.2.2.1).toNat * 4))), ([], fun us v => v = (Value.agg (Flat.enc x64).toArray)), ([], fun us v => v = (vI j18)), ([], fun us v => v = (ptr b7 (0 + (j18).toNat * 4))), ([], fun us v => v = (Value.agg (Flat.enc x67).toArray)), ([], fun us v => v = (ptr b7 (0 + (j18).toNat * 4))), ([], fun us v => True)] : Gs) D u) hE (fun u => ⟨M.qT (M.q0 hM.drew u), gok0⟩) (ZH (Zb ?_ (Zb ?_ (Zb ?_ (Zb ?_ (Zb ?_ (Zb ?_ (Zb ?_ (Zb ?_ (Zb ?_ (Zb ?_ ZD))))))))))) ?_
       ·intro a w ux62 D hE hI hD hdc hp
        have hM0 := hI.1
        have hM := hI.1
        have hM := hM.togA (pre := [_, _]) (Bool.eq_false_iff.2 fun hx => Bool.noConfusion (hD.symm.trans (hdc 9 _ _ rfl (List.mem_of_getElem? (i := 2) rfl) rfl hx)))
        refine Zd hE Za (dl rfl) rfl ?_; intro a hE
        exact ⟨_, _, rfl, hE, M.qKeep hM0 rfl, hI.2.put hD rfl ZF rfl⟩
       ·intro a w ux62 D hE hI hD hdc hp
        have hM0 := hI.1
        refine Zd hE Za (dl rfl) rfl ?_; intro a hE
        exact ⟨_, _, rfl, hE, M.qKeep hM0 rfl, hI.2.put hD rfl ZF rfl⟩
       ·intro a w ux62 D hE hI hD hdc hp
        have hM0 := hI.1
        have hM := hI.1
        have hM := hM.togA (pre := [_, _]) (Bool.eq_false_iff.2 fun hx => Bool.noConfusion (hD.symm.trans (hdc 9 _ _ rfl (List.mem_of_getElem? (i := 4) rfl) rfl hx)))
        refine Zd hE Za (dl rfl) rfl ?_; intro a hE
        exact ⟨_, _, rfl, hE, M.qKeep hM0 rfl, hI.2.put hD rfl ZF rfl⟩
       ·intro a w ux62 D hE hI hD hdc hp
        have d2 : D 2 = true := hp 0 _ rfl rfl
        have g2 := hI.2 2 d2 _ rfl
        have f2 : ux62 2 = (vI s13.2.2.1) := g2.2
        have hM0 := hI.1
        have hM := hI.1
        have hM := hM.togA (pre := [_, _]) (Bool.eq_false_iff.2 fun hx => Bool.noConfusion (hD.symm.trans (hdc 9 _ _ rfl (List.mem_of_getElem? (i := 5) rfl) rfl hx)))
        refine Zm hE Za (dl rfl) rfl (lk rfl f2) Try.underlying100 Ve hi63.1 ?_; intro a hE
        exact ⟨_, _, rfl, hE, M.qKeep hM0 rfl, hI.2.put hD rfl ZF rfl⟩
       ·intro a w ux62 D hE hI hD hdc hp
        have d3 : D 3 = true := hp 0 _ rfl rfl
        have g3 := hI.2 3 d3 _ rfl
        have f3 : ux62 3 = (ptr b7 (0 + (s13.2.2.1).toNat * 4)) := g3.2
        have hM0 := hI.1
        have hM := hI.1
        have hM := hM.togA (pre := [_, _]) (Bool.eq_false_iff.2 fun hx => Bool.noConfusion (hD.symm.trans (hdc 9 _ _ rfl (List.mem_of_getElem? (i := 1) rfl) rfl hx)))
        refine Zp (cs := Flat.enc x64) hE Za (dl rfl) (lk rfl f3) Ve rfl (At.vec (hM.rawAt (pre := [_, _])) hi63.2) (Flat.len _) ?_; intro a hE
        exact ⟨_, _, rfl, hE, M.qKeep hM0 rfl, hI.2.put hD rfl ZF rfl⟩
       ·intro a w ux62 D hE hI hD hdc hp
        have hM0 := hI.1
        refine Zd hE Za (dl rfl) rfl ?_; intro a hE
        exact ⟨_, _, rfl, hE, M.qKeep hM0 rfl, hI.2.put hD rfl ZF rfl⟩
       ·intro a w ux62 D hE hI hD hdc hp
        have d5 : D 5 = true := hp 0 _ rfl rfl
        have g5 := hI.2 5 d5 _ rfl
        have f5 : ux62 5 = (vI j18) := g5.2
        have hM0 := hI.1
        have hM := hI.1
        have hM := hM.togA (pre := [_, _]) (Bool.eq_false_iff.2 fun hx => Bool.noConfusion (hD.symm.trans (hdc 9 _ _ rfl (List.mem_of_getElem? (i := 8) rfl) rfl hx)))
        refine Zm hE Za (dl rfl) rfl (lk rfl f5) Try.underlying100 Ve hi66.1 ?_; intro a hE
        exact ⟨_, _, rfl, hE, M.qKeep hM0 rfl, hI.2.put hD rfl ZF rfl⟩
       ·intro a w ux62 D hE hI hD hdc hp
        have d6 : D 6 = true := hp 0 _ rfl rfl
        have g6 := hI.2 6 d6 _ rfl
        have f6 : ux62 6 = (ptr b7 (0 + (j18).toNat * 4)) := g6.2
        have hM0 := hI.1
        have hM := hI.1
        have hM := hM.togA (pre := [_, _]) (Bool.eq_false_iff.2 fun hx => Bool.noConfusion (hD.symm.trans (hdc 9 _ _ rfl (List.mem_of_getElem? (i := 9) rfl) rfl hx)))
        refine Zp (cs := Flat.enc x67) hE Za (dl rfl) (lk rfl f6) Ve rfl (At.vec (hM.rawAt (pre := [_, _])) hi66.2) (Flat.len _) ?_; intro a hE
        exact ⟨_, _, rfl, hE, M.qKeep hM0 rfl, hI.2.put hD rfl ZF rfl⟩
       ·intro a w ux62 D hE hI hD hdc hp
        have d0 : D 0 = true := hp 0 _ rfl rfl
        have g0 := hI.2 0 d0 _ rfl
        have f0 : ux62 0 = (vI j18) := g0.2
        have hM0 := hI.1
        have hM := hI.1
        have hM := hM.togA (pre := [_, _]) (Bool.eq_false_iff.2 fun hx => Bool.noConfusion (hD.symm.trans (hdc 9 _ _ rfl (List.mem_of_getElem? (i := 0) rfl) rfl hx)))
        refine Zm hE Za (dl rfl) rfl (lk rfl f0) Try.underlying100 Ve hi69.1 ?_; intro a hE
        exact ⟨_, _, rfl, hE, M.qKeep hM0 rfl, hI.2.put hD rfl ZF rfl⟩
       ·intro a w ux62 D hE hI hD hdc hp
        have d4 : D 4 = true := hp 1 _ rfl rfl
        have g4 := hI.2 4 d4 _ rfl
        have f4 : ux62 4 = (Value.agg (Flat.enc x64).toArray) := g4.2
        have d8 : D 8 = true := hp 0 _ rfl rfl
        have g8 := hI.2 8 d8 _ rfl
        have f8 : ux62 8 = (ptr b7 (0 + (j18).toNat * 4)) := g8.2
        have hM0 := hI.1
        have hM := hI.1
        have hM := hM.togA (pre := [_, _]) hD
        have hM := hM.pull (pre := [_, _])
        refine Zs (seg := Flat.enc x64) (cs' := Flat.enc (s13.2.1.setIfInBounds (j18).toNat x64)) hE hM Za (lk rfl f8) (lk rfl f4) rfl Ve (Flat.len _) (ZT (v := s13.2.1) (x := x64) hi69.1) (Flat.cell _) (ZI (v := s13.2.1) (x := x64) hi69.1) ?_; intro w a hM hE
        exact ⟨undef, _, rfl, Env.dummy hE (by decide), M.qTog (mk1 := []) (mk2 := []) hM rfl, hI.2.put hD rfl ZF trivial⟩
       ·intro a w ux62 D hE hI hall
        have hM := hI.1
        have d0 : D 0 = true := hall 0 (by decide)
        have d1 : D 1 = true := hall 1 (by decide)
        have d2 : D 2 = true := hall 2 (by decide)
        have d3 : D 3 = true := hall 3 (by decide)
        have d4 : D 4 = true := hall 4 (by decide)
        have d5 : D 5 = true := hall 5 (by decide)
        have d6 : D 6 = true := hall 6 (by decide)
        have d7 : D 7 = true := hall 7 (by decide)
        have d8 : D 8 = true := hall 8 (by decide)
        have d9 : D 9 = true := hall 9 (by decide)
        have f0 : ux62 0 = (vI j18) := (hI.2 0 d0 _ rfl).2
        have f1 : ux62 1 = (vI s13.2.2.1) := (hI.2 1 d1 _ rfl).2
        have f2 : ux62 2 = (vI s13.2.2.1) := (hI.2 2 d2 _ rfl).2
        have f3 : ux62 3 = (ptr b7 (0 + (s13.2.2.1).toNat * 4)) := (hI.2 3 d3 _ rfl).2
        have f4 : ux62 4 = (Value.agg (Flat.enc x64).toArray) := (hI.2 4 d4 _ rfl).2
        have f5 : ux62 5 = (vI j18) := (hI.2 5 d5 _ rfl).2
        have f6 : ux62 6 = (ptr b7 (0 + (j18).toNat * 4)) := (hI.2 6 d6 _ rfl).2
        have f7 : ux62 7 = (Value.agg (Flat.enc x67).toArray) := (hI.2 7 d7 _ rfl).2
        have f8 : ux62 8 = (ptr b7 (0 + (j18).toNat * 4)) := (hI.2 8 d8 _ rfl).2
        have hM := hM.togB (pre := [_, _]) d9
        have hE := hE.sub (e' := [(45, (vI j18)), (46, (vI s13.2.2.1)), (47, (vI s13.2.2.1)), (48, (ptr b7 (0 + (s13.2.2.1).toNat * 4))), (49, (Value.agg (Flat.enc x64).toArray)), (50, (vI j18)), (51, (ptr b7 (0 + (j18).toNat * 4))), (52, (Value.agg (Flat.enc x67).toArray)), (53, (ptr b7 (0 + (j18).toNat * 4))), (0, (vI p0)), (3, (ptr b1 0)), (5, (ptr b3 0)), (6, (ptr b7 0)), (7, (vB s13.2.2.2)), (8, (vI s13.2.2.1)), (9, (vI j18)), (16, (vI s13.2.2.1))]) ⟨lk rfl f0, lk rfl f1, lk rfl f2, lk rfl f3, lk rfl f4, lk rfl f5, lk rfl f6, lk rfl f7, lk rfl f8, rfl, rfl, rfl, rfl, rfl, rfl, rfl, rfl, trivial⟩
        obtain ⟨x73, e74, hl60⟩ := bind_some hl60
        have hi72 := Zi e74
        refine Zm hE Za (dl rfl) rfl rfl Try.underlying100 Ve hi72.1 ?_; intro a hE
        have hM := hM.pull (pre := [_, _])
        refine Zs (seg := Flat.enc x67) (cs' := Flat.enc ((s13.2.1.setIfInBounds (j18).toNat x64).setIfInBounds (s13.2.2.1).toNat x67)) hE hM Za rfl rfl rfl Ve (Flat.len _) (ZT (v := (s13.2.1.setIfInBounds (j18).toNat x64)) (x := x67) hi72.1) (Flat.cell _) (ZI (v := (s13.2.1.setIfInBounds (j18).toNat x64)) (x := x67) hi72.1) ?_; intro w a hM hE
        refine Zj ?_
        have ht75 := Option.some.inj hl60
        subst ht75
        refine Zl ?_
        exact ⟨hE.sub ⟨rfl, rfl, rfl, rfl, rfl, rfl, rfl, trivial⟩, hM⟩
      ·skip
       rintro a w ⟨hE, hM⟩
       refine Zc (Zd hE Za (dl rfl) rfl ?_); intro a hE
       refine Zd hE Za (dl rfl) rfl ?_; intro a hE
       refine Zd hE Za (dl rfl) rfl ?_; intro a hE
       refine Zd hE Za (dl rfl) rfl ?_; intro a hE
       obtain ⟨x77, e78, hF61⟩ := bind_some hF61
       have hi76 := Zi e78
       refine Zm hE Za (dl rfl) rfl rfl Try.underlying100 Ve hi76.1 ?_; intro a hE
       obtain ⟨x80, e81, hF61⟩ := bind_some hF61
       have hi79 := Zi e81
       refine Zm hE Za (dl rfl) rfl rfl Try.underlying98 ty5 hi79.1 ?_; intro a hE
       refine Zv (v := (vB x80)) hE Za (dl rfl) rfl ty5 rfl (At.vec (At.vec (hM.rawAt (pre := [_, _])) hi76.2) hi79.2) ?_; intro a hE
       obtain ⟨r82, e83, hF61⟩ := bind_some hF61
       refine Zw (vs := [(vI p0), (vB s13.2.2.2), (vB x80)]) hE Za (dl rfl) rfl cb127 (Yq _ p0 s13.2.2.2 x80 r82 e83) ?_
       rintro v w a ⟨rfl, hK⟩ hE
       have hM := hM.keep hK
       refine Ze hE Za (dl rfl) rfl ?_; intro a hE
       refine Zf (Zc (Zd hE Za (dl rfl) rfl ?_)); intro a hE
       refine Zd hE Za (dl rfl) rfl ?_; intro a hE
       refine Zd hE Za (dl rfl) rfl ?_; intro a hE
       obtain ⟨x85, e86, hF61⟩ := bind_some hF61
       have hi84 := Zi e86
       refine Zm hE Za (dl rfl) rfl rfl Try.underlying100 Ve hi84.1 ?_; intro a hE
       obtain ⟨x88, e89, hF61⟩ := bind_some hF61
       have hi87 := Zi e89
       refine Zm hE Za (dl rfl) rfl rfl Try.underlying98 ty5 hi87.1 ?_; intro a hE
       refine Zv (v := (vB x88)) hE Za (dl rfl) rfl ty5 rfl (At.vec (At.vec (hM.rawAt (pre := [_, _])) hi84.2) hi87.2) ?_; intro a hE
       obtain ⟨r90, e91, hF61⟩ := bind_some hF61
       refine Zw (vs := [(vI p0), (vB x88)]) hE Za (dl rfl) rfl cb111 (VC _ p0 x88 r90 e91) ?_
       rintro v w a ⟨rfl, hK⟩ hE
       have hM := hM.keep hK
       refine Ze hE Za (dl rfl) rfl ?_; intro a hE
       refine Zf (wp_seq (Zc (Zd hE Za (dl rfl) rfl ?_))); intro a hE
       refine Zf ?_
       obtain ⟨j92, hl93, hF94⟩ := bind_some hF61
       refine ZW (fun a w => Env 153 a [(0, (vI p0)), (3, (ptr b1 0)), (5, (ptr b3 0)), (6, (ptr b7 0)), (7, (vB r82)), (8, (vI s13.2.2.1)), (16, (vI s13.2.2.1))] ∧ M (Old w0) w0 w [raw b7 (Flat.enc j92.2), raw b3 (Flat.enc (Vector.replicate 4 (Vector.replicate 4 (0 : UInt8)))), raw b1 (Flat.enc j92.1)]) ?_ ?_
       ·skip
        refine wp_block ?_
        refine ZM (fun (s95 : (Vector (Vector UInt8 4) 4) × (Vector (Vector UInt8 4) 4) × Int) a w => Env 153 a [(0, (vI p0)), (3, (ptr b1 0)), (5, (ptr b3 0)), (6, (ptr b7 0)), (7, (vB r82)), (8, (vI s13.2.2.1)), (10, (vB r90)), (16, (vI s13.2.2.1)), (70, (vI s95.2.2))] ∧ M (Old w0) w0 w [raw b7 (Flat.enc s95.2.1), raw b3 (Flat.enc (Vector.replicate 4 (Vector.replicate 4 (0 : UInt8)))), raw b1 (Flat.enc s95.1)]) hl93 ⟨hE.sub ⟨rfl, rfl, rfl, rfl, rfl, rfl, rfl, rfl, rfl, trivial⟩, hM⟩ ?_
        rintro s95 a w ⟨hE, hM⟩ o98 hs96 hx97
        unfold Xs at hs96
        refine Zc (Zh hE Za (dl rfl) rfl rfl rfl ?_); intro a hE
        refine Zf (wp_seq ?_)
        refine Zt hE rfl ?_ ?_
        ·intro hb99
         have hs96 := Zz hs96 hb99
         refine wp_skip (Zx (wp_seq (wp_block (Zc (Zd hE Za (dl rfl) rfl ?_))))); intro a hE
         refine Ze hE Za (dl rfl) rfl ?_; intro a hE
         refine Zf ?_
         have hM := hM.pull (pre := [_, _])
         obtain ⟨x102, e103, hs96⟩ := bind_some hs96
         have hi101 := Zi e103
         obtain ⟨x105, e106, hs96⟩ := bind_some hs96
         have hi104 := Zi e106
         obtain ⟨r107, e108, hs96⟩ := bind_some hs96
         obtain ⟨x110, e111, hs96⟩ := bind_some hs96
         have hi109 := Zi e111
         obtain ⟨x113, e114, hs96⟩ := bind_some hs96
         have hi112 := Zi e114
         obtain ⟨r115, e116, hs96⟩ := bind_some hs96
         obtain ⟨x118, e119, hs96⟩ := bind_some hs96
         have hi117 := Zi e119
         obtain ⟨x121, e122, hs96⟩ := bind_some hs96
         have hi120 := Zi e122
         obtain ⟨x124, e125, hs96⟩ := bind_some hs96
         have hi123 := Zi e125
         refine Wz (n := 153) (hd := [_, _, _, _, _, _, _, _, _, _, _, _, _, _, _, _, _, _, _, _, _, _, _, _]) (tl := [_, _]) YB rfl rfl [73, 74, 75, 76, 77, 78, 79, 80, 81, 82, 83, 84, 85, 86, 87, 88, 89, 90, 91, 92, 93, 94, 175, 95] (by decide) (fun D u w => M (Old w0) w0 w ([raw b7 (Flat.enc s95.2.1), raw b3 (Flat.enc (Vector.replicate 4 (Vector.replicate 4 (0 : UInt8))))] ++ qL ([mkT 22 (raw b1 (Flat.enc s95.1)) (raw b1 (Flat.enc (s95.1.setIfInBounds (s13.2.2.1).toNat (x118.setIfInBounds (s95.2.2).toNat r107))))] : Mk) D u) ∧ GOk ([([], fun us v => v = (vI s13.2.2.1)), ([], fun us v => v = (vI s95.2.2)), ([], fun us v => v = (vI s13.2.2.1)), ([], fun us v => v = (vI s95.2.2)), ([], fun us v => v = (vI p0)), ([], fun us v => v = (vI s13.2.2.1)), ([], fun us v => v = (vI s95.2.2)), ([], fun us v => v = (ptr b1 (0 + (s13.2.2.1).toNat * 4))), ([], fun us v => v = (ptr b1 (0 + (s13.2.2.1).toNat * 4 + (s95.2.2).toNat * 1))), ([], fun us v => v = (vB x105)), ([], fun us v => v = (vB r90)), ([], fun us v => v = (vB r107)), ([], fun us v => v = (vI p0)), ([], fun us v => v = (vI s13.2.2.1)), ([], fun us v => v = (vI s95.2.2)), ([], fun us v => v = (ptr b7 (0 + (s13.2.2.1).toNat * 4))), ([], fun us v => v = (ptr b7 (0 + (s13.2.2.1).toNat * 4 + (s95.2.2).toNat * 1))), ([], fun us v => v = (vB x113)), ([], fun us v => v = (vB r90)), ([], fun us v => v = (vB r115)), ([], fun us v => v = (ptr b1 (0 + (s13.2.2.1).toNat * 4))), ([], fun us v => v = (ptr b1 (0 + (s13.2.2.1).toNat * 4 + (s95.2.2).toNat * 1))), ([], fun us v => True), ([], fun us v => v = (ptr b7 (0 + (s13.2.2.1).toNat * 4)))] : Gs) D u) hE (fun u => ⟨M.qT (M.q0 hM.drew u), gok0⟩) (ZH (Zb ?_ (Zb ?_ (Zb ?_ (Zb ?_ (Zb ?_ (Zb ?_ (Zb ?_ (Zb ?_ (Zb ?_ (Zb ?_ (Zb ?_ (Zb ?_ (Zb ?_ (Zb ?_ (Zb ?_ (Zb ?_ (Zb ?_ (Zb ?_ (Zb ?_ (Zb ?_ (Zb ?_ (Zb ?_ (Zb ?_ (Zb ?_ ZD))))))))))))))))))))))))) ?_
         ·intro a w ux100 D hE hI hD hdc hp
          have hM0 := hI.1
          have hM := hI.1
          have hM := hM.togA (pre := [_, _]) (Bool.eq_false_iff.2 fun hx => Bool.noConfusion (hD.symm.trans (hdc 22 _ _ rfl (List.mem_of_getElem? (i := 3) rfl) rfl hx)))
          refine Zd hE Za (dl rfl) rfl ?_; intro a hE
          exact ⟨_, _, rfl, hE, M.qKeep hM0 rfl, hI.2.put hD rfl ZF rfl⟩
         ·intro a w ux100 D hE hI hD hdc hp
          have hM0 := hI.1
          have hM := hI.1
          have hM := hM.togA (pre := [_, _]) (Bool.eq_false_iff.2 fun hx => Bool.noConfusion (hD.symm.trans (hdc 22 _ _ rfl (List.mem_of_getElem? (i := 4) rfl) rfl hx)))
          refine Zd hE Za (dl rfl) rfl ?_; intro a hE
          exact ⟨_, _, rfl, hE, M.qKeep hM0 rfl, hI.2.put hD rfl ZF rfl⟩
         ·intro a w ux100 D hE hI hD hdc hp
          have hM0 := hI.1
          refine Zd hE Za (dl rfl) rfl ?_; intro a hE
          exact ⟨_, _, rfl, hE, M.qKeep hM0 rfl, hI.2.put hD rfl ZF rfl⟩
         ·intro a w ux100 D hE hI hD hdc hp
          have hM0 := hI.1
          refine Zd hE Za (dl rfl) rfl ?_; intro a hE
          exact ⟨_, _, rfl, hE, M.qKeep hM0 rfl, hI.2.put hD rfl ZF rfl⟩
         ·intro a w ux100 D hE hI hD hdc hp
          have hM0 := hI.1
          have hM := hI.1
          have hM := hM.togA (pre := [_, _]) (Bool.eq_false_iff.2 fun hx => Bool.noConfusion (hD.symm.trans (hdc 22 _ _ rfl (List.mem_of_getElem? (i := 7) rfl) rfl hx)))
          refine Zd hE Za (dl rfl) rfl ?_; intro a hE
          exact ⟨_, _, rfl, hE, M.qKeep hM0 rfl, hI.2.put hD rfl ZF rfl⟩
         ·intro a w ux100 D hE hI hD hdc hp
          have hM0 := hI.1
          have hM := hI.1
          have hM := hM.togA (pre := [_, _]) (Bool.eq_false_iff.2 fun hx => Bool.noConfusion (hD.symm.trans (hdc 22 _ _ rfl (List.mem_of_getElem? (i := 8) rfl) rfl hx)))
          refine Zd hE Za (dl rfl) rfl ?_; intro a hE
          exact ⟨_, _, rfl, hE, M.qKeep hM0 rfl, hI.2.put hD rfl ZF rfl⟩
         ·intro a w ux100 D hE hI hD hdc hp
          have hM0 := hI.1
          have hM := hI.1
          have hM := hM.togA (pre := [_, _]) (Bool.eq_false_iff.2 fun hx => Bool.noConfusion (hD.symm.trans (hdc 22 _ _ rfl (List.mem_of_getElem? (i := 9) rfl) rfl hx)))
          refine Zd hE Za (dl rfl) rfl ?_; intro a hE
          exact ⟨_, _, rfl, hE, M.qKeep hM0 rfl, hI.2.put hD rfl ZF rfl⟩
         ·intro a w ux100 D hE hI hD hdc hp
          have d5 : D 5 = true := hp 0 _ rfl rfl
          have g5 := hI.2 5 d5 _ rfl
          have f5 : ux100 5 = (vI s13.2.2.1) := g5.2
          have hM0 := hI.1
          have hM := hI.1
          have hM := hM.togA (pre := [_, _]) (Bool.eq_false_iff.2 fun hx => Bool.noConfusion (hD.symm.trans (hdc 22 _ _ rfl (List.mem_of_getElem? (i := 10) rfl) rfl hx)))
          refine Zm hE Za (dl rfl) rfl (lk rfl f5) Try.underlying100 Ve hi101.1 ?_; intro a hE
          exact ⟨_, _, rfl, hE, M.qKeep hM0 rfl, hI.2.put hD rfl ZF rfl⟩
         ·intro a w ux100 D hE hI hD hdc hp
          have d6 : D 6 = true := hp 1 _ rfl rfl
          have g6 := hI.2 6 d6 _ rfl
          have f6 : ux100 6 = (vI s95.2.2) := g6.2
          have d7 : D 7 = true := hp 0 _ rfl rfl
          have g7 := hI.2 7 d7 _ rfl
          have f7 : ux100 7 = (ptr b1 (0 + (s13.2.2.1).toNat * 4)) := g7.2
          have hM0 := hI.1
          have hM := hI.1
          have hM := hM.togA (pre := [_, _]) (Bool.eq_false_iff.2 fun hx => Bool.noConfusion (hD.symm.trans (hdc 22 _ _ rfl (List.mem_of_getElem? (i := 11) rfl) rfl hx)))
          refine Zm hE Za (dl rfl) (lk rfl f7) (lk rfl f6) Try.underlying98 ty5 hi104.1 ?_; intro a hE
          exact ⟨_, _, rfl, hE, M.qKeep hM0 rfl, hI.2.put hD rfl ZF rfl⟩
         ·intro a w ux100 D hE hI hD hdc hp
          have d8 : D 8 = true := hp 0 _ rfl rfl
          have g8 := hI.2 8 d8 _ rfl
          have f8 : ux100 8 = (ptr b1 (0 + (s13.2.2.1).toNat * 4 + (s95.2.2).toNat * 1)) := g8.2
          have hM0 := hI.1
          have hM := hI.1
          have hM := hM.togA (pre := [_, _]) (Bool.eq_false_iff.2 fun hx => Bool.noConfusion (hD.symm.trans (hdc 22 _ _ rfl (List.mem_of_getElem? (i := 12) rfl) rfl hx)))
          refine Zv (v := (vB x105)) hE Za (dl rfl) (lk rfl f8) ty5 rfl (At.vec (At.vec (hM.rawAt (pre := [_, _])) hi101.2) hi104.2) ?_; intro a hE
          exact ⟨_, _, rfl, hE, M.qKeep hM0 rfl, hI.2.put hD rfl ZF rfl⟩
         ·intro a w ux100 D hE hI hD hdc hp
          have hM0 := hI.1
          have hM := hI.1
          have hM := hM.togA (pre := [_, _]) (Bool.eq_false_iff.2 fun hx => Bool.noConfusion (hD.symm.trans (hdc 22 _ _ rfl (List.mem_of_getElem? (i := 13) rfl) rfl hx)))
          refine Zd hE Za (dl rfl) rfl ?_; intro a hE
          exact ⟨_, _, rfl, hE, M.qKeep hM0 rfl, hI.2.put hD rfl ZF rfl⟩
         ·intro a w ux100 D hE hI hD hdc hp
          have d4 : D 4 = true := hp 0 _ rfl rfl
          have g4 := hI.2 4 d4 _ rfl
          have f4 : ux100 4 = (vI p0) := g4.2
          have d9 : D 9 = true := hp 1 _ rfl rfl
          have g9 := hI.2 9 d9 _ rfl
          have f9 : ux100 9 = (vB x105) := g9.2
          have d10 : D 10 = true := hp 2 _ rfl rfl
          have g10 := hI.2 10 d10 _ rfl
          have f10 : ux100 10 = (vB r90) := g10.2
          have hM0 := hI.1
          have hM := hI.1
          have hM := hM.togA (pre := [_, _]) (Bool.eq_false_iff.2 fun hx => Bool.noConfusion (hD.symm.trans (hdc 22 _ _ rfl (List.mem_of_getElem? (i := 1) rfl) rfl hx)))
          refine Zw (vs := [(vI p0), (vB x105), (vB r90)]) hE Za (dl rfl) (Z0 (ZZ (lk rfl f4) (ZZ (lk rfl f9) (ZZ (lk rfl f10) Xh)))) cb127 (Yq _ p0 x105 r90 r107 e108) ?_
          rintro v w a ⟨rfl, hK⟩ hE
          exact ⟨_, _, rfl, hE, M.qKeep (hM0.keep hK) rfl, hI.2.put hD rfl ZF rfl⟩
         ·intro a w ux100 D hE hI hD hdc hp
          have hM0 := hI.1
          refine Zd hE Za (dl rfl) rfl ?_; intro a hE
          exact ⟨_, _, rfl, hE, M.qKeep hM0 rfl, hI.2.put hD rfl ZF rfl⟩
         ·intro a w ux100 D hE hI hD hdc hp
          have hM0 := hI.1
          refine Zd hE Za (dl rfl) rfl ?_; intro a hE
          exact ⟨_, _, rfl, hE, M.qKeep hM0 rfl, hI.2.put hD rfl ZF rfl⟩
         ·intro a w ux100 D hE hI hD hdc hp
          have hM0 := hI.1
          refine Zd hE Za (dl rfl) rfl ?_; intro a hE
          exact ⟨_, _, rfl, hE, M.qKeep hM0 rfl, hI.2.put hD rfl ZF rfl⟩
         ·intro a w ux100 D hE hI hD hdc hp
          have d13 : D 13 = true := hp 0 _ rfl rfl
          have g13 := hI.2 13 d13 _ rfl
          have f13 : ux100 13 = (vI s13.2.2.1) := g13.2
          have hM0 := hI.1
          refine Zm hE Za (dl rfl) rfl (lk rfl f13) Try.underlying100 Ve hi109.1 ?_; intro a hE
          exact ⟨_, _, rfl, hE, M.qKeep hM0 rfl, hI.2.put hD rfl ZF rfl⟩
         ·intro a w ux100 D hE hI hD hdc hp
          have d14 : D 14 = true := hp 1 _ rfl rfl
          have g14 := hI.2 14 d14 _ rfl
          have f14 : ux100 14 = (vI s95.2.2) := g14.2
          have d15 : D 15 = true := hp 0 _ rfl rfl
          have g15 := hI.2 15 d15 _ rfl
          have f15 : ux100 15 = (ptr b7 (0 + (s13.2.2.1).toNat * 4)) := g15.2
          have hM0 := hI.1
          refine Zm hE Za (dl rfl) (lk rfl f15) (lk rfl f14) Try.underlying98 ty5 hi112.1 ?_; intro a hE
          exact ⟨_, _, rfl, hE, M.qKeep hM0 rfl, hI.2.put hD rfl ZF rfl⟩
         ·intro a w ux100 D hE hI hD hdc hp
          have d16 : D 16 = true := hp 0 _ rfl rfl
          have g16 := hI.2 16 d16 _ rfl
          have f16 : ux100 16 = (ptr b7 (0 + (s13.2.2.1).toNat * 4 + (s95.2.2).toNat * 1)) := g16.2
          have hM0 := hI.1
          have hM := hI.1
          refine Zv (v := (vB x113)) hE Za (dl rfl) (lk rfl f16) ty5 rfl (At.vec (At.vec (hM.rawAt (pre := [])) hi109.2) hi112.2) ?_; intro a hE
          exact ⟨_, _, rfl, hE, M.qKeep hM0 rfl, hI.2.put hD rfl ZF rfl⟩
         ·intro a w ux100 D hE hI hD hdc hp
          have hM0 := hI.1
          refine Zd hE Za (dl rfl) rfl ?_; intro a hE
          exact ⟨_, _, rfl, hE, M.qKeep hM0 rfl, hI.2.put hD rfl ZF rfl⟩
         ·intro a w ux100 D hE hI hD hdc hp
          have d12 : D 12 = true := hp 0 _ rfl rfl
          have g12 := hI.2 12 d12 _ rfl
          have f12 : ux100 12 = (vI p0) := g12.2
          have d17 : D 17 = true := hp 1 _ rfl rfl
          have g17 := hI.2 17 d17 _ rfl
          have f17 : ux100 17 = (vB x113) := g17.2
          have d18 : D 18 = true := hp 2 _ rfl rfl
          have g18 := hI.2 18 d18 _ rfl
          have f18 : ux100 18 = (vB r90) := g18.2
          have hM0 := hI.1
          have hM := hI.1
          have hM := hM.togA (pre := [_, _]) (Bool.eq_false_iff.2 fun hx => Bool.noConfusion (hD.symm.trans (hdc 22 _ _ rfl (List.mem_of_getElem? (i := 2) rfl) rfl hx)))
          refine Zw (vs := [(vI p0), (vB x113), (vB r90)]) hE Za (dl rfl) (Z0 (ZZ (lk rfl f12) (ZZ (lk rfl f17) (ZZ (lk rfl f18) Xh)))) cb127 (Yq _ p0 x113 r90 r115 e116) ?_
          rintro v w a ⟨rfl, hK⟩ hE
          exact ⟨_, _, rfl, hE, M.qKeep (hM0.keep hK) rfl, hI.2.put hD rfl ZF rfl⟩
         ·intro a w ux100 D hE hI hD hdc hp
          have d0 : D 0 = true := hp 0 _ rfl rfl
          have g0 := hI.2 0 d0 _ rfl
          have f0 : ux100 0 = (vI s13.2.2.1) := g0.2
          have hM0 := hI.1
          refine Zm hE Za (dl rfl) rfl (lk rfl f0) Try.underlying100 Ve hi117.1 ?_; intro a hE
          exact ⟨_, _, rfl, hE, M.qKeep hM0 rfl, hI.2.put hD rfl ZF rfl⟩
         ·intro a w ux100 D hE hI hD hdc hp
          have d1 : D 1 = true := hp 1 _ rfl rfl
          have g1 := hI.2 1 d1 _ rfl
          have f1 : ux100 1 = (vI s95.2.2) := g1.2
          have d20 : D 20 = true := hp 0 _ rfl rfl
          have g20 := hI.2 20 d20 _ rfl
          have f20 : ux100 20 = (ptr b1 (0 + (s13.2.2.1).toNat * 4)) := g20.2
          have hM0 := hI.1
          have hM := hI.1
          have hM := hM.togA (pre := [_, _]) (Bool.eq_false_iff.2 fun hx => Bool.noConfusion (hD.symm.trans (hdc 22 _ _ rfl (List.mem_of_getElem? (i := 0) rfl) rfl hx)))
          refine Zm hE Za (dl rfl) (lk rfl f20) (lk rfl f1) Try.underlying98 ty5 hi120.1 ?_; intro a hE
          exact ⟨_, _, rfl, hE, M.qKeep hM0 rfl, hI.2.put hD rfl ZF rfl⟩
         ·intro a w ux100 D hE hI hD hdc hp
          have d11 : D 11 = true := hp 1 _ rfl rfl
          have g11 := hI.2 11 d11 _ rfl
          have f11 : ux100 11 = (vB r107) := g11.2
          have d21 : D 21 = true := hp 0 _ rfl rfl
          have g21 := hI.2 21 d21 _ rfl
          have f21 : ux100 21 = (ptr b1 (0 + (s13.2.2.1).toNat * 4 + (s95.2.2).toNat * 1)) := g21.2
          have hM0 := hI.1
          have hM := hI.1
          have hM := hM.togA (pre := [_, _]) hD
          have hM := hM.pull (pre := [_, _])
          refine Zs (seg := [(vB r107)]) (cs' := Flat.enc (s95.1.setIfInBounds (s13.2.2.1).toNat (x118.setIfInBounds (s95.2.2).toNat r107))) hE hM Za (lk rfl f21) (lk rfl f11) rfl ty5 rfl (W9 (o' := 0 + (s95.2.2).toNat * 1) hi117 (ZT (v := x118) (x := r107) hi120.1) (by first | omega | (simp only [Flat.n] <;> omega))) (Flat.cell (r107 : UInt8)) (Wl (o' := 0 + (s95.2.2).toNat * 1) hi117 (ZT (v := x118) (x := r107) hi120.1) (ZI (v := x118) (x := r107) hi120.1) (by first | omega | (simp only [Flat.n] <;> omega))) ?_; intro w a hM hE
          exact ⟨undef, _, rfl, Env.dummy hE (by decide), M.qTog (mk1 := []) (mk2 := []) hM rfl, hI.2.put hD rfl ZF trivial⟩
         ·intro a w ux100 D hE hI hD hdc hp
          have d2 : D 2 = true := hp 0 _ rfl rfl
          have g2 := hI.2 2 d2 _ rfl
          have f2 : ux100 2 = (vI s13.2.2.1) := g2.2
          have hM0 := hI.1
          refine Zm hE Za (dl rfl) rfl (lk rfl f2) Try.underlying100 Ve hi123.1 ?_; intro a hE
          exact ⟨_, _, rfl, hE, M.qKeep hM0 rfl, hI.2.put hD rfl ZF rfl⟩
         ·intro a w ux100 D hE hI hall
          have hM := hI.1
          have d0 : D 0 = true := hall 0 (by decide)
          have d1 : D 1 = true := hall 1 (by decide)
          have d2 : D 2 = true := hall 2 (by decide)
          have d3 : D 3 = true := hall 3 (by decide)
          have d4 : D 4 = true := hall 4 (by decide)
          have d5 : D 5 = true := hall 5 (by decide)
          have d6 : D 6 = true := hall 6 (by decide)
          have d7 : D 7 = true := hall 7 (by decide)
          have d8 : D 8 = true := hall 8 (by decide)
          have d9 : D 9 = true := hall 9 (by decide)
          have d10 : D 10 = true := hall 10 (by decide)
          have d11 : D 11 = true := hall 11 (by decide)
          have d12 : D 12 = true := hall 12 (by decide)
          have d13 : D 13 = true := hall 13 (by decide)
          have d14 : D 14 = true := hall 14 (by decide)
          have d15 : D 15 = true := hall 15 (by decide)
          have d16 : D 16 = true := hall 16 (by decide)
          have d17 : D 17 = true := hall 17 (by decide)
          have d18 : D 18 = true := hall 18 (by decide)
          have d19 : D 19 = true := hall 19 (by decide)
          have d20 : D 20 = true := hall 20 (by decide)
          have d21 : D 21 = true := hall 21 (by decide)
          have d22 : D 22 = true := hall 22 (by decide)
          have d23 : D 23 = true := hall 23 (by decide)
          have f0 : ux100 0 = (vI s13.2.2.1) := (hI.2 0 d0 _ rfl).2
          have f1 : ux100 1 = (vI s95.2.2) := (hI.2 1 d1 _ rfl).2
          have f2 : ux100 2 = (vI s13.2.2.1) := (hI.2 2 d2 _ rfl).2
          have f3 : ux100 3 = (vI s95.2.2) := (hI.2 3 d3 _ rfl).2
          have f4 : ux100 4 = (vI p0) := (hI.2 4 d4 _ rfl).2
          have f5 : ux100 5 = (vI s13.2.2.1) := (hI.2 5 d5 _ rfl).2
          have f6 : ux100 6 = (vI s95.2.2) := (hI.2 6 d6 _ rfl).2
          have f7 : ux100 7 = (ptr b1 (0 + (s13.2.2.1).toNat * 4)) := (hI.2 7 d7 _ rfl).2
          have f8 : ux100 8 = (ptr b1 (0 + (s13.2.2.1).toNat * 4 + (s95.2.2).toNat * 1)) := (hI.2 8 d8 _ rfl).2
          have f9 : ux100 9 = (vB x105) := (hI.2 9 d9 _ rfl).2
          have f10 : ux100 10 = (vB r90) := (hI.2 10 d10 _ rfl).2
          have f11 : ux100 11 = (vB r107) := (hI.2 11 d11 _ rfl).2
          have f12 : ux100 12 = (vI p0) := (hI.2 12 d12 _ rfl).2
          have f13 : ux100 13 = (vI s13.2.2.1) := (hI.2 13 d13 _ rfl).2
          have f14 : ux100 14 = (vI s95.2.2) := (hI.2 14 d14 _ rfl).2
          have f15 : ux100 15 = (ptr b7 (0 + (s13.2.2.1).toNat * 4)) := (hI.2 15 d15 _ rfl).2
          have f16 : ux100 16 = (ptr b7 (0 + (s13.2.2.1).toNat * 4 + (s95.2.2).toNat * 1)) := (hI.2 16 d16 _ rfl).2
          have f17 : ux100 17 = (vB x113) := (hI.2 17 d17 _ rfl).2
          have f18 : ux100 18 = (vB r90) := (hI.2 18 d18 _ rfl).2
          have f19 : ux100 19 = (vB r115) := (hI.2 19 d19 _ rfl).2
          have f20 : ux100 20 = (ptr b1 (0 + (s13.2.2.1).toNat * 4)) := (hI.2 20 d20 _ rfl).2
          have f21 : ux100 21 = (ptr b1 (0 + (s13.2.2.1).toNat * 4 + (s95.2.2).toNat * 1)) := (hI.2 21 d21 _ rfl).2
          have f23 : ux100 23 = (ptr b7 (0 + (s13.2.2.1).toNat * 4)) := (hI.2 23 d23 _ rfl).2
          have hM := hM.togB (pre := [_, _]) d22
          have hE := hE.sub (e' := [(73, (vI s13.2.2.1)), (74, (vI s95.2.2)), (75, (vI s13.2.2.1)), (76, (vI s95.2.2)), (77, (vI p0)), (78, (vI s13.2.2.1)), (79, (vI s95.2.2)), (80, (ptr b1 (0 + (s13.2.2.1).toNat * 4))), (81, (ptr b1 (0 + (s13.2.2.1).toNat * 4 + (s95.2.2).toNat * 1))), (82, (vB x105)), (83, (vB r90)), (84, (vB r107)), (85, (vI p0)), (86, (vI s13.2.2.1)), (87, (vI s95.2.2)), (88, (ptr b7 (0 + (s13.2.2.1).toNat * 4))), (89, (ptr b7 (0 + (s13.2.2.1).toNat * 4 + (s95.2.2).toNat * 1))), (90, (vB x113)), (91, (vB r90)), (92, (vB r115)), (93, (ptr b1 (0 + (s13.2.2.1).toNat * 4))), (94, (ptr b1 (0 + (s13.2.2.1).toNat * 4 + (s95.2.2).toNat * 1))), (95, (ptr b7 (0 + (s13.2.2.1).toNat * 4))), (0, (vI p0)), (3, (ptr b1 0)), (5, (ptr b3 0)), (6, (ptr b7 0)), (7, (vB r82)), (8, (vI s13.2.2.1)), (10, (vB r90)), (11, (vI s95.2.2)), (16, (vI s13.2.2.1)), (70, (vI s95.2.2)), (71, (vT (decide (s95.2.2 < 4)))), (72, (vI s95.2.2))]) ⟨lk rfl f0, lk rfl f1, lk rfl f2, lk rfl f3, lk rfl f4, lk rfl f5, lk rfl f6, lk rfl f7, lk rfl f8, lk rfl f9, lk rfl f10, lk rfl f11, lk rfl f12, lk rfl f13, lk rfl f14, lk rfl f15, lk rfl f16, lk rfl f17, lk rfl f18, lk rfl f19, lk rfl f20, lk rfl f21, lk rfl f23, rfl, rfl, rfl, rfl, rfl, rfl, rfl, rfl, rfl, rfl, rfl, rfl, trivial⟩
          obtain ⟨x127, e128, hs96⟩ := bind_some hs96
          have hi126 := Zi e128
          refine Zm hE Za (dl rfl) rfl rfl Try.underlying98 ty5 hi126.1 ?_; intro a hE
          refine Zs (seg := [(vB r115)]) (cs' := Flat.enc (s95.2.1.setIfInBounds (s13.2.2.1).toNat (x124.setIfInBounds (s95.2.2).toNat r115))) hE hM Za rfl rfl rfl ty5 rfl (W9 (o' := 0 + (s95.2.2).toNat * 1) hi123 (ZT (v := x124) (x := r115) hi126.1) (by first | omega | (simp only [Flat.n] <;> omega))) (Flat.cell (r115 : UInt8)) (Wl (o' := 0 + (s95.2.2).toNat * 1) hi123 (ZT (v := x124) (x := r115) hi126.1) (ZI (v := x124) (x := r115) hi126.1) (by first | omega | (simp only [Flat.n] <;> omega))) ?_; intro w a hM hE
          refine Zj (Yj (Zx (wp_region_lit (Zh hE Za (dl rfl) rfl rfl rfl ?_)))); intro a hE
          refine Zd hE Za (dl rfl) rfl ?_; intro a hE
          refine Zj (Zl ?_)
          exact ⟨_, (Option.some.inj hs96).symm, hE.sub ⟨rfl, rfl, rfl, rfl, rfl, rfl, rfl, rfl, rfl, trivial⟩, hM⟩
        ·intro hb99
         have hs96 := ZA hs96 hb99
         refine wp_exit (Zr (Zr (Yk ?_)))
         have ht129 := hx97 _ (Option.some.inj hs96).symm
         subst ht129
         refine Zl ?_
         exact ⟨hE.sub ⟨rfl, rfl, rfl, rfl, rfl, rfl, rfl, trivial⟩, hM⟩
       ·skip
        rintro a w ⟨hE, hM⟩
        refine Zx (Zc (Zd hE Za (dl rfl) rfl ?_)); intro a hE
        refine Zf ?_
        obtain ⟨j130, hl131, hF132⟩ := bind_some hF94
        refine ZW (fun a w => Env 153 a [(0, (vI p0)), (3, (ptr b1 0)), (5, (ptr b3 0)), (6, (ptr b7 0)), (7, (vB r82)), (16, (vI s13.2.2.1))] ∧ M (Old w0) w0 w [raw b7 (Flat.enc j130.2), raw b3 (Flat.enc (Vector.replicate 4 (Vector.replicate 4 (0 : UInt8)))), raw b1 (Flat.enc j130.1)]) ?_ ?_
        ·skip
         refine wp_block ?_
         refine ZM (fun (s133 : (Vector (Vector UInt8 4) 4) × (Vector (Vector UInt8 4) 4) × Int) a w => Env 153 a [(0, (vI p0)), (3, (ptr b1 0)), (5, (ptr b3 0)), (6, (ptr b7 0)), (7, (vB r82)), (8, (vI s13.2.2.1)), (16, (vI s13.2.2.1)), (98, (vI s133.2.2))] ∧ M (Old w0) w0 w [raw b7 (Flat.enc s133.2.1), raw b3 (Flat.enc (Vector.replicate 4 (Vector.replicate 4 (0 : UInt8)))), raw b1 (Flat.enc s133.1)]) hl131 ⟨hE.sub ⟨rfl, rfl, rfl, rfl, rfl, rfl, rfl, rfl, trivial⟩, hM⟩ ?_
         rintro s133 a w ⟨hE, hM⟩ o136 hs134 hx135
         unfold Xp at hs134
         refine Zc (Zh hE Za (dl rfl) rfl rfl rfl ?_); intro a hE
         refine Zf (wp_seq ?_)
         refine Zt hE rfl ?_ ?_
         ·intro hb137
          have hs134 := Zz hs134 hb137
          refine wp_skip (Zx ?_)
          obtain ⟨j138, hl139, hF140⟩ := bind_some hs134
          refine ZS (fun a w => Env 153 a [(0, (vI p0)), (3, (ptr b1 0)), (5, (ptr b3 0)), (6, (ptr b7 0)), (7, (vB r82)), (8, (vI s13.2.2.1)), (16, (vI s13.2.2.1)), (98, (vI s133.2.2))] ∧ M (Old w0) w0 w [raw b7 (Flat.enc j138.2), raw b3 (Flat.enc (Vector.replicate 4 (Vector.replicate 4 (0 : UInt8)))), raw b1 (Flat.enc j138.1)]) ?_ ?_
          ·skip
           refine wp_block (Zc (Zd hE Za (dl rfl) rfl ?_)); intro a hE
           refine Ze hE Za (dl rfl) rfl ?_; intro a hE
           refine Zf (Zc (Zd hE Za (dl rfl) rfl ?_)); intro a hE
           refine Zd hE Za (dl rfl) rfl ?_; intro a hE
           obtain ⟨x142, e143, hl139⟩ := bind_some hl139
           have hi141 := Zi e143
           refine Zm hE Za (dl rfl) rfl rfl Try.underlying100 Ve hi141.1 ?_; intro a hE
           obtain ⟨x145, e146, hl139⟩ := bind_some hl139
           have hi144 := Zi e146
           refine Zm hE Za (dl rfl) rfl rfl Try.underlying98 ty5 hi144.1 ?_; intro a hE
           refine Zv (v := (vB x145)) hE Za (dl rfl) rfl ty5 rfl (At.vec (At.vec (hM.rawAt (pre := [_, _])) hi141.2) hi144.2) ?_; intro a hE
           refine Ze hE Za (dl rfl) rfl ?_; intro a hE
           refine Zf ?_
           obtain ⟨j147, hl148, hF149⟩ := bind_some hl139
           refine ZS (fun a w => Env 153 a [(0, (vI p0)), (3, (ptr b1 0)), (5, (ptr b3 0)), (6, (ptr b7 0)), (7, (vB r82)), (8, (vI s13.2.2.1)), (12, (vI s133.2.2)), (13, (vB x145)), (16, (vI s13.2.2.1)), (98, (vI s133.2.2)), (112, (vT j147))] ∧ M (Old w0) w0 w [raw b7 (Flat.enc s133.2.1), raw b3 (Flat.enc (Vector.replicate 4 (Vector.replicate 4 (0 : UInt8)))), raw b1 (Flat.enc s133.1)]) ?_ ?_
           ·skip
            refine wp_region_lit (Zd hE Za (dl rfl) rfl ?_); intro a hE
            refine Zd hE Za (dl rfl) rfl ?_; intro a hE
            refine Zh hE Za (dl rfl) rfl rfl rfl ?_; intro a hE
            refine Zd hE Za (dl rfl) rfl ?_; intro a hE
            refine WV (s133.2.2 != s13.2.2.1) (fun hb150 => ?_) (fun hb150 => ?_)
            ·have hl148 := Zz hl148 hb150
             refine Zd hE (Zk hE rfl (lkb rfl hb150)) (by decide) rfl ?_; intro a hE
             refine Zh hE (Zk hE rfl (lkb rfl hb150)) (by decide) rfl rfl (bB_neq x145 0) ?_; intro a hE
             refine Yn hE Za (dl rfl) (lkb rfl hb150) rfl ?_; intro a hE
             refine Zj ?_
             have ht151 := Option.some.inj hl148
             subst ht151
             refine Zl ?_
             exact ⟨hE.sub ⟨rfl, rfl, rfl, rfl, rfl, rfl, rfl, rfl, rfl, rfl, rfl, trivial⟩, hM⟩
            ·have hl148 := ZA hl148 hb150
             refine Zn hE rfl (lkb rfl hb150) rfl (by decide) ?_; intro a hE
             refine Zn hE rfl (lkb rfl hb150) rfl (by decide) ?_; intro a hE
             refine YQ hE Za (dl rfl) (lkb rfl hb150) rfl ?_; intro a hE
             refine Zj ?_
             have ht152 := Option.some.inj hl148
             subst ht152
             refine Zl ?_
             exact ⟨hE.sub ⟨rfl, rfl, rfl, rfl, rfl, rfl, rfl, rfl, rfl, rfl, rfl, trivial⟩, hM⟩
           ·skip
            rintro a w ⟨hE, hM⟩
            obtain ⟨j153, hl154, hF155⟩ := bind_some hF149
            refine ZW (fun a w => Env 153 a [(0, (vI p0)), (3, (ptr b1 0)), (5, (ptr b3 0)), (6, (ptr b7 0)), (7, (vB r82)), (8, (vI s13.2.2.1)), (16, (vI s13.2.2.1)), (98, (vI s133.2.2))] ∧ M (Old w0) w0 w [raw b7 (Flat.enc j153.2), raw b3 (Flat.enc (Vector.replicate 4 (Vector.replicate 4 (0 : UInt8)))), raw b1 (Flat.enc j153.1)]) ?_ ?_
            ·skip
             refine Zt hE rfl ?_ ?_
             ·intro hb156
              have hl154 := Zz hl154 hb156
              refine Zc (Zd hE Za (dl rfl) rfl ?_); intro a hE
              refine Zf ?_
              obtain ⟨j157, hl158, hF159⟩ := bind_some hl154
              refine ZW (fun a w => Env 153 a [(0, (vI p0)), (3, (ptr b1 0)), (5, (ptr b3 0)), (6, (ptr b7 0)), (7, (vB r82)), (8, (vI s13.2.2.1)), (16, (vI s13.2.2.1)), (98, (vI s133.2.2))] ∧ M (Old w0) w0 w [raw b7 (Flat.enc j157.2), raw b3 (Flat.enc (Vector.replicate 4 (Vector.replicate 4 (0 : UInt8)))), raw b1 (Flat.enc j157.1)]) ?_ ?_
              ·skip
               refine wp_block ?_
               refine ZM (fun (s160 : (Vector (Vector UInt8 4) 4) × (Vector (Vector UInt8 4) 4) × Int) a w => Env 153 a [(0, (vI p0)), (3, (ptr b1 0)), (5, (ptr b3 0)), (6, (ptr b7 0)), (7, (vB r82)), (8, (vI s13.2.2.1)), (12, (vI s133.2.2)), (13, (vB x145)), (16, (vI s13.2.2.1)), (98, (vI s133.2.2)), (113, (vI s160.2.2))] ∧ M (Old w0) w0 w [raw b7 (Flat.enc s160.2.1), raw b3 (Flat.enc (Vector.replicate 4 (Vector.replicate 4 (0 : UInt8)))), raw b1 (Flat.enc s160.1)]) hl158 ⟨hE.sub ⟨rfl, rfl, rfl, rfl, rfl, rfl, rfl, rfl, rfl, rfl, rfl, trivial⟩, hM⟩ ?_
               rintro s160 a w ⟨hE, hM⟩ o163 hs161 hx162
               unfold Xn at hs161
               refine Zc (Zh hE Za (dl rfl) rfl rfl rfl ?_); intro a hE
               refine Zf (wp_seq ?_)
               refine Zt hE rfl ?_ ?_
               ·intro hb164
                have hs161 := Zz hs161 hb164
                refine wp_skip (Zx (wp_seq (wp_block (Zc (Zd hE Za (dl rfl) rfl ?_))))); intro a hE
                refine Ze hE Za (dl rfl) rfl ?_; intro a hE
                refine Zf ?_
                obtain ⟨j165, hl166, hF167⟩ := bind_some hs161
                refine ZS (fun a w => Env 153 a [(0, (vI p0)), (3, (ptr b1 0)), (5, (ptr b3 0)), (6, (ptr b7 0)), (7, (vB r82)), (8, (vI s13.2.2.1)), (12, (vI s133.2.2)), (13, (vB x145)), (14, (vI s160.2.2)), (16, (vI s13.2.2.1)), (98, (vI s133.2.2)), (113, (vI s160.2.2))] ∧ M (Old w0) w0 w [raw b7 (Flat.enc s160.2.1), raw b3 (Flat.enc (Vector.replicate 4 (Vector.replicate 4 (0 : UInt8)))), raw b1 (Flat.enc j165)]) ?_ ?_
                ·skip
                 obtain ⟨x170, e171, hl166⟩ := bind_some hl166
                 have hi169 := Zi e171
                 obtain ⟨x173, e174, hl166⟩ := bind_some hl166
                 have hi172 := Zi e174
                 obtain ⟨x176, e177, hl166⟩ := bind_some hl166
                 have hi175 := Zi e177
                 obtain ⟨x179, e180, hl166⟩ := bind_some hl166
                 have hi178 := Zi e180
                 obtain ⟨r181, e182, hl166⟩ := bind_some hl166
                 obtain ⟨x184, e185, hl166⟩ := bind_some hl166
                 have hi183 := Zi e185
                 obtain ⟨x187, e188, hl166⟩ := bind_some hl166
                 have hi186 := Zi e188
                 refine Ye (n := 153) (hd := [_, _, _, _, _, _, _, _, _, _, _, _, _, _, _, _]) (tl := [_]) YB rfl rfl [116, 117, 118, 119, 120, 121, 122, 123, 124, 125, 126, 127, 128, 129, 130, 131] (by decide) (fun w => M (Old w0) w0 w [raw b7 (Flat.enc s160.2.1), raw b3 (Flat.enc (Vector.replicate 4 (Vector.replicate 4 (0 : UInt8)))), raw b1 (Flat.enc s160.1)]) (fun j => ([fun v _ => v = (vI s133.2.2), fun v _ => v = (vI s160.2.2), fun v _ => v = (ptr b1 (0 + (s133.2.2).toNat * 4)), fun v _ => v = (ptr b1 (0 + (s133.2.2).toNat * 4 + (s160.2.2).toNat * 1)), fun v _ => v = (vB x173), fun v _ => v = (vI p0), fun v _ => v = (vB x145), fun v _ => v = (vI s13.2.2.1), fun v _ => v = (vI s160.2.2), fun v _ => v = (ptr b1 (0 + (s13.2.2.1).toNat * 4)), fun v _ => v = (ptr b1 (0 + (s13.2.2.1).toNat * 4 + (s160.2.2).toNat * 1)), fun v _ => v = (vB x179), fun v _ => v = (vB r181), fun v _ => v = (vB (x173 ^^^ r181)), fun v _ => v = (ptr b1 (0 + (s133.2.2).toNat * 4)), fun v _ => v = (ptr b1 (0 + (s133.2.2).toNat * 4 + (s160.2.2).toNat * 1))] : List (Value → World → Prop)).getD j (fun _ _ => True)) (fun _ _ h hk => h.keep hk) (gup (Zg (Zg (Zg (Zg (Zg (Zg (Zg (Zg (Zg (Zg (Zg (Zg (Zg (Zg (Zg (Zg Ww))))))))))))))))) hE hM.drew (ZH (Zb ?_ (Zb ?_ (Zb ?_ (Zb ?_ (Zb ?_ (Zb ?_ (Zb ?_ (Zb ?_ (Zb ?_ (Zb ?_ (Zb ?_ (Zb ?_ (Zb ?_ (Zb ?_ (Zb ?_ (Zb ?_ ZD))))))))))))))))) ?_
                 ·intro a w ux168 hE hM hp
                  refine Zd hE Za (dl rfl) rfl ?_; intro a hE
                  exact ⟨Kept.refl _ _, _, _, rfl, hE, rfl⟩
                 ·intro a w ux168 hE hM hp
                  refine Zd hE Za (dl rfl) rfl ?_; intro a hE
                  exact ⟨Kept.refl _ _, _, _, rfl, hE, rfl⟩
                 ·intro a w ux168 hE hM hp
                  have f0 : ux168 0 = (vI s133.2.2) := hp 0 _ rfl rfl
                  refine Zm hE Za (dl rfl) rfl (lk rfl f0) Try.underlying100 Ve hi169.1 ?_; intro a hE
                  exact ⟨Kept.refl _ _, _, _, rfl, hE, rfl⟩
                 ·intro a w ux168 hE hM hp
                  have f1 : ux168 1 = (vI s160.2.2) := hp 1 _ rfl rfl
                  have f2 : ux168 2 = (ptr b1 (0 + (s133.2.2).toNat * 4)) := hp 0 _ rfl rfl
                  refine Zm hE Za (dl rfl) (lk rfl f2) (lk rfl f1) Try.underlying98 ty5 hi172.1 ?_; intro a hE
                  exact ⟨Kept.refl _ _, _, _, rfl, hE, rfl⟩
                 ·intro a w ux168 hE hM hp
                  have f3 : ux168 3 = (ptr b1 (0 + (s133.2.2).toNat * 4 + (s160.2.2).toNat * 1)) := hp 0 _ rfl rfl
                  refine Zv (v := (vB x173)) hE Za (dl rfl) (lk rfl f3) ty5 rfl (At.vec (At.vec (hM.rawAt (pre := [_, _])) hi169.2) hi172.2) ?_; intro a hE
                  exact ⟨Kept.refl _ _, _, _, rfl, hE, rfl⟩
                 ·intro a w ux168 hE hM hp
                  refine Zd hE Za (dl rfl) rfl ?_; intro a hE
                  exact ⟨Kept.refl _ _, _, _, rfl, hE, rfl⟩
                 ·intro a w ux168 hE hM hp
                  refine Zd hE Za (dl rfl) rfl ?_; intro a hE
                  exact ⟨Kept.refl _ _, _, _, rfl, hE, rfl⟩
                 ·intro a w ux168 hE hM hp
                  refine Zd hE Za (dl rfl) rfl ?_; intro a hE
                  exact ⟨Kept.refl _ _, _, _, rfl, hE, rfl⟩
                 ·intro a w ux168 hE hM hp
                  refine Zd hE Za (dl rfl) rfl ?_; intro a hE
                  exact ⟨Kept.refl _ _, _, _, rfl, hE, rfl⟩
                 ·intro a w ux168 hE hM hp
                  have f7 : ux168 7 = (vI s13.2.2.1) := hp 0 _ rfl rfl
                  refine Zm hE Za (dl rfl) rfl (lk rfl f7) Try.underlying100 Ve hi175.1 ?_; intro a hE
                  exact ⟨Kept.refl _ _, _, _, rfl, hE, rfl⟩
                 ·intro a w ux168 hE hM hp
                  have f8 : ux168 8 = (vI s160.2.2) := hp 1 _ rfl rfl
                  have f9 : ux168 9 = (ptr b1 (0 + (s13.2.2.1).toNat * 4)) := hp 0 _ rfl rfl
                  refine Zm hE Za (dl rfl) (lk rfl f9) (lk rfl f8) Try.underlying98 ty5 hi178.1 ?_; intro a hE
                  exact ⟨Kept.refl _ _, _, _, rfl, hE, rfl⟩
                 ·intro a w ux168 hE hM hp
                  have f10 : ux168 10 = (ptr b1 (0 + (s13.2.2.1).toNat * 4 + (s160.2.2).toNat * 1)) := hp 0 _ rfl rfl
                  refine Zv (v := (vB x179)) hE Za (dl rfl) (lk rfl f10) ty5 rfl (At.vec (At.vec (hM.rawAt (pre := [_, _])) hi175.2) hi178.2) ?_; intro a hE
                  exact ⟨Kept.refl _ _, _, _, rfl, hE, rfl⟩
                 ·intro a w ux168 hE hM hp
                  have f5 : ux168 5 = (vI p0) := hp 0 _ rfl rfl
                  have f6 : ux168 6 = (vB x145) := hp 1 _ rfl rfl
                  have f11 : ux168 11 = (vB x179) := hp 2 _ rfl rfl
                  refine Zw (vs := [(vI p0), (vB x145), (vB x179)]) hE Za (dl rfl) (Z0 (ZZ (lk rfl f5) (ZZ (lk rfl f6) (ZZ (lk rfl f11) Xh)))) cb127 (Yq _ p0 x145 x179 r181 e182) ?_
                  rintro v w a ⟨rfl, hK⟩ hE
                  exact ⟨hK, _, _, rfl, hE, rfl⟩
                 ·intro a w ux168 hE hM hp
                  have f4 : ux168 4 = (vB x173) := hp 0 _ rfl rfl
                  have f12 : ux168 12 = (vB r181) := hp 1 _ rfl rfl
                  refine Zh hE Za (dl rfl) (lk rfl f4) (lk rfl f12) (Vn x173 r181) ?_; intro a hE
                  exact ⟨Kept.refl _ _, _, _, rfl, hE, rfl⟩
                 ·intro a w ux168 hE hM hp
                  have f0 : ux168 0 = (vI s133.2.2) := hp 0 _ rfl rfl
                  refine Zm hE Za (dl rfl) rfl (lk rfl f0) Try.underlying100 Ve hi183.1 ?_; intro a hE
                  exact ⟨Kept.refl _ _, _, _, rfl, hE, rfl⟩
                 ·intro a w ux168 hE hM hp
                  have f1 : ux168 1 = (vI s160.2.2) := hp 1 _ rfl rfl
                  have f14 : ux168 14 = (ptr b1 (0 + (s133.2.2).toNat * 4)) := hp 0 _ rfl rfl
                  refine Zm hE Za (dl rfl) (lk rfl f14) (lk rfl f1) Try.underlying98 ty5 hi186.1 ?_; intro a hE
                  exact ⟨Kept.refl _ _, _, _, rfl, hE, rfl⟩
                 ·intro a w ux168 hE hM hg
                  have f0 : ux168 0 = (vI s133.2.2) := hg 0 (by decide)
                  have f1 : ux168 1 = (vI s160.2.2) := hg 1 (by decide)
                  have f2 : ux168 2 = (ptr b1 (0 + (s133.2.2).toNat * 4)) := hg 2 (by decide)
                  have f3 : ux168 3 = (ptr b1 (0 + (s133.2.2).toNat * 4 + (s160.2.2).toNat * 1)) := hg 3 (by decide)
                  have f4 : ux168 4 = (vB x173) := hg 4 (by decide)
                  have f5 : ux168 5 = (vI p0) := hg 5 (by decide)
                  have f6 : ux168 6 = (vB x145) := hg 6 (by decide)
                  have f7 : ux168 7 = (vI s13.2.2.1) := hg 7 (by decide)
                  have f8 : ux168 8 = (vI s160.2.2) := hg 8 (by decide)
                  have f9 : ux168 9 = (ptr b1 (0 + (s13.2.2.1).toNat * 4)) := hg 9 (by decide)
                  have f10 : ux168 10 = (ptr b1 (0 + (s13.2.2.1).toNat * 4 + (s160.2.2).toNat * 1)) := hg 10 (by decide)
                  have f11 : ux168 11 = (vB x179) := hg 11 (by decide)
                  have f12 : ux168 12 = (vB r181) := hg 12 (by decide)
                  have f13 : ux168 13 = (vB (x173 ^^^ r181)) := hg 13 (by decide)
                  have f14 : ux168 14 = (ptr b1 (0 + (s133.2.2).toNat * 4)) := hg 14 (by decide)
                  have f15 : ux168 15 = (ptr b1 (0 + (s133.2.2).toNat * 4 + (s160.2.2).toNat * 1)) := hg 15 (by decide)
                  have hE := hE.sub (e' := [(116, (vI s133.2.2)), (117, (vI s160.2.2)), (118, (ptr b1 (0 + (s133.2.2).toNat * 4))), (119, (ptr b1 (0 + (s133.2.2).toNat * 4 + (s160.2.2).toNat * 1))), (120, (vB x173)), (121, (vI p0)), (122, (vB x145)), (123, (vI s13.2.2.1)), (124, (vI s160.2.2)), (125, (ptr b1 (0 + (s13.2.2.1).toNat * 4))), (126, (ptr b1 (0 + (s13.2.2.1).toNat * 4 + (s160.2.2).toNat * 1))), (127, (vB x179)), (128, (vB r181)), (129, (vB (x173 ^^^ r181))), (130, (ptr b1 (0 + (s133.2.2).toNat * 4))), (131, (ptr b1 (0 + (s133.2.2).toNat * 4 + (s160.2.2).toNat * 1))), (0, (vI p0)), (3, (ptr b1 0)), (5, (ptr b3 0)), (6, (ptr b7 0)), (7, (vB r82)), (8, (vI s13.2.2.1)), (12, (vI s133.2.2)), (13, (vB x145)), (14, (vI s160.2.2)), (16, (vI s13.2.2.1)), (98, (vI s133.2.2)), (113, (vI s160.2.2)), (114, (vT (decide (s160.2.2 < 4)))), (115, (vI s160.2.2))]) ⟨lk rfl f0, lk rfl f1, lk rfl f2, lk rfl f3, lk rfl f4, lk rfl f5, lk rfl f6, lk rfl f7, lk rfl f8, lk rfl f9, lk rfl f10, lk rfl f11, lk rfl f12, lk rfl f13, lk rfl f14, lk rfl f15, rfl, rfl, rfl, rfl, rfl, rfl, rfl, rfl, rfl, rfl, rfl, rfl, rfl, rfl, trivial⟩
                  have hM := hM.pull (pre := [_, _])
                  refine Zs (seg := [(vB (x173 ^^^ r181))]) (cs' := Flat.enc (s160.1.setIfInBounds (s133.2.2).toNat (x184.setIfInBounds (s160.2.2).toNat (x173 ^^^ r181)))) hE hM Za rfl rfl rfl ty5 rfl (W9 (o' := 0 + (s160.2.2).toNat * 1) hi183 (ZT (v := x184) (x := x173 ^^^ r181) hi186.1) (by first | omega | (simp only [Flat.n] <;> omega))) (Flat.cell (x173 ^^^ r181 : UInt8)) (Wl (o' := 0 + (s160.2.2).toNat * 1) hi183 (ZT (v := x184) (x := x173 ^^^ r181) hi186.1) (ZI (v := x184) (x := x173 ^^^ r181) hi186.1) (by first | omega | (simp only [Flat.n] <;> omega))) ?_; intro w a hM hE
                  refine Zj ?_
                  have ht189 := Option.some.inj hl166
                  subst ht189
                  refine Zl ?_
                  have hM := hM.pull (pre := [_, _])
                  have hM := hM.pull (pre := [_, _])
                  exact ⟨hE.sub ⟨rfl, rfl, rfl, rfl, rfl, rfl, rfl, rfl, rfl, rfl, rfl, rfl, trivial⟩, hM⟩
                ·skip
                 rintro a w ⟨hE, hM⟩
                 obtain ⟨x192, e193, hF167⟩ := bind_some hF167
                 have hi191 := Zi e193
                 obtain ⟨x195, e196, hF167⟩ := bind_some hF167
                 have hi194 := Zi e196
                 obtain ⟨x198, e199, hF167⟩ := bind_some hF167
                 have hi197 := Zi e199
                 obtain ⟨x201, e202, hF167⟩ := bind_some hF167
                 have hi200 := Zi e202
                 obtain ⟨r203, e204, hF167⟩ := bind_some hF167
                 obtain ⟨x206, e207, hF167⟩ := bind_some hF167
                 have hi205 := Zi e207
                 obtain ⟨x209, e210, hF167⟩ := bind_some hF167
                 have hi208 := Zi e210
                 refine Ye (n := 153) (hd := [_, _, _, _, _, _, _, _, _, _, _, _, _, _, _, _]) (tl := [_]) YB rfl rfl [132, 133, 134, 135, 136, 137, 138, 139, 140, 141, 142, 143, 144, 145, 146, 147] (by decide) (fun w => M (Old w0) w0 w [raw b7 (Flat.enc s160.2.1), raw b3 (Flat.enc (Vector.replicate 4 (Vector.replicate 4 (0 : UInt8)))), raw b1 (Flat.enc j165)]) (fun j => ([fun v _ => v = (vI s133.2.2), fun v _ => v = (vI s160.2.2), fun v _ => v = (ptr b7 (0 + (s133.2.2).toNat * 4)), fun v _ => v = (ptr b7 (0 + (s133.2.2).toNat * 4 + (s160.2.2).toNat * 1)), fun v _ => v = (vB x195), fun v _ => v = (vI p0), fun v _ => v = (vB x145), fun v _ => v = (vI s13.2.2.1), fun v _ => v = (vI s160.2.2), fun v _ => v = (ptr b7 (0 + (s13.2.2.1).toNat * 4)), fun v _ => v = (ptr b7 (0 + (s13.2.2.1).toNat * 4 + (s160.2.2).toNat * 1)), fun v _ => v = (vB x201), fun v _ => v = (vB r203), fun v _ => v = (vB (x195 ^^^ r203)), fun v _ => v = (ptr b7 (0 + (s133.2.2).toNat * 4)), fun v _ => v = (ptr b7 (0 + (s133.2.2).toNat * 4 + (s160.2.2).toNat * 1))] : List (Value → World → Prop)).getD j (fun _ _ => True)) (fun _ _ h hk => h.keep hk) (gup (Zg (Zg (Zg (Zg (Zg (Zg (Zg (Zg (Zg (Zg (Zg (Zg (Zg (Zg (Zg (Zg Ww))))))))))))))))) hE hM.drew (ZH (Zb ?_ (Zb ?_ (Zb ?_ (Zb ?_ (Zb ?_ (Zb ?_ (Zb ?_ (Zb ?_ (Zb ?_ (Zb ?_ (Zb ?_ (Zb ?_ (Zb ?_ (Zb ?_ (Zb ?_ (Zb ?_ ZD))))))))))))))))) ?_
                 ·intro a w ux190 hE hM hp
                  refine Zd hE Za (dl rfl) rfl ?_; intro a hE
                  exact ⟨Kept.refl _ _, _, _, rfl, hE, rfl⟩
                 ·intro a w ux190 hE hM hp
                  refine Zd hE Za (dl rfl) rfl ?_; intro a hE
                  exact ⟨Kept.refl _ _, _, _, rfl, hE, rfl⟩
                 ·intro a w ux190 hE hM hp
                  have f0 : ux190 0 = (vI s133.2.2) := hp 0 _ rfl rfl
                  refine Zm hE Za (dl rfl) rfl (lk rfl f0) Try.underlying100 Ve hi191.1 ?_; intro a hE
                  exact ⟨Kept.refl _ _, _, _, rfl, hE, rfl⟩
                 ·intro a w ux190 hE hM hp
                  have f1 : ux190 1 = (vI s160.2.2) := hp 1 _ rfl rfl
                  have f2 : ux190 2 = (ptr b7 (0 + (s133.2.2).toNat * 4)) := hp 0 _ rfl rfl
                  refine Zm hE Za (dl rfl) (lk rfl f2) (lk rfl f1) Try.underlying98 ty5 hi194.1 ?_; intro a hE
                  exact ⟨Kept.refl _ _, _, _, rfl, hE, rfl⟩
                 ·intro a w ux190 hE hM hp
                  have f3 : ux190 3 = (ptr b7 (0 + (s133.2.2).toNat * 4 + (s160.2.2).toNat * 1)) := hp 0 _ rfl rfl
                  refine Zv (v := (vB x195)) hE Za (dl rfl) (lk rfl f3) ty5 rfl (At.vec (At.vec (hM.rawAt (pre := [])) hi191.2) hi194.2) ?_; intro a hE
                  exact ⟨Kept.refl _ _, _, _, rfl, hE, rfl⟩
                 ·intro a w ux190 hE hM hp
                  refine Zd hE Za (dl rfl) rfl ?_; intro a hE
                  exact ⟨Kept.refl _ _, _, _, rfl, hE, rfl⟩
                 ·intro a w ux190 hE hM hp
                  refine Zd hE Za (dl rfl) rfl ?_; intro a hE
                  exact ⟨Kept.refl _ _, _, _, rfl, hE, rfl⟩
                 ·intro a w ux190 hE hM hp
                  refine Zd hE Za (dl rfl) rfl ?_; intro a hE
                  exact ⟨Kept.refl _ _, _, _, rfl, hE, rfl⟩
                 ·intro a w ux190 hE hM hp
                  refine Zd hE Za (dl rfl) rfl ?_; intro a hE
                  exact ⟨Kept.refl _ _, _, _, rfl, hE, rfl⟩
                 ·intro a w ux190 hE hM hp
                  have f7 : ux190 7 = (vI s13.2.2.1) := hp 0 _ rfl rfl
                  refine Zm hE Za (dl rfl) rfl (lk rfl f7) Try.underlying100 Ve hi197.1 ?_; intro a hE
                  exact ⟨Kept.refl _ _, _, _, rfl, hE, rfl⟩
                 ·intro a w ux190 hE hM hp
                  have f8 : ux190 8 = (vI s160.2.2) := hp 1 _ rfl rfl
                  have f9 : ux190 9 = (ptr b7 (0 + (s13.2.2.1).toNat * 4)) := hp 0 _ rfl rfl
                  refine Zm hE Za (dl rfl) (lk rfl f9) (lk rfl f8) Try.underlying98 ty5 hi200.1 ?_; intro a hE
                  exact ⟨Kept.refl _ _, _, _, rfl, hE, rfl⟩
                 ·intro a w ux190 hE hM hp
                  have f10 : ux190 10 = (ptr b7 (0 + (s13.2.2.1).toNat * 4 + (s160.2.2).toNat * 1)) := hp 0 _ rfl rfl
                  refine Zv (v := (vB x201)) hE Za (dl rfl) (lk rfl f10) ty5 rfl (At.vec (At.vec (hM.rawAt (pre := [])) hi197.2) hi200.2) ?_; intro a hE
                  exact ⟨Kept.refl _ _, _, _, rfl, hE, rfl⟩
                 ·intro a w ux190 hE hM hp
                  have f5 : ux190 5 = (vI p0) := hp 0 _ rfl rfl
                  have f6 : ux190 6 = (vB x145) := hp 1 _ rfl rfl
                  have f11 : ux190 11 = (vB x201) := hp 2 _ rfl rfl
                  refine Zw (vs := [(vI p0), (vB x145), (vB x201)]) hE Za (dl rfl) (Z0 (ZZ (lk rfl f5) (ZZ (lk rfl f6) (ZZ (lk rfl f11) Xh)))) cb127 (Yq _ p0 x145 x201 r203 e204) ?_
                  rintro v w a ⟨rfl, hK⟩ hE
                  exact ⟨hK, _, _, rfl, hE, rfl⟩
                 ·intro a w ux190 hE hM hp
                  have f4 : ux190 4 = (vB x195) := hp 0 _ rfl rfl
                  have f12 : ux190 12 = (vB r203) := hp 1 _ rfl rfl
                  refine Zh hE Za (dl rfl) (lk rfl f4) (lk rfl f12) (Vn x195 r203) ?_; intro a hE
                  exact ⟨Kept.refl _ _, _, _, rfl, hE, rfl⟩
                 ·intro a w ux190 hE hM hp
                  have f0 : ux190 0 = (vI s133.2.2) := hp 0 _ rfl rfl
                  refine Zm hE Za (dl rfl) rfl (lk rfl f0) Try.underlying100 Ve hi205.1 ?_; intro a hE
                  exact ⟨Kept.refl _ _, _, _, rfl, hE, rfl⟩
                 ·intro a w ux190 hE hM hp
                  have f1 : ux190 1 = (vI s160.2.2) := hp 1 _ rfl rfl
                  have f14 : ux190 14 = (ptr b7 (0 + (s133.2.2).toNat * 4)) := hp 0 _ rfl rfl
                  refine Zm hE Za (dl rfl) (lk rfl f14) (lk rfl f1) Try.underlying98 ty5 hi208.1 ?_; intro a hE
                  exact ⟨Kept.refl _ _, _, _, rfl, hE, rfl⟩
                 ·intro a w ux190 hE hM hg
                  have f0 : ux190 0 = (vI s133.2.2) := hg 0 (by decide)
                  have f1 : ux190 1 = (vI s160.2.2) := hg 1 (by decide)
                  have f2 : ux190 2 = (ptr b7 (0 + (s133.2.2).toNat * 4)) := hg 2 (by decide)
                  have f3 : ux190 3 = (ptr b7 (0 + (s133.2.2).toNat * 4 + (s160.2.2).toNat * 1)) := hg 3 (by decide)
                  have f4 : ux190 4 = (vB x195) := hg 4 (by decide)
                  have f5 : ux190 5 = (vI p0) := hg 5 (by decide)
                  have f6 : ux190 6 = (vB x145) := hg 6 (by decide)
                  have f7 : ux190 7 = (vI s13.2.2.1) := hg 7 (by decide)
                  have f8 : ux190 8 = (vI s160.2.2) := hg 8 (by decide)
                  have f9 : ux190 9 = (ptr b7 (0 + (s13.2.2.1).toNat * 4)) := hg 9 (by decide)
                  have f10 : ux190 10 = (ptr b7 (0 + (s13.2.2.1).toNat * 4 + (s160.2.2).toNat * 1)) := hg 10 (by decide)
                  have f11 : ux190 11 = (vB x201) := hg 11 (by decide)
                  have f12 : ux190 12 = (vB r203) := hg 12 (by decide)
                  have f13 : ux190 13 = (vB (x195 ^^^ r203)) := hg 13 (by decide)
                  have f14 : ux190 14 = (ptr b7 (0 + (s133.2.2).toNat * 4)) := hg 14 (by decide)
                  have f15 : ux190 15 = (ptr b7 (0 + (s133.2.2).toNat * 4 + (s160.2.2).toNat * 1)) := hg 15 (by decide)
                  have hE := hE.sub (e' := [(132, (vI s133.2.2)), (133, (vI s160.2.2)), (134, (ptr b7 (0 + (s133.2.2).toNat * 4))), (135, (ptr b7 (0 + (s133.2.2).toNat * 4 + (s160.2.2).toNat * 1))), (136, (vB x195)), (137, (vI p0)), (138, (vB x145)), (139, (vI s13.2.2.1)), (140, (vI s160.2.2)), (141, (ptr b7 (0 + (s13.2.2.1).toNat * 4))), (142, (ptr b7 (0 + (s13.2.2.1).toNat * 4 + (s160.2.2).toNat * 1))), (143, (vB x201)), (144, (vB r203)), (145, (vB (x195 ^^^ r203))), (146, (ptr b7 (0 + (s133.2.2).toNat * 4))), (147, (ptr b7 (0 + (s133.2.2).toNat * 4 + (s160.2.2).toNat * 1))), (0, (vI p0)), (3, (ptr b1 0)), (5, (ptr b3 0)), (6, (ptr b7 0)), (7, (vB r82)), (8, (vI s13.2.2.1)), (12, (vI s133.2.2)), (13, (vB x145)), (14, (vI s160.2.2)), (16, (vI s13.2.2.1)), (98, (vI s133.2.2)), (113, (vI s160.2.2))]) ⟨lk rfl f0, lk rfl f1, lk rfl f2, lk rfl f3, lk rfl f4, lk rfl f5, lk rfl f6, lk rfl f7, lk rfl f8, lk rfl f9, lk rfl f10, lk rfl f11, lk rfl f12, lk rfl f13, lk rfl f14, lk rfl f15, rfl, rfl, rfl, rfl, rfl, rfl, rfl, rfl, rfl, rfl, rfl, rfl, trivial⟩
                  refine Zs (seg := [(vB (x195 ^^^ r203))]) (cs' := Flat.enc (s160.2.1.setIfInBounds (s133.2.2).toNat (x206.setIfInBounds (s160.2.2).toNat (x195 ^^^ r203)))) hE hM Za rfl rfl rfl ty5 rfl (W9 (o' := 0 + (s160.2.2).toNat * 1) hi205 (ZT (v := x206) (x := x195 ^^^ r203) hi208.1) (by first | omega | (simp only [Flat.n] <;> omega))) (Flat.cell (x195 ^^^ r203 : UInt8)) (Wl (o' := 0 + (s160.2.2).toNat * 1) hi205 (ZT (v := x206) (x := x195 ^^^ r203) hi208.1) (ZI (v := x206) (x := x195 ^^^ r203) hi208.1) (by first | omega | (simp only [Flat.n] <;> omega))) ?_; intro w a hM hE
                  refine Zj (Yj (Zx (wp_region_lit (Zh hE Za (dl rfl) rfl rfl rfl ?_)))); intro a hE
                  refine Zd hE Za (dl rfl) rfl ?_; intro a hE
                  refine Zj (Zl ?_)
                  exact ⟨_, (Option.some.inj hF167).symm, hE.sub ⟨rfl, rfl, rfl, rfl, rfl, rfl, rfl, rfl, rfl, rfl, rfl, trivial⟩, hM⟩
               ·intro hb164
                have hs161 := ZA hs161 hb164
                refine wp_exit (Zr (Zr (Yk ?_)))
                have ht211 := hx162 _ (Option.some.inj hs161).symm
                subst ht211
                refine Zl ?_
                exact ⟨hE.sub ⟨rfl, rfl, rfl, rfl, rfl, rfl, rfl, rfl, trivial⟩, hM⟩
              ·skip
               rintro a w ⟨hE, hM⟩
               have ht212 := Option.some.inj hF159
               subst ht212
               refine Zl ?_
               exact ⟨hE.sub ⟨rfl, rfl, rfl, rfl, rfl, rfl, rfl, rfl, trivial⟩, hM⟩
             ·intro hb156
              have hl154 := ZA hl154 hb156
              refine wp_skip ?_
              have ht213 := Option.some.inj hl154
              subst ht213
              refine Zl ?_
              exact ⟨hE.sub ⟨rfl, rfl, rfl, rfl, rfl, rfl, rfl, rfl, trivial⟩, hM⟩
            ·skip
             rintro a w ⟨hE, hM⟩
             refine Yj ?_
             have ht214 := Option.some.inj hF155
             subst ht214
             refine Zl ?_
             exact ⟨hE.sub ⟨rfl, rfl, rfl, rfl, rfl, rfl, rfl, rfl, trivial⟩, hM⟩
          ·skip
           rintro a w ⟨hE, hM⟩
           refine wp_region_lit (Zh hE Za (dl rfl) rfl rfl rfl ?_); intro a hE
           refine Zd hE Za (dl rfl) rfl ?_; intro a hE
           refine Zj (Zl ?_)
           exact ⟨_, (Option.some.inj hF140).symm, hE.sub ⟨rfl, rfl, rfl, rfl, rfl, rfl, rfl, rfl, trivial⟩, hM⟩
         ·intro hb137
          have hs134 := ZA hs134 hb137
          refine wp_exit (Zr (Zr (Yk ?_)))
          have ht215 := hx135 _ (Option.some.inj hs134).symm
          subst ht215
          refine Zl ?_
          exact ⟨hE.sub ⟨rfl, rfl, rfl, rfl, rfl, rfl, trivial⟩, hM⟩
        ·skip
         rintro a w ⟨hE, hM⟩
         refine Yj (Zx (wp_region_lit (Zh hE Za (dl rfl) rfl rfl rfl ?_))); intro a hE
         refine Zd hE Za (dl rfl) rfl ?_; intro a hE
         refine Zj (Zl ?_)
         exact ⟨_, (Option.some.inj hF132).symm, hE.sub ⟨rfl, rfl, rfl, rfl, rfl, rfl, trivial⟩, hM⟩
  ·intro hb17
   have hs14 := ZA hs14 hb17
   refine wp_exit (Zr (Zr (Yk ?_)))
   have ht216 := hx15 _ (Option.some.inj hs14).symm
   subst ht216
   refine Zl ?_
   have hM := hM.pull (pre := [_])
   have hM := hM.pull (pre := [_])
   have hM := M.fst (l := [_, _]) hM
   exact ⟨(s13.2.1, s13.2.2.2), rfl, hE.sub ⟨rfl, rfl, rfl, trivial⟩, hM⟩
 ·skip
  rintro a w ⟨s12, ht, hE, hM⟩
  subst ht
  have hF11 := el_nx hF11
  refine Zx ?_
  obtain ⟨j217, hl218, hF219⟩ := bind_some hF11
  refine ZS (fun a w => Env 153 a [(4, (vB j217.2)), (5, (ptr b3 0))] ∧ M (Old w0) w0 w [raw b3 (Flat.enc j217.1)]) ?_ ?_
  ·skip
   refine Ye (n := 153) (hd := [_, _, _]) (tl := [_]) YB rfl rfl [151, 152, 4] (by decide) (fun w => M (Old w0) w0 w [raw b7 (Flat.enc s12.1), raw b3 (Flat.enc (Vector.replicate 4 (Vector.replicate 4 (0 : UInt8))))]) (fun j => ([fun v _ => v = (vB s12.2), fun v _ => v = (Value.agg (Flat.enc s12.1).toArray), fun v _ => v = (vB s12.2)] : List (Value → World → Prop)).getD j (fun _ _ => True)) (fun _ _ h hk => h.keep hk) (gup (Zg (Zg (Zg Ww)))) hE hM.drew (ZH (Zb ?_ (Zb ?_ (Zb ?_ ZD)))) ?_
   ·intro a w ux220 hE hM hp
    refine Zd hE Za (dl rfl) rfl ?_; intro a hE
    exact ⟨Kept.refl _ _, _, _, rfl, hE, rfl⟩
   ·intro a w ux220 hE hM hp
    refine Zp (cs := Flat.enc s12.1) hE Za (dl rfl) rfl Vx rfl (hM.rawAt (pre := [])) (Flat.len _) ?_; intro a hE
    exact ⟨Kept.refl _ _, _, _, rfl, hE, rfl⟩
   ·intro a w ux220 hE hM hp
    have f0 : ux220 0 = (vB s12.2) := hp 0 _ rfl rfl
    refine Ze hE Za (dl rfl) (lk rfl f0) ?_; intro a hE
    exact ⟨Kept.refl _ _, _, _, rfl, hE, rfl⟩
   ·intro a w ux220 hE hM hg
    have f0 : ux220 0 = (vB s12.2) := hg 0 (by decide)
    have f1 : ux220 1 = (Value.agg (Flat.enc s12.1).toArray) := hg 1 (by decide)
    have f2 : ux220 2 = (vB s12.2) := hg 2 (by decide)
    have hE := hE.sub (e' := [(151, (vB s12.2)), (152, (Value.agg (Flat.enc s12.1).toArray)), (4, (vB s12.2)), (5, (ptr b3 0)), (6, (ptr b7 0)), (7, (vB s12.2))]) ⟨lk rfl f0, lk rfl f1, lk rfl f2, rfl, rfl, rfl, trivial⟩
    have hM := hM.pull (pre := [_])
    refine Zs (seg := Flat.enc s12.1) (cs' := Flat.enc s12.1) hE hM Za rfl rfl rfl Vx (Flat.len _) (zle flq) (Flat.cell _) (Zq flq) ?_; intro w a hM hE
    refine Zj ?_
    have ht221 := Option.some.inj hl218
    subst ht221
    refine Zl ?_
    have hM := M.fst (l := [_]) hM
    exact ⟨hE.sub ⟨rfl, rfl, trivial⟩, hM⟩
  ·skip
   rintro a w ⟨hE, hM⟩
   have hr := Option.some.inj hF219
   subst hr
   have hq222 : YR Try.prog _ _ (.cell 5 100) _ := Z7 hE rfl Vx rfl (hM.rawAt (pre := [])) (Flat.len _) rfl
   have hM := M.fst (l := []) hM
   exact wp_ret (k_ret2 hE rfl (Zu hE rfl) hq222 ⟨_, rfl, rfl, hM.kept⟩)
noncomputable def YZ (p0 : (Vector UInt8 256)) (s10 : (Vector UInt8 256) × Int) : Option (Fl ((Vector UInt8 256) × Int) (Vector UInt8 256)) :=
 if (decide (s10.2 < 256)) = true then ((ZN p0 s10.2).bind fun x15 => (ZN s10.1 (bI x15)).bind fun x19 => some (Fl.nx ((s10.1.setIfInBounds ((bI x15)).toNat (ZE s10.2)), wr (s10.2 + 1)))) else (some (Fl.ex s10.1))
noncomputable def X8 (p0 : (Vector UInt8 256)) : Option ((Vector UInt8 256)) :=
 (ZG (YZ p0) ((Vector.replicate 256 (0 : UInt8)), 0) : Option ((Vector UInt8 256))).bind fun j7 => some j7
theorem c_impl_Box_inverse (w0 : World) (p0 : (Vector UInt8 256)) (r : (Vector UInt8 256)) (hF : X8 p0 = some r) :
  Calls Try.prog 108 [(Value.agg (Flat.enc p0).toArray)].toArray w0 (fun en w' => ∃ v, en = .returned v ∧ (v = (Value.agg (Flat.enc r).toArray) ∧ Kept (Old w0) w0 w')) := by
 refine ZC (n := 18) Try.func108 rfl rfl (Nat.le_of_ble_eq_true rfl) rfl ?_
 intro a hE
 have hM := M.start w0
 unfold X8 at hF
 refine Zc (Z5 (cs := Flat.enc p0) hE hM Za (dl rfl) rfl rfl ?_); intro b1 w a hM hE
 refine ZO hE hM Za (dl rfl) Vp ?_; intro b3 w a hM hE
 refine Zf (Zc (Xm (parts := []) (vs := []) (cs := Flat.enc (Vector.replicate 256 (0 : UInt8))) hE Za (dl rfl) rfl rfl Vp rfl ty5 YO ?_)); intro a hE
 refine ZO hE hM Za (dl rfl) Vp ?_; intro b5 w a hM hE
 refine Zs (seg := Flat.enc (Vector.replicate 256 (0 : UInt8))) (cs' := Flat.enc (Vector.replicate 256 (0 : UInt8))) hE hM Za rfl rfl rfl Vp (Flat.len _) (zle flq) (Flat.cell _) (Zq flq) ?_; intro w a hM hE
 refine Zf (wp_seq (Zc (Zp (cs := Flat.enc p0) hE Za (dl rfl) rfl Vp rfl (hM.rawAt (pre := [_, _])) (Flat.len _) ?_))); intro a hE
 refine Zd hE Za (dl rfl) rfl ?_; intro a hE
 refine Zf ?_
 obtain ⟨j7, hl8, hF9⟩ := bind_some hF
 refine ZW (fun a w => Env 18 a [(2, (ptr b3 0)), (3, (ptr b5 0))] ∧ M (Old w0) w0 w [raw b5 (Flat.enc j7), raw b3 (Flat.enc (Vector.replicate 256 (0 : UInt8)))]) ?_ ?_
 ·skip
  refine wp_block ?_
  have hM := hM.pull (pre := [_])
  have hM := hM.pull (pre := [_])
  have hM := M.fst (l := [_, _]) hM
  refine ZM (fun (s10 : (Vector UInt8 256) × Int) a w => Env 18 a [(2, (ptr b3 0)), (3, (ptr b5 0)), (7, (Value.agg (Flat.enc p0).toArray)), (8, (vI s10.2))] ∧ M (Old w0) w0 w [raw b5 (Flat.enc s10.1), raw b3 (Flat.enc (Vector.replicate 256 (0 : UInt8)))]) hl8 ⟨hE.sub ⟨rfl, rfl, rfl, rfl, trivial⟩, hM⟩ ?_
  rintro s10 a w ⟨hE, hM⟩ o13 hs11 hx12
  unfold YZ at hs11
  refine Zc (Zh hE Za (dl rfl) rfl rfl rfl ?_); intro a hE
  refine Zf (wp_seq ?_)
  refine Zt hE rfl ?_ ?_
  ·intro hb14
   have hs11 := Zz hs11 hb14
   refine wp_skip (Zx (wp_seq (wp_block (Zc (Zd hE Za (dl rfl) rfl ?_))))); intro a hE
   obtain ⟨x15, e16, hs11⟩ := bind_some hs11
   have hi17 := Zi e16
   refine s_indexV hE Za (dl rfl) rfl rfl Try.underlying97 ty5 rfl rfl hi17 rfl ?_; intro a hE
   refine Ze hE Za (dl rfl) rfl ?_; intro a hE
   refine Ze hE Za (dl rfl) rfl ?_; intro a hE
   refine Zf (wp_region_lit (Zd hE Za (dl rfl) rfl ?_)); intro a hE
   refine Zd hE Za (dl rfl) rfl ?_; intro a hE
   refine YI hE Za (dl rfl) rfl Try.underlying3 Try.underlying5 ?_; intro a hE
   rw [Yh] at hE
   obtain ⟨x19, e20, hs11⟩ := bind_some hs11
   have hi18 := Zi e20
   refine Zm hE Za (dl rfl) rfl rfl Try.underlying97 ty5 hi18.1 ?_; intro a hE
   refine Zs (seg := [(vB (ZE s10.2))]) (cs' := Flat.enc (s10.1.setIfInBounds ((bI x15)).toNat (ZE s10.2))) hE hM Za rfl rfl rfl ty5 rfl (ZT (v := s10.1) (x := ZE s10.2) hi18.1) (Flat.cell (ZE s10.2 : UInt8)) (ZI (v := s10.1) (x := ZE s10.2) hi18.1) ?_; intro w a hM hE
   refine Zj (Yj (Zx (wp_region_lit (Zh hE Za (dl rfl) rfl rfl rfl ?_)))); intro a hE
   refine Zd hE Za (dl rfl) rfl ?_; intro a hE
   refine Zj (Zl ?_)
   exact ⟨_, (Option.some.inj hs11).symm, hE.sub ⟨rfl, rfl, rfl, rfl, trivial⟩, hM⟩
  ·intro hb14
   have hs11 := ZA hs11 hb14
   refine wp_exit (Zr (Zr (Yk ?_)))
   have ht21 := hx12 _ (Option.some.inj hs11).symm
   subst ht21
   refine Zl ?_
   exact ⟨hE.sub ⟨rfl, rfl, trivial⟩, hM⟩
 ·skip
  rintro a w ⟨hE, hM⟩
  refine Zx (Zc (Zp (cs := Flat.enc j7) hE Za (dl rfl) rfl Vp rfl (hM.rawAt (pre := [])) (Flat.len _) ?_)); intro a hE
  have hM := hM.pull (pre := [_])
  refine Zs (seg := Flat.enc j7) (cs' := Flat.enc j7) hE hM Za rfl rfl rfl Vp (Flat.len _) (zle flq) (Flat.cell _) (Zq flq) ?_; intro w a hM hE
  refine Zf ?_
  have hr := Option.some.inj hF9
  subst hr
  have hq22 : YR Try.prog _ _ (.cell 2 97) _ := Z7 hE rfl Vp rfl (hM.rawAt (pre := [])) (Flat.len _) rfl
  have hM := M.fst (l := []) hM
  exact wp_ret (Zy hE rfl hq22 ⟨_, rfl, rfl, hM.kept⟩)
noncomputable def Yx (p0 : (Vector UInt8 16)) (s10 : (Vector UInt8 16) × Int) : Option (Fl ((Vector UInt8 16) × Int) (Vector UInt8 16)) :=
 if (decide (s10.2 < 16)) = true then ((ZN p0 s10.2).bind fun x15 => (ZN s10.1 (bI x15)).bind fun x19 => some (Fl.nx ((s10.1.setIfInBounds ((bI x15)).toNat (ZE s10.2)), wr (s10.2 + 1)))) else (some (Fl.ex s10.1))
noncomputable def Y9 (p0 : (Vector UInt8 16)) : Option ((Vector UInt8 16)) :=
 (ZG (Yx p0) ((Vector.replicate 16 (0 : UInt8)), 0) : Option ((Vector UInt8 16))).bind fun j7 => some j7
theorem c_impl_Places_inverse (w0 : World) (p0 : (Vector UInt8 16)) (r : (Vector UInt8 16)) (hF : Y9 p0 = some r) :
  Calls Try.prog 109 [(Value.agg (Flat.enc p0).toArray)].toArray w0 (fun en w' => ∃ v, en = .returned v ∧ (v = (Value.agg (Flat.enc r).toArray) ∧ Kept (Old w0) w0 w')) := by
 refine ZC (n := 18) Try.func109 rfl rfl (Nat.le_of_ble_eq_true rfl) rfl ?_
 intro a hE
 have hM := M.start w0
 unfold Y9 at hF
 refine Zc (Z5 (cs := Flat.enc p0) hE hM Za (dl rfl) rfl rfl ?_); intro b1 w a hM hE
 refine ZO hE hM Za (dl rfl) ty101 ?_; intro b3 w a hM hE
 refine Zf (Zc (Xm (parts := []) (vs := []) (cs := Flat.enc (Vector.replicate 16 (0 : UInt8))) hE Za (dl rfl) rfl rfl ty101 rfl ty5 YO ?_)); intro a hE
 refine ZO hE hM Za (dl rfl) ty101 ?_; intro b5 w a hM hE
 refine Zs (seg := Flat.enc (Vector.replicate 16 (0 : UInt8))) (cs' := Flat.enc (Vector.replicate 16 (0 : UInt8))) hE hM Za rfl rfl rfl ty101 (Flat.len _) (zle flq) (Flat.cell _) (Zq flq) ?_; intro w a hM hE
 refine Zf (wp_seq (Zc (Zp (cs := Flat.enc p0) hE Za (dl rfl) rfl ty101 rfl (hM.rawAt (pre := [_, _])) (Flat.len _) ?_))); intro a hE
 refine Zd hE Za (dl rfl) rfl ?_; intro a hE
 refine Zf ?_
 obtain ⟨j7, hl8, hF9⟩ := bind_some hF
 refine ZW (fun a w => Env 18 a [(2, (ptr b3 0)), (3, (ptr b5 0))] ∧ M (Old w0) w0 w [raw b5 (Flat.enc j7), raw b3 (Flat.enc (Vector.replicate 16 (0 : UInt8)))]) ?_ ?_
 ·skip
  refine wp_block ?_
  have hM := hM.pull (pre := [_])
  have hM := hM.pull (pre := [_])
  have hM := M.fst (l := [_, _]) hM
  refine ZM (fun (s10 : (Vector UInt8 16) × Int) a w => Env 18 a [(2, (ptr b3 0)), (3, (ptr b5 0)), (7, (Value.agg (Flat.enc p0).toArray)), (8, (vI s10.2))] ∧ M (Old w0) w0 w [raw b5 (Flat.enc s10.1), raw b3 (Flat.enc (Vector.replicate 16 (0 : UInt8)))]) hl8 ⟨hE.sub ⟨rfl, rfl, rfl, rfl, trivial⟩, hM⟩ ?_
  rintro s10 a w ⟨hE, hM⟩ o13 hs11 hx12
  unfold Yx at hs11
  refine Zc (Zh hE Za (dl rfl) rfl rfl rfl ?_); intro a hE
  refine Zf (wp_seq ?_)
  refine Zt hE rfl ?_ ?_
  ·intro hb14
   have hs11 := Zz hs11 hb14
   refine wp_skip (Zx (wp_seq (wp_block (Zc (Zd hE Za (dl rfl) rfl ?_))))); intro a hE
   obtain ⟨x15, e16, hs11⟩ := bind_some hs11
   have hi17 := Zi e16
   refine s_indexV hE Za (dl rfl) rfl rfl Try.underlying101 ty5 rfl rfl hi17 rfl ?_; intro a hE
   refine Ze hE Za (dl rfl) rfl ?_; intro a hE
   refine Ze hE Za (dl rfl) rfl ?_; intro a hE
   refine Zf (wp_region_lit (Zd hE Za (dl rfl) rfl ?_)); intro a hE
   refine Zd hE Za (dl rfl) rfl ?_; intro a hE
   refine YI hE Za (dl rfl) rfl Try.underlying3 Try.underlying5 ?_; intro a hE
   rw [Yh] at hE
   obtain ⟨x19, e20, hs11⟩ := bind_some hs11
   have hi18 := Zi e20
   refine Zm hE Za (dl rfl) rfl rfl Try.underlying101 ty5 hi18.1 ?_; intro a hE
   refine Zs (seg := [(vB (ZE s10.2))]) (cs' := Flat.enc (s10.1.setIfInBounds ((bI x15)).toNat (ZE s10.2))) hE hM Za rfl rfl rfl ty5 rfl (ZT (v := s10.1) (x := ZE s10.2) hi18.1) (Flat.cell (ZE s10.2 : UInt8)) (ZI (v := s10.1) (x := ZE s10.2) hi18.1) ?_; intro w a hM hE
   refine Zj (Yj (Zx (wp_region_lit (Zh hE Za (dl rfl) rfl rfl rfl ?_)))); intro a hE
   refine Zd hE Za (dl rfl) rfl ?_; intro a hE
   refine Zj (Zl ?_)
   exact ⟨_, (Option.some.inj hs11).symm, hE.sub ⟨rfl, rfl, rfl, rfl, trivial⟩, hM⟩
  ·intro hb14
   have hs11 := ZA hs11 hb14
   refine wp_exit (Zr (Zr (Yk ?_)))
   have ht21 := hx12 _ (Option.some.inj hs11).symm
   subst ht21
   refine Zl ?_
   exact ⟨hE.sub ⟨rfl, rfl, trivial⟩, hM⟩
 ·skip
  rintro a w ⟨hE, hM⟩
  refine Zx (Zc (Zp (cs := Flat.enc j7) hE Za (dl rfl) rfl ty101 rfl (hM.rawAt (pre := [])) (Flat.len _) ?_)); intro a hE
  have hM := hM.pull (pre := [_])
  refine Zs (seg := Flat.enc j7) (cs' := Flat.enc j7) hE hM Za rfl rfl rfl ty101 (Flat.len _) (zle flq) (Flat.cell _) (Zq flq) ?_; intro w a hM hE
  refine Zf ?_
  have hr := Option.some.inj hF9
  subst hr
  have hq22 : YR Try.prog _ _ (.cell 2 101) _ := Z7 hE rfl ty101 rfl (hM.rawAt (pre := [])) (Flat.len _) rfl
  have hM := M.fst (l := []) hM
  exact wp_ret (Zy hE rfl hq22 ⟨_, rfl, rfl, hM.kept⟩)
noncomputable def XW (s8 : (Vector (Vector (Vector UInt8 256) 4) 4) × Int) (s19 : (Vector (Vector (Vector UInt8 256) 4) 4) × Int) (s30 : (Vector (Vector (Vector UInt8 256) 4) 4) × Int) (r35 : UInt8) (s40 : (Vector (Vector (Vector UInt8 256) 4) 4) × Int) : Option (Fl ((Vector (Vector (Vector UInt8 256) 4) 4) × Int) (Vector (Vector (Vector UInt8 256) 4) 4)) :=
 if (decide (s40.2 < s30.2)) = true then ((ZN s40.1 s8.2).bind fun x47 => (ZN x47 s19.2).bind fun x50 => (ZN x50 s40.2).bind fun x53 => (ZN s40.1 s8.2).bind fun x56 => (ZN x56 s19.2).bind fun x59 => (ZN x59 (orI s30.2 s40.2)).bind fun x62 => some (Fl.nx ((s40.1.setIfInBounds (s8.2).toNat (x56.setIfInBounds (s19.2).toNat (x59.setIfInBounds ((orI s30.2 s40.2)).toNat (r35 ^^^ x53)))), wr (s40.2 + 1)))) else (some (Fl.ex s40.1))
noncomputable def XP (p0 : Int) (s8 : (Vector (Vector (Vector UInt8 256) 4) 4) × Int) (s19 : (Vector (Vector (Vector UInt8 256) 4) 4) × Int) (x24 : UInt8) (s30 : (Vector (Vector (Vector UInt8 256) 4) 4) × Int) : Option (Fl ((Vector (Vector (Vector UInt8 256) 4) 4) × Int) (Vector (Vector (Vector UInt8 256) 4) 4)) :=
 if (decide (s30.2 < 256)) = true then ((Z3 p0 x24 (ZE s30.2)).bind fun r35 => (ZG (XW s8 s19 s30 r35) (s30.1, 0) : Option ((Vector (Vector (Vector UInt8 256) 4) 4))).bind fun j37 => some (Fl.nx (j37, wr (s30.2 * 2)))) else (some (Fl.ex s30.1))
noncomputable def XT (p0 : Int) (s8 : (Vector (Vector (Vector UInt8 256) 4) 4) × Int) (x14 : (Vector UInt8 4)) (s19 : (Vector (Vector (Vector UInt8 256) 4) 4) × Int) : Option (Fl ((Vector (Vector (Vector UInt8 256) 4) 4) × Int) (Vector (Vector (Vector UInt8 256) 4) 4)) :=
 if (decide (s19.2 < 4)) = true then ((ZN x14 s19.2).bind fun x24 => (ZG (XP p0 s8 s19 x24) (s19.1, 1) : Option ((Vector (Vector (Vector UInt8 256) 4) 4))).bind fun j27 => some (Fl.nx (j27, wr (s19.2 + 1)))) else (some (Fl.ex s19.1))
noncomputable def XS (p0 : Int) (p1 : (Vector (Vector UInt8 4) 4)) (s8 : (Vector (Vector (Vector UInt8 256) 4) 4) × Int) : Option (Fl ((Vector (Vector (Vector UInt8 256) 4) 4) × Int) (Vector (Vector (Vector UInt8 256) 4) 4)) :=
 if (decide (s8.2 < 4)) = true then ((ZN p1 s8.2).bind fun x14 => (ZG (XT p0 s8 x14) (s8.1, 0) : Option ((Vector (Vector (Vector UInt8 256) 4) 4))).bind fun j16 => some (Fl.nx (j16, wr (s8.2 + 1)))) else (some (Fl.ex s8.1))
noncomputable def Wc (p0 : Int) (p1 : (Vector (Vector UInt8 4) 4)) : Option ((Ref (Vector (Vector (Vector UInt8 256) 4) 4))) :=
 (ZG (XS p0 p1) ((Vector.replicate 4 (Vector.replicate 4 (Vector.replicate 256 (0 : UInt8)))), 0) : Option ((Vector (Vector (Vector UInt8 256) 4) 4))).bind fun j5 => some (⟨j5⟩ : (Ref (Vector (Vector (Vector UInt8 256) 4) 4)))
theorem c_impl_newMixer (w0 : World) (p0 : Int) (p1 : (Vector (Vector UInt8 4) 4)) (r : (Ref (Vector (Vector (Vector UInt8 256) 4) 4))) (hF : Wc p0 p1 = some r) :
  Calls Try.prog 110 [(vI p0), (Value.agg (Flat.enc p1).toArray)].toArray w0 (fun en w' => ∃ v, en = .returned v ∧ (∃ (y1 : Value), v = y1 ∧ Fr w0 w' [own NoB (r : (Ref (Vector (Vector (Vector UInt8 256) 4) 4))) [y1]] ∧ Kept (Old w0) w0 w')) := by
 refine ZC (n := 62) Try.func110 rfl rfl (Nat.le_of_ble_eq_true rfl) rfl ?_
 intro a hE
 have hM := M.start w0
 unfold Wc at hF
 refine Zc (Z5 (cs := Flat.enc p1) hE hM Za (dl rfl) rfl rfl ?_); intro b1 w a hM hE
 refine Ze hE Za (dl rfl) rfl ?_; intro a hE
 refine Zf (Zc (Xm (parts := []) (vs := []) (cs := Flat.enc (Vector.replicate 4 (Vector.replicate 4 (Vector.replicate 256 (0 : UInt8))))) hE Za (dl rfl) rfl rfl ty168 rfl ty166 YO ?_)); intro a hE
 refine Z5 (cs := Flat.enc (Vector.replicate 4 (Vector.replicate 4 (Vector.replicate 256 (0 : UInt8))))) hE hM Za (dl rfl) rfl rfl ?_; intro b3 w a hM hE
 refine Ze hE Za (dl rfl) rfl ?_; intro a hE
 refine Zf (wp_seq (Zc (Zd hE Za (dl rfl) rfl ?_))); intro a hE
 refine Zf ?_
 obtain ⟨j5, hl6, hF7⟩ := bind_some hF
 refine ZW (fun a w => Env 62 a [(5, (ptr b3 0))] ∧ M (Old w0) w0 w [raw b3 (Flat.enc j5)]) ?_ ?_
 ·skip
  refine wp_block ?_
  refine ZM (fun (s8 : (Vector (Vector (Vector UInt8 256) 4) 4) × Int) a w => Env 62 a [(0, (vI p0)), (3, (ptr b1 0)), (5, (ptr b3 0)), (14, (vI s8.2))] ∧ M (Old w0) w0 w [raw b3 (Flat.enc s8.1), raw b1 (Flat.enc p1)]) hl6 ⟨hE.sub ⟨rfl, rfl, rfl, rfl, trivial⟩, hM⟩ ?_
  rintro s8 a w ⟨hE, hM⟩ o11 hs9 hx10
  unfold XS at hs9
  refine Zc (Zh hE Za (dl rfl) rfl rfl rfl ?_); intro a hE
  refine Zf (wp_seq ?_)
  refine Zt hE rfl ?_ ?_
  ·intro hb12
   have hs9 := Zz hs9 hb12
   refine wp_skip (Zx (wp_seq (wp_block (Zc (Zd hE Za (dl rfl) rfl ?_))))); intro a hE
   refine Ze hE Za (dl rfl) rfl ?_; intro a hE
   refine Zf (Zc (Zd hE Za (dl rfl) rfl ?_)); intro a hE
   obtain ⟨x14, e15, hs9⟩ := bind_some hs9
   have hi13 := Zi e15
   refine Zm hE Za (dl rfl) rfl rfl Try.underlying100 Ve hi13.1 ?_; intro a hE
   refine Zp (cs := Flat.enc x14) hE Za (dl rfl) rfl Ve rfl (At.vec (hM.rawAt (pre := [_])) hi13.2) (Flat.len _) ?_; intro a hE
   refine Zd hE Za (dl rfl) rfl ?_; intro a hE
   refine Zf ?_
   obtain ⟨j16, hl17, hF18⟩ := bind_some hs9
   refine ZW (fun a w => Env 62 a [(0, (vI p0)), (3, (ptr b1 0)), (5, (ptr b3 0)), (14, (vI s8.2))] ∧ M (Old w0) w0 w [raw b3 (Flat.enc j16), raw b1 (Flat.enc p1)]) ?_ ?_
   ·skip
    refine wp_block ?_
    refine ZM (fun (s19 : (Vector (Vector (Vector UInt8 256) 4) 4) × Int) a w => Env 62 a [(0, (vI p0)), (3, (ptr b1 0)), (5, (ptr b3 0)), (6, (vI s8.2)), (14, (vI s8.2)), (19, (Value.agg (Flat.enc x14).toArray)), (20, (vI s19.2))] ∧ M (Old w0) w0 w [raw b3 (Flat.enc s19.1), raw b1 (Flat.enc p1)]) hl17 ⟨hE.sub ⟨rfl, rfl, rfl, rfl, rfl, rfl, rfl, trivial⟩, hM⟩ ?_
    rintro s19 a w ⟨hE, hM⟩ o22 hs20 hx21
    unfold XT at hs20
    refine Zc (Zh hE Za (dl rfl) rfl rfl rfl ?_); intro a hE
    refine Zf (wp_seq ?_)
    refine Zt hE rfl ?_ ?_
    ·intro hb23
     have hs20 := Zz hs20 hb23
     refine wp_skip (Zx (wp_seq (wp_block (Zc (Zd hE Za (dl rfl) rfl ?_))))); intro a hE
     obtain ⟨x24, e25, hs20⟩ := bind_some hs20
     have hi26 := Zi e25
     refine s_indexV hE Za (dl rfl) rfl rfl Try.underlying98 ty5 rfl rfl hi26 rfl ?_; intro a hE
     refine Ze hE Za (dl rfl) rfl ?_; intro a hE
     refine Ze hE Za (dl rfl) rfl ?_; intro a hE
     refine Zf (Zc (Ze hE Za (dl rfl) rfl ?_)); intro a hE
     refine Zf ?_
     obtain ⟨j27, hl28, hF29⟩ := bind_some hs20
     refine ZW (fun a w => Env 62 a [(0, (vI p0)), (3, (ptr b1 0)), (5, (ptr b3 0)), (6, (vI s8.2)), (14, (vI s8.2)), (19, (Value.agg (Flat.enc x14).toArray)), (20, (vI s19.2))] ∧ M (Old w0) w0 w [raw b3 (Flat.enc j27), raw b1 (Flat.enc p1)]) ?_ ?_
     ·skip
      refine wp_block ?_
      refine ZM (fun (s30 : (Vector (Vector (Vector UInt8 256) 4) 4) × Int) a w => Env 62 a [(0, (vI p0)), (3, (ptr b1 0)), (5, (ptr b3 0)), (6, (vI s8.2)), (7, (vI s19.2)), (8, (vB x24)), (9, (vI s30.2)), (14, (vI s8.2)), (19, (Value.agg (Flat.enc x14).toArray)), (20, (vI s19.2))] ∧ M (Old w0) w0 w [raw b3 (Flat.enc s30.1), raw b1 (Flat.enc p1)]) hl28 ⟨hE.sub ⟨rfl, rfl, rfl, rfl, rfl, rfl, rfl, rfl, rfl, rfl, trivial⟩, hM⟩ ?_
      rintro s30 a w ⟨hE, hM⟩ o33 hs31 hx32
      unfold XP at hs31
      refine wp_seq (Zc (Zd hE Za (dl rfl) rfl ?_)); intro a hE
      refine Zh hE Za (dl rfl) rfl rfl rfl ?_; intro a hE
      refine Zf ?_
      refine Zt hE rfl ?_ ?_
      ·intro hb34
       have hs31 := Zz hs31 hb34
       refine wp_skip (Zx (wp_seq (wp_block (Zc (Zd hE Za (dl rfl) rfl ?_))))); intro a hE
       refine Zd hE Za (dl rfl) rfl ?_; intro a hE
       refine Zd hE Za (dl rfl) rfl ?_; intro a hE
       refine YI hE Za (dl rfl) rfl Try.underlying3 Try.underlying5 ?_; intro a hE
       rw [Yh] at hE
       obtain ⟨r35, e36, hs31⟩ := bind_some hs31
       refine Zw (vs := [(vI p0), (vB x24), (vB (ZE s30.2))]) hE Za (dl rfl) rfl cb127 (Yq _ p0 x24 (ZE s30.2) r35 e36) ?_
       rintro v w a ⟨rfl, hK⟩ hE
       have hM := hM.keep hK
       refine Ze hE Za (dl rfl) rfl ?_; intro a hE
       refine Zf (Zc (Zd hE Za (dl rfl) rfl ?_)); intro a hE
       refine Zd hE Za (dl rfl) rfl ?_; intro a hE
       refine Zf ?_
       obtain ⟨j37, hl38, hF39⟩ := bind_some hs31
       refine ZW (fun a w => Env 62 a [(0, (vI p0)), (3, (ptr b1 0)), (5, (ptr b3 0)), (6, (vI s8.2)), (7, (vI s19.2)), (8, (vB x24)), (9, (vI s30.2)), (14, (vI s8.2)), (19, (Value.agg (Flat.enc x14).toArray)), (20, (vI s19.2))] ∧ M (Old w0) w0 w [raw b3 (Flat.enc j37), raw b1 (Flat.enc p1)]) ?_ ?_
       ·skip
        refine wp_block ?_
        refine ZM (fun (s40 : (Vector (Vector (Vector UInt8 256) 4) 4) × Int) a w => Env 62 a [(0, (vI p0)), (3, (ptr b1 0)), (5, (ptr b3 0)), (6, (vI s8.2)), (7, (vI s19.2)), (8, (vB x24)), (9, (vI s30.2)), (10, (vB r35)), (14, (vI s8.2)), (19, (Value.agg (Flat.enc x14).toArray)), (20, (vI s19.2)), (33, (vI s30.2)), (34, (vI s40.2))] ∧ M (Old w0) w0 w [raw b3 (Flat.enc s40.1), raw b1 (Flat.enc p1)]) hl38 ⟨hE.sub ⟨rfl, rfl, rfl, rfl, rfl, rfl, rfl, rfl, rfl, rfl, rfl, rfl, rfl, trivial⟩, hM⟩ ?_
        rintro s40 a w ⟨hE, hM⟩ o43 hs41 hx42
        unfold XW at hs41
        refine Zc (Zh hE Za (dl rfl) rfl rfl rfl ?_); intro a hE
        refine Zf (wp_seq ?_)
        refine Zt hE rfl ?_ ?_
        ·intro hb44
         have hs41 := Zz hs41 hb44
         refine wp_skip (Zx (wp_seq (wp_block (Zc (Zd hE Za (dl rfl) rfl ?_))))); intro a hE
         refine Ze hE Za (dl rfl) rfl ?_; intro a hE
         refine Zf ?_
         obtain ⟨x47, e48, hs41⟩ := bind_some hs41
         have hi46 := Zi e48
         obtain ⟨x50, e51, hs41⟩ := bind_some hs41
         have hi49 := Zi e51
         obtain ⟨x53, e54, hs41⟩ := bind_some hs41
         have hi52 := Zi e54
         obtain ⟨x56, e57, hs41⟩ := bind_some hs41
         have hi55 := Zi e57
         obtain ⟨x59, e60, hs41⟩ := bind_some hs41
         have hi58 := Zi e60
         obtain ⟨x62, e63, hs41⟩ := bind_some hs41
         have hi61 := Zi e63
         refine Ye (n := 62) (hd := [_, _, _, _, _, _, _, _, _, _, _, _, _, _, _, _, _, _, _, _, _]) (tl := [_]) YB rfl rfl [37, 38, 39, 40, 41, 42, 43, 44, 45, 46, 47, 48, 49, 50, 51, 52, 53, 54, 55, 56, 57] (by decide) (fun w => M (Old w0) w0 w [raw b3 (Flat.enc s40.1), raw b1 (Flat.enc p1)]) (fun j => ([fun v _ => v = (ptr b3 0), fun v _ => v = (vI s8.2), fun v _ => v = (vI s19.2), fun v _ => v = (vI s30.2), fun v _ => v = (vI s40.2), fun v _ => v = (vI (orI s30.2 s40.2)), fun v _ => v = (vB r35), fun v _ => v = (ptr b3 0), fun v _ => v = (vI s8.2), fun v _ => v = (vI s19.2), fun v _ => v = (vI s40.2), fun v _ => v = (ptr b3 0), fun v _ => v = (ptr b3 (0 + (s8.2).toNat * 1024)), fun v _ => v = (ptr b3 (0 + (s8.2).toNat * 1024 + (s19.2).toNat * 256)), fun v _ => v = (ptr b3 (0 + (s8.2).toNat * 1024 + (s19.2).toNat * 256 + (s40.2).toNat * 1)), fun v _ => v = (vB x53), fun v _ => v = (vB (r35 ^^^ x53)), fun v _ => v = (ptr b3 0), fun v _ => v = (ptr b3 (0 + (s8.2).toNat * 1024)), fun v _ => v = (ptr b3 (0 + (s8.2).toNat * 1024 + (s19.2).toNat * 256)), fun v _ => v = (ptr b3 (0 + (s8.2).toNat * 1024 + (s19.2).toNat * 256 + ((orI s30.2 s40.2)).toNat * 1))] : List (Value → World → Prop)).getD j (fun _ _ => True)) (fun _ _ h hk => h.keep hk) (gup (Zg (Zg (Zg (Zg (Zg (Zg (Zg (Zg (Zg (Zg (Zg (Zg (Zg (Zg (Zg (Zg (Zg (Zg (Zg (Zg (Zg Ww)))))))))))))))))))))) hE hM.drew (ZH (Zb ?_ (Zb ?_ (Zb ?_ (Zb ?_ (Zb ?_ (Zb ?_ (Zb ?_ (Zb ?_ (Zb ?_ (Zb ?_ (Zb ?_ (Zb ?_ (Zb ?_ (Zb ?_ (Zb ?_ (Zb ?_ (Zb ?_ (Zb ?_ (Zb ?_ (Zb ?_ (Zb ?_ ZD)))))))))))))))))))))) ?_
         ·intro a w ux45 hE hM hp
          refine Zd hE Za (dl rfl) rfl ?_; intro a hE
          exact ⟨Kept.refl _ _, _, _, rfl, hE, rfl⟩
         ·intro a w ux45 hE hM hp
          refine Zd hE Za (dl rfl) rfl ?_; intro a hE
          exact ⟨Kept.refl _ _, _, _, rfl, hE, rfl⟩
         ·intro a w ux45 hE hM hp
          refine Zd hE Za (dl rfl) rfl ?_; intro a hE
          exact ⟨Kept.refl _ _, _, _, rfl, hE, rfl⟩
         ·intro a w ux45 hE hM hp
          refine Zd hE Za (dl rfl) rfl ?_; intro a hE
          exact ⟨Kept.refl _ _, _, _, rfl, hE, rfl⟩
         ·intro a w ux45 hE hM hp
          refine Zd hE Za (dl rfl) rfl ?_; intro a hE
          exact ⟨Kept.refl _ _, _, _, rfl, hE, rfl⟩
         ·intro a w ux45 hE hM hp
          have f3 : ux45 3 = (vI s30.2) := hp 0 _ rfl rfl
          have f4 : ux45 4 = (vI s40.2) := hp 1 _ rfl rfl
          refine Zh hE Za (dl rfl) (lk rfl f3) (lk rfl f4) rfl ?_; intro a hE
          exact ⟨Kept.refl _ _, _, _, rfl, hE, rfl⟩
         ·intro a w ux45 hE hM hp
          refine Zd hE Za (dl rfl) rfl ?_; intro a hE
          exact ⟨Kept.refl _ _, _, _, rfl, hE, rfl⟩
         ·intro a w ux45 hE hM hp
          refine Zd hE Za (dl rfl) rfl ?_; intro a hE
          exact ⟨Kept.refl _ _, _, _, rfl, hE, rfl⟩
         ·intro a w ux45 hE hM hp
          refine Zd hE Za (dl rfl) rfl ?_; intro a hE
          exact ⟨Kept.refl _ _, _, _, rfl, hE, rfl⟩
         ·intro a w ux45 hE hM hp
          refine Zd hE Za (dl rfl) rfl ?_; intro a hE
          exact ⟨Kept.refl _ _, _, _, rfl, hE, rfl⟩
         ·intro a w ux45 hE hM hp
          refine Zd hE Za (dl rfl) rfl ?_; intro a hE
          exact ⟨Kept.refl _ _, _, _, rfl, hE, rfl⟩
         ·intro a w ux45 hE hM hp
          have f7 : ux45 7 = (ptr b3 0) := hp 0 _ rfl rfl
          refine XF hE Za (dl rfl) (lk rfl f7) ?_; intro a hE
          exact ⟨Kept.refl _ _, _, _, rfl, hE, rfl⟩
         ·intro a w ux45 hE hM hp
          have f8 : ux45 8 = (vI s8.2) := hp 1 _ rfl rfl
          have f11 : ux45 11 = (ptr b3 0) := hp 0 _ rfl rfl
          refine Zm hE Za (dl rfl) (lk rfl f11) (lk rfl f8) Try.underlying168 ty166 hi46.1 ?_; intro a hE
          exact ⟨Kept.refl _ _, _, _, rfl, hE, rfl⟩
         ·intro a w ux45 hE hM hp
          have f9 : ux45 9 = (vI s19.2) := hp 1 _ rfl rfl
          have f12 : ux45 12 = (ptr b3 (0 + (s8.2).toNat * 1024)) := hp 0 _ rfl rfl
          refine Zm hE Za (dl rfl) (lk rfl f12) (lk rfl f9) Try.underlying166 ty96 hi49.1 ?_; intro a hE
          exact ⟨Kept.refl _ _, _, _, rfl, hE, rfl⟩
         ·intro a w ux45 hE hM hp
          have f10 : ux45 10 = (vI s40.2) := hp 1 _ rfl rfl
          have f13 : ux45 13 = (ptr b3 (0 + (s8.2).toNat * 1024 + (s19.2).toNat * 256)) := hp 0 _ rfl rfl
          refine Zm hE Za (dl rfl) (lk rfl f13) (lk rfl f10) Try.underlying96 ty5 hi52.1 ?_; intro a hE
          exact ⟨Kept.refl _ _, _, _, rfl, hE, rfl⟩
         ·intro a w ux45 hE hM hp
          have f14 : ux45 14 = (ptr b3 (0 + (s8.2).toNat * 1024 + (s19.2).toNat * 256 + (s40.2).toNat * 1)) := hp 0 _ rfl rfl
          refine Zv (v := (vB x53)) hE Za (dl rfl) (lk rfl f14) ty5 rfl (At.vec (At.vec (At.vec (hM.rawAt (pre := [])) hi46.2) hi49.2) hi52.2) ?_; intro a hE
          exact ⟨Kept.refl _ _, _, _, rfl, hE, rfl⟩
         ·intro a w ux45 hE hM hp
          have f6 : ux45 6 = (vB r35) := hp 0 _ rfl rfl
          have f15 : ux45 15 = (vB x53) := hp 1 _ rfl rfl
          refine Zh hE Za (dl rfl) (lk rfl f6) (lk rfl f15) (Vn r35 x53) ?_; intro a hE
          exact ⟨Kept.refl _ _, _, _, rfl, hE, rfl⟩
         ·intro a w ux45 hE hM hp
          have f0 : ux45 0 = (ptr b3 0) := hp 0 _ rfl rfl
          refine XF hE Za (dl rfl) (lk rfl f0) ?_; intro a hE
          exact ⟨Kept.refl _ _, _, _, rfl, hE, rfl⟩
         ·intro a w ux45 hE hM hp
          have f1 : ux45 1 = (vI s8.2) := hp 1 _ rfl rfl
          have f17 : ux45 17 = (ptr b3 0) := hp 0 _ rfl rfl
          refine Zm hE Za (dl rfl) (lk rfl f17) (lk rfl f1) Try.underlying168 ty166 hi55.1 ?_; intro a hE
          exact ⟨Kept.refl _ _, _, _, rfl, hE, rfl⟩
         ·intro a w ux45 hE hM hp
          have f2 : ux45 2 = (vI s19.2) := hp 1 _ rfl rfl
          have f18 : ux45 18 = (ptr b3 (0 + (s8.2).toNat * 1024)) := hp 0 _ rfl rfl
          refine Zm hE Za (dl rfl) (lk rfl f18) (lk rfl f2) Try.underlying166 ty96 hi58.1 ?_; intro a hE
          exact ⟨Kept.refl _ _, _, _, rfl, hE, rfl⟩
         ·intro a w ux45 hE hM hp
          have f5 : ux45 5 = (vI (orI s30.2 s40.2)) := hp 1 _ rfl rfl
          have f19 : ux45 19 = (ptr b3 (0 + (s8.2).toNat * 1024 + (s19.2).toNat * 256)) := hp 0 _ rfl rfl
          refine Zm hE Za (dl rfl) (lk rfl f19) (lk rfl f5) Try.underlying96 ty5 hi61.1 ?_; intro a hE
          exact ⟨Kept.refl _ _, _, _, rfl, hE, rfl⟩
         ·intro a w ux45 hE hM hg
          have f0 : ux45 0 = (ptr b3 0) := hg 0 (by decide)
          have f1 : ux45 1 = (vI s8.2) := hg 1 (by decide)
          have f2 : ux45 2 = (vI s19.2) := hg 2 (by decide)
          have f3 : ux45 3 = (vI s30.2) := hg 3 (by decide)
          have f4 : ux45 4 = (vI s40.2) := hg 4 (by decide)
          have f5 : ux45 5 = (vI (orI s30.2 s40.2)) := hg 5 (by decide)
          have f6 : ux45 6 = (vB r35) := hg 6 (by decide)
          have f7 : ux45 7 = (ptr b3 0) := hg 7 (by decide)
          have f8 : ux45 8 = (vI s8.2) := hg 8 (by decide)
          have f9 : ux45 9 = (vI s19.2) := hg 9 (by decide)
          have f10 : ux45 10 = (vI s40.2) := hg 10 (by decide)
          have f11 : ux45 11 = (ptr b3 0) := hg 11 (by decide)
          have f12 : ux45 12 = (ptr b3 (0 + (s8.2).toNat * 1024)) := hg 12 (by decide)
          have f13 : ux45 13 = (ptr b3 (0 + (s8.2).toNat * 1024 + (s19.2).toNat * 256)) := hg 13 (by decide)
          have f14 : ux45 14 = (ptr b3 (0 + (s8.2).toNat * 1024 + (s19.2).toNat * 256 + (s40.2).toNat * 1)) := hg 14 (by decide)
          have f15 : ux45 15 = (vB x53) := hg 15 (by decide)
          have f16 : ux45 16 = (vB (r35 ^^^ x53)) := hg 16 (by decide)
          have f17 : ux45 17 = (ptr b3 0) := hg 17 (by decide)
          have f18 : ux45 18 = (ptr b3 (0 + (s8.2).toNat * 1024)) := hg 18 (by decide)
          have f19 : ux45 19 = (ptr b3 (0 + (s8.2).toNat * 1024 + (s19.2).toNat * 256)) := hg 19 (by decide)
          have f20 : ux45 20 = (ptr b3 (0 + (s8.2).toNat * 1024 + (s19.2).toNat * 256 + ((orI s30.2 s40.2)).toNat * 1)) := hg 20 (by decide)
          have hE := hE.sub (e' := [(37, (ptr b3 0)), (38, (vI s8.2)), (39, (vI s19.2)), (40, (vI s30.2)), (41, (vI s40.2)), (42, (vI (orI s30.2 s40.2))), (43, (vB r35)), (44, (ptr b3 0)), (45, (vI s8.2)), (46, (vI s19.2)), (47, (vI s40.2)), (48, (ptr b3 0)), (49, (ptr b3 (0 + (s8.2).toNat * 1024))), (50, (ptr b3 (0 + (s8.2).toNat * 1024 + (s19.2).toNat * 256))), (51, (ptr b3 (0 + (s8.2).toNat * 1024 + (s19.2).toNat * 256 + (s40.2).toNat * 1))), (52, (vB x53)), (53, (vB (r35 ^^^ x53))), (54, (ptr b3 0)), (55, (ptr b3 (0 + (s8.2).toNat * 1024))), (56, (ptr b3 (0 + (s8.2).toNat * 1024 + (s19.2).toNat * 256))), (57, (ptr b3 (0 + (s8.2).toNat * 1024 + (s19.2).toNat * 256 + ((orI s30.2 s40.2)).toNat * 1))), (0, (vI p0)), (3, (ptr b1 0)), (5, (ptr b3 0)), (6, (vI s8.2)), (7, (vI s19.2)), (8, (vB x24)), (9, (vI s30.2)), (10, (vB r35)), (11, (vI s40.2)), (14, (vI s8.2)), (19, (Value.agg (Flat.enc x14).toArray)), (20, (vI s19.2)), (33, (vI s30.2)), (34, (vI s40.2)), (35, (vT (decide (s40.2 < s30.2)))), (36, (vI s40.2))]) ⟨lk rfl f0, lk rfl f1, lk rfl f2, lk rfl f3, lk rfl f4, lk rfl f5, lk rfl f6, lk rfl f7, lk rfl f8, lk rfl f9, lk rfl f10, lk rfl f11, lk rfl f12, lk rfl f13, lk rfl f14, lk rfl f15, lk rfl f16, lk rfl f17, lk rfl f18, lk rfl f19, lk rfl f20, rfl, rfl, rfl, rfl, rfl, rfl, rfl, rfl, rfl, rfl, rfl, rfl, rfl, rfl, rfl, rfl, trivial⟩
          refine Zs (seg := [(vB (r35 ^^^ x53))]) (cs' := Flat.enc (s40.1.setIfInBounds (s8.2).toNat (x56.setIfInBounds (s19.2).toNat (x59.setIfInBounds ((orI s30.2 s40.2)).toNat (r35 ^^^ x53))))) hE hM Za rfl rfl rfl ty5 rfl (W9 (o' := (s19.2).toNat * 256 + (0 + ((orI s30.2 s40.2)).toNat * 1)) hi55 (W9 (o' := 0 + ((orI s30.2 s40.2)).toNat * 1) hi58 (ZT (v := x59) (x := r35 ^^^ x53) hi61.1) (by first | omega | (simp only [Flat.n] <;> omega))) (by first | omega | (simp only [Flat.n] <;> omega))) (Flat.cell (r35 ^^^ x53 : UInt8)) (Wl (o' := (s19.2).toNat * 256 + (0 + ((orI s30.2 s40.2)).toNat * 1)) hi55 (W9 (o' := 0 + ((orI s30.2 s40.2)).toNat * 1) hi58 (ZT (v := x59) (x := r35 ^^^ x53) hi61.1) (by first | omega | (simp only [Flat.n] <;> omega))) (Wl (o' := 0 + ((orI s30.2 s40.2)).toNat * 1) hi58 (ZT (v := x59) (x := r35 ^^^ x53) hi61.1) (ZI (v := x59) (x := r35 ^^^ x53) hi61.1) (by first | omega | (simp only [Flat.n] <;> omega))) (by first | omega | (simp only [Flat.n] <;> omega))) ?_; intro w a hM hE
          refine Zj (Yj (Zx (wp_region_lit (Zh hE Za (dl rfl) rfl rfl rfl ?_)))); intro a hE
          refine Zd hE Za (dl rfl) rfl ?_; intro a hE
          refine Zj (Zl ?_)
          exact ⟨_, (Option.some.inj hs41).symm, hE.sub ⟨rfl, rfl, rfl, rfl, rfl, rfl, rfl, rfl, rfl, rfl, rfl, rfl, rfl, trivial⟩, hM⟩
        ·intro hb44
         have hs41 := ZA hs41 hb44
         refine wp_exit (Zr (Zr (Yk ?_)))
         have ht64 := hx42 _ (Option.some.inj hs41).symm
         subst ht64
         refine Zl ?_
         exact ⟨hE.sub ⟨rfl, rfl, rfl, rfl, rfl, rfl, rfl, rfl, rfl, rfl, trivial⟩, hM⟩
       ·skip
        rintro a w ⟨hE, hM⟩
        refine Yj (Zx (wp_region_lit (Zd hE Za (dl rfl) rfl ?_))); intro a hE
        refine Zh hE Za (dl rfl) rfl rfl rfl ?_; intro a hE
        refine Ze hE Za (dl rfl) rfl ?_; intro a hE
        refine Zj (Zl ?_)
        exact ⟨_, (Option.some.inj hF39).symm, hE.sub ⟨rfl, rfl, rfl, rfl, rfl, rfl, rfl, rfl, rfl, rfl, trivial⟩, hM⟩
      ·intro hb34
       have hs31 := ZA hs31 hb34
       refine wp_exit (Zr (Zr (Yk ?_)))
       have ht65 := hx32 _ (Option.some.inj hs31).symm
       subst ht65
       refine Zl ?_
       exact ⟨hE.sub ⟨rfl, rfl, rfl, rfl, rfl, rfl, rfl, trivial⟩, hM⟩
     ·skip
      rintro a w ⟨hE, hM⟩
      refine Yj (Zx (wp_region_lit (Zh hE Za (dl rfl) rfl rfl rfl ?_))); intro a hE
      refine Zd hE Za (dl rfl) rfl ?_; intro a hE
      refine Zj (Zl ?_)
      exact ⟨_, (Option.some.inj hF29).symm, hE.sub ⟨rfl, rfl, rfl, rfl, rfl, rfl, rfl, trivial⟩, hM⟩
    ·intro hb23
     have hs20 := ZA hs20 hb23
     refine wp_exit (Zr (Zr (Yk ?_)))
     have ht66 := hx21 _ (Option.some.inj hs20).symm
     subst ht66
     refine Zl ?_
     exact ⟨hE.sub ⟨rfl, rfl, rfl, rfl, trivial⟩, hM⟩
   ·skip
    rintro a w ⟨hE, hM⟩
    refine Yj (Zx (wp_region_lit (Zh hE Za (dl rfl) rfl rfl rfl ?_))); intro a hE
    refine Zd hE Za (dl rfl) rfl ?_; intro a hE
    refine Zj (Zl ?_)
    exact ⟨_, (Option.some.inj hF18).symm, hE.sub ⟨rfl, rfl, rfl, rfl, trivial⟩, hM⟩
  ·intro hb12
   have hs9 := ZA hs9 hb12
   refine wp_exit (Zr (Zr (Yk ?_)))
   have ht67 := hx10 _ (Option.some.inj hs9).symm
   subst ht67
   refine Zl ?_
   have hM := M.fst (l := [_]) hM
   exact ⟨hE.sub ⟨rfl, trivial⟩, hM⟩
 ·skip
  rintro a w ⟨hE, hM⟩
  refine Zx (Zc (Zd hE Za (dl rfl) rfl ?_)); intro a hE
  refine Ze hE Za (dl rfl) rfl ?_; intro a hE
  refine Zf ?_
  have hM := M.toRefF (x := j5) hM
  have hr := Option.some.inj hF7
  subst hr
  exact wp_ret (Zy hE rfl (Zu hE rfl) ⟨_, rfl, (ptr b3 0), rfl, hM.outF (locNO W0), hM.kept⟩)
noncomputable def WX (p0 : GCipher) : Option ((Ref Gengine)) :=
 (Y2 p0.Field p0.Mix).bind fun r3 => (X8 p0.Box).bind fun r8 => (Y9 p0.Places).bind fun r10 => (Wc p0.Field p0.Mix).bind fun r12 => (Wc p0.Field r3.2).bind fun r15 => some (⟨(⟨p0.Box, r8, p0.Places, r10, r12, r15, p0.Rounds⟩ : Gengine)⟩ : (Ref Gengine))
theorem c_impl_newEngine (w0 : World) (p0 : GCipher) (r : (Ref Gengine)) (hF : WX p0 = some r) :
  Calls Try.prog 89 [(Value.agg (Flat.enc p0).toArray)].toArray w0 (fun en w' => ∃ v, en = .returned v ∧ (∃ (y1 : Value), v = y1 ∧ Fr w0 w' [own NoB (r : (Ref Gengine)) [y1]] ∧ Kept (Old w0) w0 w')) := by
 refine ZC (n := 36) Try.func89 rfl rfl (Nat.le_of_ble_eq_true rfl) rfl ?_
 intro a hE
 have hM := M.start w0
 unfold WX at hF
 refine Zc (Z5 (cs := cat [[(vI p0.Field)], Flat.enc p0.Box, Flat.enc p0.Mix, Flat.enc p0.Places, [(vI p0.Rounds)]]) hE hM Za (dl rfl) rfl rfl ?_); intro b1 w a hM hE
 refine Ze hE Za (dl rfl) rfl ?_; intro a hE
 refine Zf (Zc (Zo hE Za (dl rfl) rfl (fd103_0) ?_)); intro a hE
 refine Zv (v := (vI p0.Field)) hE Za (dl rfl) rfl ty2 rfl (At.cat (pre := []) (hM.rawAt (pre := [])) cl0) ?_; intro a hE
 refine Zo hE Za (dl rfl) rfl (fd103_2) ?_; intro a hE
 refine Zp (cs := Flat.enc p0.Mix) hE Za (dl rfl) rfl Vx rfl (At.cat (pre := [[(vI p0.Field)], Flat.enc p0.Box]) (hM.rawAt (pre := [])) (cl1 (n := 1) (m := 256) rfl (cl1 (n := 256) (m := 0) (Flat.len _) cl0))) (Flat.len _) ?_; intro a hE
 obtain ⟨r3, e4, hF⟩ := bind_some hF
 refine Zw (vs := [(vI p0.Field), (Value.agg (Flat.enc p0.Mix).toArray)]) hE Za (dl rfl) rfl cb107 (c_impl_field_invert _ p0.Field p0.Mix r3 e4) ?_
 rintro v w a ⟨rfl, hK⟩ hE
 have hM := hM.keep hK
 refine Zd hE Za (dl rfl) rfl ?_; intro a hE
 refine XC hE Za (dl rfl) rfl rfl ?_; intro a hE
 refine XC hE Za (dl rfl) rfl rfl ?_; intro a hE
 refine ZO hE hM Za (dl rfl) Vx ?_; intro b5 w a hM hE
 refine Ze hE Za (dl rfl) rfl ?_; intro a hE
 refine Zs (seg := Flat.enc r3.2) (cs' := Flat.enc r3.2) hE hM Za rfl rfl rfl Vx (Flat.len _) (zle flq) (Flat.cell _) (Zq flq) ?_; intro w a hM hE
 refine Zf (wp_seq ?_)
 obtain ⟨r8, e9, hF⟩ := bind_some hF
 obtain ⟨r10, e11, hF⟩ := bind_some hF
 obtain ⟨r12, e13, hF⟩ := bind_some hF
 obtain ⟨r15, e16, hF⟩ := bind_some hF
 refine c_draw2 (n := 36) (hd := [_, _, _, _, _, _, _, _, _, _, _, _, _, _, _, _, _, _, _, _, _]) (tl := [_, _, _]) (its := [raw b5 (Flat.enc r3.2), raw b1 (cat [[(vI p0.Field)], Flat.enc p0.Box, Flat.enc p0.Mix, Flat.enc p0.Places, [(vI p0.Rounds)]])]) YB rfl rfl [13, 14, 15, 16, 17, 18, 19, 20, 21, 22, 23, 24, 25, 26, 27, 28, 29, 30, 31, 32, 33] (by decide) [(14, fun v => own NoB (r12 : (Ref (Vector (Vector (Vector UInt8 256) 4) 4))) [v]), (18, fun v => own NoB (r15 : (Ref (Vector (Vector (Vector UInt8 256) 4) 4))) [v])] rfl (fun j => ([fun v => v = (ptr b1 (0 + 1)), fun v => v = (Value.agg (Flat.enc p0.Box).toArray), fun v => v = (ptr b1 (0 + 1)), fun v => v = (Value.agg (Flat.enc p0.Box).toArray), fun v => v = (Value.agg (Flat.enc r8).toArray), fun v => v = (ptr b1 (0 + 273)), fun v => v = (Value.agg (Flat.enc p0.Places).toArray), fun v => v = (ptr b1 (0 + 273)), fun v => v = (Value.agg (Flat.enc p0.Places).toArray), fun v => v = (Value.agg (Flat.enc r10).toArray), fun v => v = (ptr b1 (0 + 0)), fun v => v = (vI p0.Field), fun v => v = (ptr b1 (0 + 257)), fun v => v = (Value.agg (Flat.enc p0.Mix).toArray), fun v => True, fun v => v = (ptr b1 (0 + 0)), fun v => v = (vI p0.Field), fun v => v = (Value.agg (Flat.enc r3.2).toArray), fun v => True, fun v => v = (ptr b1 (0 + 289)), fun v => v = (vI p0.Rounds)] : List (Value → Prop)).getD j (fun _ => True)) hE hM.drew (ZH (Zb ?_ (Zb ?_ (Zb ?_ (Zb ?_ (Zb ?_ (Zb ?_ (Zb ?_ (Zb ?_ (Zb ?_ (Zb ?_ (Zb ?_ (Zb ?_ (Zb ?_ (Zb ?_ (Zb ?_ (Zb ?_ (Zb ?_ (Zb ?_ (Zb ?_ (Zb ?_ (Zb ?_ ZD)))))))))))))))))))))) ?_
 ·intro a w ux7 D hE hM hD hp
  have hM0 := hM
  refine Zo hE Za (dl rfl) rfl (fd103_1) ?_; intro a hE
  exact ⟨_, _, rfl, hE, rfl, hM0.optKeep rfl⟩
 ·intro a w ux7 D hE hM hD hp
  have f0 : ux7 0 = (ptr b1 (0 + 1)) := (hp 0 _ rfl rfl).2
  have hM0 := hM
  have hM : M (Old w0) w0 w [raw b5 (Flat.enc r3.2), raw b1 (cat [[(vI p0.Field)], Flat.enc p0.Box, Flat.enc p0.Mix, Flat.enc p0.Places, [(vI p0.Rounds)]]), opt (D 14) (own NoB (r12 : (Ref (Vector (Vector (Vector UInt8 256) 4) 4))) [(ux7 14)]), opt (D 18) (own NoB (r15 : (Ref (Vector (Vector (Vector UInt8 256) 4) 4))) [(ux7 18)])] := hM
  refine Zp (cs := Flat.enc p0.Box) hE Za (dl rfl) (lk rfl f0) Vp rfl (At.cat (pre := [[(vI p0.Field)]]) (hM.rawAt (pre := [_])) (cl1 (n := 1) (m := 0) rfl cl0)) (Flat.len _) ?_; intro a hE
  exact ⟨_, _, rfl, hE, rfl, hM0.optKeep rfl⟩
 ·intro a w ux7 D hE hM hD hp
  have hM0 := hM
  refine Zo hE Za (dl rfl) rfl (fd103_1) ?_; intro a hE
  exact ⟨_, _, rfl, hE, rfl, hM0.optKeep rfl⟩
 ·intro a w ux7 D hE hM hD hp
  have f2 : ux7 2 = (ptr b1 (0 + 1)) := (hp 0 _ rfl rfl).2
  have hM0 := hM
  have hM : M (Old w0) w0 w [raw b5 (Flat.enc r3.2), raw b1 (cat [[(vI p0.Field)], Flat.enc p0.Box, Flat.enc p0.Mix, Flat.enc p0.Places, [(vI p0.Rounds)]]), opt (D 14) (own NoB (r12 : (Ref (Vector (Vector (Vector UInt8 256) 4) 4))) [(ux7 14)]), opt (D 18) (own NoB (r15 : (Ref (Vector (Vector (Vector UInt8 256) 4) 4))) [(ux7 18)])] := hM
  refine Zp (cs := Flat.enc p0.Box) hE Za (dl rfl) (lk rfl f2) Vp rfl (At.cat (pre := [[(vI p0.Field)]]) (hM.rawAt (pre := [_])) (cl1 (n := 1) (m := 0) rfl cl0)) (Flat.len _) ?_; intro a hE
  exact ⟨_, _, rfl, hE, rfl, hM0.optKeep rfl⟩
 ·intro a w ux7 D hE hM hD hp
  have f3 : ux7 3 = (Value.agg (Flat.enc p0.Box).toArray) := (hp 0 _ rfl rfl).2
  have hM0 := hM
  refine Zw (vs := [(Value.agg (Flat.enc p0.Box).toArray)]) hE Za (dl rfl) (Z0 (ZZ (lk rfl f3) Xh)) cb108 (c_impl_Box_inverse _ p0.Box r8 e9) ?_
  rintro v w a ⟨rfl, hK⟩ hE
  exact ⟨_, _, rfl, hE, rfl, (hM0.keep hK).optKeep rfl⟩
 ·intro a w ux7 D hE hM hD hp
  have hM0 := hM
  refine Zo hE Za (dl rfl) rfl (fd103_3) ?_; intro a hE
  exact ⟨_, _, rfl, hE, rfl, hM0.optKeep rfl⟩
 ·intro a w ux7 D hE hM hD hp
  have f5 : ux7 5 = (ptr b1 (0 + 273)) := (hp 0 _ rfl rfl).2
  have hM0 := hM
  have hM : M (Old w0) w0 w [raw b5 (Flat.enc r3.2), raw b1 (cat [[(vI p0.Field)], Flat.enc p0.Box, Flat.enc p0.Mix, Flat.enc p0.Places, [(vI p0.Rounds)]]), opt (D 14) (own NoB (r12 : (Ref (Vector (Vector (Vector UInt8 256) 4) 4))) [(ux7 14)]), opt (D 18) (own NoB (r15 : (Ref (Vector (Vector (Vector UInt8 256) 4) 4))) [(ux7 18)])] := hM
  refine Zp (cs := Flat.enc p0.Places) hE Za (dl rfl) (lk rfl f5) ty101 rfl (At.cat (pre := [[(vI p0.Field)], Flat.enc p0.Box, Flat.enc p0.Mix]) (hM.rawAt (pre := [_])) (cl1 (n := 1) (m := 272) rfl (cl1 (n := 256) (m := 16) (Flat.len _) (cl1 (n := 16) (m := 0) (Flat.len _) cl0)))) (Flat.len _) ?_; intro a hE
  exact ⟨_, _, rfl, hE, rfl, hM0.optKeep rfl⟩
 ·intro a w ux7 D hE hM hD hp
  have hM0 := hM
  refine Zo hE Za (dl rfl) rfl (fd103_3) ?_; intro a hE
  exact ⟨_, _, rfl, hE, rfl, hM0.optKeep rfl⟩
 ·intro a w ux7 D hE hM hD hp
  have f7 : ux7 7 = (ptr b1 (0 + 273)) := (hp 0 _ rfl rfl).2
  have hM0 := hM
  have hM : M (Old w0) w0 w [raw b5 (Flat.enc r3.2), raw b1 (cat [[(vI p0.Field)], Flat.enc p0.Box, Flat.enc p0.Mix, Flat.enc p0.Places, [(vI p0.Rounds)]]), opt (D 14) (own NoB (r12 : (Ref (Vector (Vector (Vector UInt8 256) 4) 4))) [(ux7 14)]), opt (D 18) (own NoB (r15 : (Ref (Vector (Vector (Vector UInt8 256) 4) 4))) [(ux7 18)])] := hM
  refine Zp (cs := Flat.enc p0.Places) hE Za (dl rfl) (lk rfl f7) ty101 rfl (At.cat (pre := [[(vI p0.Field)], Flat.enc p0.Box, Flat.enc p0.Mix]) (hM.rawAt (pre := [_])) (cl1 (n := 1) (m := 272) rfl (cl1 (n := 256) (m := 16) (Flat.len _) (cl1 (n := 16) (m := 0) (Flat.len _) cl0)))) (Flat.len _) ?_; intro a hE
  exact ⟨_, _, rfl, hE, rfl, hM0.optKeep rfl⟩
 ·intro a w ux7 D hE hM hD hp
  have f8 : ux7 8 = (Value.agg (Flat.enc p0.Places).toArray) := (hp 0 _ rfl rfl).2
  have hM0 := hM
  refine Zw (vs := [(Value.agg (Flat.enc p0.Places).toArray)]) hE Za (dl rfl) (Z0 (ZZ (lk rfl f8) Xh)) cb109 (c_impl_Places_inverse _ p0.Places r10 e11) ?_
  rintro v w a ⟨rfl, hK⟩ hE
  exact ⟨_, _, rfl, hE, rfl, (hM0.keep hK).optKeep rfl⟩
 ·intro a w ux7 D hE hM hD hp
  have hM0 := hM
  refine Zo hE Za (dl rfl) rfl (fd103_0) ?_; intro a hE
  exact ⟨_, _, rfl, hE, rfl, hM0.optKeep rfl⟩
 ·intro a w ux7 D hE hM hD hp
  have f10 : ux7 10 = (ptr b1 (0 + 0)) := (hp 0 _ rfl rfl).2
  have hM0 := hM
  have hM : M (Old w0) w0 w [raw b5 (Flat.enc r3.2), raw b1 (cat [[(vI p0.Field)], Flat.enc p0.Box, Flat.enc p0.Mix, Flat.enc p0.Places, [(vI p0.Rounds)]]), opt (D 14) (own NoB (r12 : (Ref (Vector (Vector (Vector UInt8 256) 4) 4))) [(ux7 14)]), opt (D 18) (own NoB (r15 : (Ref (Vector (Vector (Vector UInt8 256) 4) 4))) [(ux7 18)])] := hM
  refine Zv (v := (vI p0.Field)) hE Za (dl rfl) (lk rfl f10) ty2 rfl (At.cat (pre := []) (hM.rawAt (pre := [_])) cl0) ?_; intro a hE
  exact ⟨_, _, rfl, hE, rfl, hM0.optKeep rfl⟩
 ·intro a w ux7 D hE hM hD hp
  have hM0 := hM
  refine Zo hE Za (dl rfl) rfl (fd103_2) ?_; intro a hE
  exact ⟨_, _, rfl, hE, rfl, hM0.optKeep rfl⟩
 ·intro a w ux7 D hE hM hD hp
  have f12 : ux7 12 = (ptr b1 (0 + 257)) := (hp 0 _ rfl rfl).2
  have hM0 := hM
  have hM : M (Old w0) w0 w [raw b5 (Flat.enc r3.2), raw b1 (cat [[(vI p0.Field)], Flat.enc p0.Box, Flat.enc p0.Mix, Flat.enc p0.Places, [(vI p0.Rounds)]]), opt (D 14) (own NoB (r12 : (Ref (Vector (Vector (Vector UInt8 256) 4) 4))) [(ux7 14)]), opt (D 18) (own NoB (r15 : (Ref (Vector (Vector (Vector UInt8 256) 4) 4))) [(ux7 18)])] := hM
  refine Zp (cs := Flat.enc p0.Mix) hE Za (dl rfl) (lk rfl f12) Vx rfl (At.cat (pre := [[(vI p0.Field)], Flat.enc p0.Box]) (hM.rawAt (pre := [_])) (cl1 (n := 1) (m := 256) rfl (cl1 (n := 256) (m := 0) (Flat.len _) cl0))) (Flat.len _) ?_; intro a hE
  exact ⟨_, _, rfl, hE, rfl, hM0.optKeep rfl⟩
 ·intro a w ux7 D hE hM hD hp
  have f11 : ux7 11 = (vI p0.Field) := (hp 0 _ rfl rfl).2
  have f13 : ux7 13 = (Value.agg (Flat.enc p0.Mix).toArray) := (hp 1 _ rfl rfl).2
  have hM0 := hM
  have hM : M (Old w0) w0 w [raw b5 (Flat.enc r3.2), raw b1 (cat [[(vI p0.Field)], Flat.enc p0.Box, Flat.enc p0.Mix, Flat.enc p0.Places, [(vI p0.Rounds)]]), opt (D 14) (own NoB (r12 : (Ref (Vector (Vector (Vector UInt8 256) 4) 4))) [(ux7 14)]), opt (D 18) (own NoB (r15 : (Ref (Vector (Vector (Vector UInt8 256) 4) 4))) [(ux7 18)])] := hM
  refine Zw (vs := [(vI p0.Field), (Value.agg (Flat.enc p0.Mix).toArray)]) hE Za (dl rfl) (Z0 (ZZ (lk rfl f11) (ZZ (lk rfl f13) Xh))) cb110 (c_impl_newMixer _ p0.Field p0.Mix r12 e13) ?_
  rintro _ w a ⟨_, rfl, hFr, hK⟩ hE
  have hM := hM0.add hK hFr
  exact ⟨_, _, rfl, hE, trivial, M.optFill (mk1 := []) (mk2 := [_]) (f := (fun v => own NoB (r12 : (Ref (Vector (Vector (Vector UInt8 256) 4) 4))) [v])) hM rfl hD⟩
 ·intro a w ux7 D hE hM hD hp
  have hM0 := hM
  refine Zo hE Za (dl rfl) rfl (fd103_0) ?_; intro a hE
  exact ⟨_, _, rfl, hE, rfl, hM0.optKeep rfl⟩
 ·intro a w ux7 D hE hM hD hp
  have f15 : ux7 15 = (ptr b1 (0 + 0)) := (hp 0 _ rfl rfl).2
  have hM0 := hM
  have hM : M (Old w0) w0 w [raw b5 (Flat.enc r3.2), raw b1 (cat [[(vI p0.Field)], Flat.enc p0.Box, Flat.enc p0.Mix, Flat.enc p0.Places, [(vI p0.Rounds)]]), opt (D 14) (own NoB (r12 : (Ref (Vector (Vector (Vector UInt8 256) 4) 4))) [(ux7 14)]), opt (D 18) (own NoB (r15 : (Ref (Vector (Vector (Vector UInt8 256) 4) 4))) [(ux7 18)])] := hM
  refine Zv (v := (vI p0.Field)) hE Za (dl rfl) (lk rfl f15) ty2 rfl (At.cat (pre := []) (hM.rawAt (pre := [_])) cl0) ?_; intro a hE
  exact ⟨_, _, rfl, hE, rfl, hM0.optKeep rfl⟩
 ·intro a w ux7 D hE hM hD hp
  have hM0 := hM
  have hM : M (Old w0) w0 w [raw b5 (Flat.enc r3.2), raw b1 (cat [[(vI p0.Field)], Flat.enc p0.Box, Flat.enc p0.Mix, Flat.enc p0.Places, [(vI p0.Rounds)]]), opt (D 14) (own NoB (r12 : (Ref (Vector (Vector (Vector UInt8 256) 4) 4))) [(ux7 14)]), opt (D 18) (own NoB (r15 : (Ref (Vector (Vector (Vector UInt8 256) 4) 4))) [(ux7 18)])] := hM
  refine Zp (cs := Flat.enc r3.2) hE Za (dl rfl) rfl Vx rfl (hM.rawAt (pre := [])) (Flat.len _) ?_; intro a hE
  exact ⟨_, _, rfl, hE, rfl, hM0.optKeep rfl⟩
 ·intro a w ux7 D hE hM hD hp
  have f16 : ux7 16 = (vI p0.Field) := (hp 0 _ rfl rfl).2
  have f17 : ux7 17 = (Value.agg (Flat.enc r3.2).toArray) := (hp 1 _ rfl rfl).2
  have hM0 := hM
  have hM : M (Old w0) w0 w [raw b5 (Flat.enc r3.2), raw b1 (cat [[(vI p0.Field)], Flat.enc p0.Box, Flat.enc p0.Mix, Flat.enc p0.Places, [(vI p0.Rounds)]]), opt (D 14) (own NoB (r12 : (Ref (Vector (Vector (Vector UInt8 256) 4) 4))) [(ux7 14)]), opt (D 18) (own NoB (r15 : (Ref (Vector (Vector (Vector UInt8 256) 4) 4))) [(ux7 18)])] := hM
  refine Zw (vs := [(vI p0.Field), (Value.agg (Flat.enc r3.2).toArray)]) hE Za (dl rfl) (Z0 (ZZ (lk rfl f16) (ZZ (lk rfl f17) Xh))) cb110 (c_impl_newMixer _ p0.Field r3.2 r15 e16) ?_
  rintro _ w a ⟨_, rfl, hFr, hK⟩ hE
  have hM := hM0.add hK hFr
  exact ⟨_, _, rfl, hE, trivial, M.optFill (mk1 := [_]) (mk2 := []) (f := (fun v => own NoB (r15 : (Ref (Vector (Vector (Vector UInt8 256) 4) 4))) [v])) hM rfl hD⟩
 ·intro a w ux7 D hE hM hD hp
  have hM0 := hM
  refine Zo hE Za (dl rfl) rfl (fd103_4) ?_; intro a hE
  exact ⟨_, _, rfl, hE, rfl, hM0.optKeep rfl⟩
 ·intro a w ux7 D hE hM hD hp
  have f19 : ux7 19 = (ptr b1 (0 + 289)) := (hp 0 _ rfl rfl).2
  have hM0 := hM
  have hM : M (Old w0) w0 w [raw b5 (Flat.enc r3.2), raw b1 (cat [[(vI p0.Field)], Flat.enc p0.Box, Flat.enc p0.Mix, Flat.enc p0.Places, [(vI p0.Rounds)]]), opt (D 14) (own NoB (r12 : (Ref (Vector (Vector (Vector UInt8 256) 4) 4))) [(ux7 14)]), opt (D 18) (own NoB (r15 : (Ref (Vector (Vector (Vector UInt8 256) 4) 4))) [(ux7 18)])] := hM
  refine Zv (v := (vI p0.Rounds)) hE Za (dl rfl) (lk rfl f19) ty2 rfl (At.cat (pre := [[(vI p0.Field)], Flat.enc p0.Box, Flat.enc p0.Mix, Flat.enc p0.Places]) (hM.rawAt (pre := [_])) (cl1 (n := 1) (m := 288) rfl (cl1 (n := 256) (m := 32) (Flat.len _) (cl1 (n := 16) (m := 16) (Flat.len _) (cl1 (n := 16) (m := 0) (Flat.len _) cl0))))) ?_; intro a hE
  exact ⟨_, _, rfl, hE, rfl, hM0.optKeep rfl⟩
 ·intro a w ux7 hE hM hg
  have f0 : ux7 0 = (ptr b1 (0 + 1)) := hg 0 (by decide)
  have f1 : ux7 1 = (Value.agg (Flat.enc p0.Box).toArray) := hg 1 (by decide)
  have f2 : ux7 2 = (ptr b1 (0 + 1)) := hg 2 (by decide)
  have f3 : ux7 3 = (Value.agg (Flat.enc p0.Box).toArray) := hg 3 (by decide)
  have f4 : ux7 4 = (Value.agg (Flat.enc r8).toArray) := hg 4 (by decide)
  have f5 : ux7 5 = (ptr b1 (0 + 273)) := hg 5 (by decide)
  have f6 : ux7 6 = (Value.agg (Flat.enc p0.Places).toArray) := hg 6 (by decide)
  have f7 : ux7 7 = (ptr b1 (0 + 273)) := hg 7 (by decide)
  have f8 : ux7 8 = (Value.agg (Flat.enc p0.Places).toArray) := hg 8 (by decide)
  have f9 : ux7 9 = (Value.agg (Flat.enc r10).toArray) := hg 9 (by decide)
  have f10 : ux7 10 = (ptr b1 (0 + 0)) := hg 10 (by decide)
  have f11 : ux7 11 = (vI p0.Field) := hg 11 (by decide)
  have f12 : ux7 12 = (ptr b1 (0 + 257)) := hg 12 (by decide)
  have f13 : ux7 13 = (Value.agg (Flat.enc p0.Mix).toArray) := hg 13 (by decide)
  have f15 : ux7 15 = (ptr b1 (0 + 0)) := hg 15 (by decide)
  have f16 : ux7 16 = (vI p0.Field) := hg 16 (by decide)
  have f17 : ux7 17 = (Value.agg (Flat.enc r3.2).toArray) := hg 17 (by decide)
  have f19 : ux7 19 = (ptr b1 (0 + 289)) := hg 19 (by decide)
  have f20 : ux7 20 = (vI p0.Rounds) := hg 20 (by decide)
  have hM : M (Old w0) w0 w [raw b5 (Flat.enc r3.2), raw b1 (cat [[(vI p0.Field)], Flat.enc p0.Box, Flat.enc p0.Mix, Flat.enc p0.Places, [(vI p0.Rounds)]]), own NoB (r12 : (Ref (Vector (Vector (Vector UInt8 256) 4) 4))) [(ux7 14)], own NoB (r15 : (Ref (Vector (Vector (Vector UInt8 256) 4) 4))) [(ux7 18)]] := hM
  have hE := hE.sub (e' := [(13, (ptr b1 (0 + 1))), (14, (Value.agg (Flat.enc p0.Box).toArray)), (15, (ptr b1 (0 + 1))), (16, (Value.agg (Flat.enc p0.Box).toArray)), (17, (Value.agg (Flat.enc r8).toArray)), (18, (ptr b1 (0 + 273))), (19, (Value.agg (Flat.enc p0.Places).toArray)), (20, (ptr b1 (0 + 273))), (21, (Value.agg (Flat.enc p0.Places).toArray)), (22, (Value.agg (Flat.enc r10).toArray)), (23, (ptr b1 (0 + 0))), (24, (vI p0.Field)), (25, (ptr b1 (0 + 257))), (26, (Value.agg (Flat.enc p0.Mix).toArray)), (27, (ux7 14)), (28, (ptr b1 (0 + 0))), (29, (vI p0.Field)), (30, (Value.agg (Flat.enc r3.2).toArray)), (31, (ux7 18)), (32, (ptr b1 (0 + 289))), (33, (vI p0.Rounds)), (0, (Value.agg (Flat.enc p0).toArray)), (1, (ptr b1 0)), (2, (Value.pointer none)), (3, (vB r3.1)), (4, (ptr b5 0)), (5, (Value.tuple [(vB r3.1), (Value.agg (Flat.enc r3.2).toArray)].toArray)), (6, (ptr b1 (0 + 0))), (7, (vI p0.Field)), (8, (ptr b1 (0 + 257))), (9, (Value.agg (Flat.enc p0.Mix).toArray)), (10, (Value.tuple [(vB r3.1), (Value.agg (Flat.enc r3.2).toArray)].toArray)), (11, (vB r3.1)), (12, (Value.agg (Flat.enc r3.2).toArray))]) ⟨lk rfl f0, lk rfl f1, lk rfl f2, lk rfl f3, lk rfl f4, lk rfl f5, lk rfl f6, lk rfl f7, lk rfl f8, lk rfl f9, lk rfl f10, lk rfl f11, lk rfl f12, lk rfl f13, rfl, lk rfl f15, lk rfl f16, lk rfl f17, rfl, lk rfl f19, lk rfl f20, rfl, rfl, rfl, rfl, rfl, rfl, rfl, rfl, rfl, rfl, rfl, rfl, rfl, trivial⟩
  refine s_buildStr (parts := [(0, .tmp 14), (1, .tmp 17), (2, .tmp 19), (3, .tmp 22), (4, .tmp 27), (5, .tmp 31), (6, .tmp 33)]) (vs := [(0, (Value.agg (Flat.enc p0.Box).toArray)), (1, (Value.agg (Flat.enc r8).toArray)), (2, (Value.agg (Flat.enc p0.Places).toArray)), (3, (Value.agg (Flat.enc r10).toArray)), (4, (ux7 14)), (5, (ux7 18)), (6, (vI p0.Rounds))]) (cs := cat [Flat.enc p0.Box, Flat.enc r8, Flat.enc p0.Places, Flat.enc r10, [(ux7 14)], [(ux7 18)], [(vI p0.Rounds)]]) hE Za (dl rfl) rfl rfl ty152 pl152 (Wi (pre := []) (seg := Flat.enc (Vector.replicate 256 (0 : UInt8))) (seg' := Flat.enc p0.Box) (post := [Flat.enc (Vector.replicate 256 (0 : UInt8)), Flat.enc (Vector.replicate 16 (0 : UInt8)), Flat.enc (Vector.replicate 16 (0 : UInt8)), [(Value.pointer none)], [(Value.pointer none)], [(vI 0)]]) rfl cl0 (Flat.len _) (Flat.len _) rfl (Wi (pre := [Flat.enc p0.Box]) (seg := Flat.enc (Vector.replicate 256 (0 : UInt8))) (seg' := Flat.enc r8) (post := [Flat.enc (Vector.replicate 16 (0 : UInt8)), Flat.enc (Vector.replicate 16 (0 : UInt8)), [(Value.pointer none)], [(Value.pointer none)], [(vI 0)]]) rfl (cl1 (n := 256) (m := 0) (Flat.len _) cl0) (Flat.len _) (Flat.len _) rfl (Wi (pre := [Flat.enc p0.Box, Flat.enc r8]) (seg := Flat.enc (Vector.replicate 16 (0 : UInt8))) (seg' := Flat.enc p0.Places) (post := [Flat.enc (Vector.replicate 16 (0 : UInt8)), [(Value.pointer none)], [(Value.pointer none)], [(vI 0)]]) rfl (cl1 (n := 256) (m := 256) (Flat.len _) (cl1 (n := 256) (m := 0) (Flat.len _) cl0)) (Flat.len _) (Flat.len _) rfl (Wi (pre := [Flat.enc p0.Box, Flat.enc r8, Flat.enc p0.Places]) (seg := Flat.enc (Vector.replicate 16 (0 : UInt8))) (seg' := Flat.enc r10) (post := [[(Value.pointer none)], [(Value.pointer none)], [(vI 0)]]) rfl (cl1 (n := 256) (m := 272) (Flat.len _) (cl1 (n := 256) (m := 16) (Flat.len _) (cl1 (n := 16) (m := 0) (Flat.len _) cl0))) (Flat.len _) (Flat.len _) rfl (Wi (pre := [Flat.enc p0.Box, Flat.enc r8, Flat.enc p0.Places, Flat.enc r10]) (seg := [(Value.pointer none)]) (seg' := [(ux7 14)]) (post := [[(Value.pointer none)], [(vI 0)]]) rfl (cl1 (n := 256) (m := 288) (Flat.len _) (cl1 (n := 256) (m := 32) (Flat.len _) (cl1 (n := 16) (m := 16) (Flat.len _) (cl1 (n := 16) (m := 0) (Flat.len _) cl0)))) rfl rfl (ref_cells (hM.ro (pre := [_, _]) noB)) (Wi (pre := [Flat.enc p0.Box, Flat.enc r8, Flat.enc p0.Places, Flat.enc r10, [(ux7 14)]]) (seg := [(Value.pointer none)]) (seg' := [(ux7 18)]) (post := [[(vI 0)]]) rfl (cl1 (n := 256) (m := 289) (Flat.len _) (cl1 (n := 256) (m := 33) (Flat.len _) (cl1 (n := 16) (m := 17) (Flat.len _) (cl1 (n := 16) (m := 1) (Flat.len _) (cl1 (n := 1) (m := 0) rfl cl0))))) rfl rfl (ref_cells (hM.ro (pre := [_, _, _]) noB)) (Wi (pre := [Flat.enc p0.Box, Flat.enc r8, Flat.enc p0.Places, Flat.enc r10, [(ux7 14)], [(ux7 18)]]) (seg := [(vI 0)]) (seg' := [(vI p0.Rounds)]) (post := []) rfl (cl1 (n := 256) (m := 290) (Flat.len _) (cl1 (n := 256) (m := 34) (Flat.len _) (cl1 (n := 16) (m := 18) (Flat.len _) (cl1 (n := 16) (m := 2) (Flat.len _) (cl1 (n := 1) (m := 1) rfl (cl1 (n := 1) (m := 0) rfl cl0)))))) rfl rfl rfl fill_nil))))))) ?_; intro a hE
  refine Z5 (cs := cat [Flat.enc p0.Box, Flat.enc r8, Flat.enc p0.Places, Flat.enc r10, [(ux7 14)], [(ux7 18)], [(vI p0.Rounds)]]) hE hM Za (dl rfl) rfl rfl ?_; intro b18 w a hM hE
  refine Ze hE Za (dl rfl) rfl ?_; intro a hE
  refine Zj (Zx ?_)
  have hM := hM.pull (pre := [_, _, _, _])
  have hM := hM.pull (pre := [_, _, _, _])
  have hM := hM.pack2 (it := own NoB (⟨p0.Box, r8, p0.Places, r10, r12, r15, p0.Rounds⟩ : Gengine) (cat [Flat.enc p0.Box, Flat.enc r8, Flat.enc p0.Places, Flat.enc r10, [(ux7 14)], [(ux7 18)], [(vI p0.Rounds)]])) (Xg noB) (fun f0 f1 q0 q1 => (pk_Gengine q0 q1 (by simp)))
  have hM := hM.pull (pre := [_])
  have hM := hM.pull (pre := [_])
  have hM := hM.pull (pre := [_])
  have hM := M.toRef hM noB
  have hr := Option.some.inj hF
  subst hr
  have hM := M.fst (l := [_]) hM
  exact wp_ret (Zy hE rfl (Zu hE rfl) ⟨_, rfl, (ptr b18 0), rfl, hM.outF (locNO W0), hM.kept⟩)
noncomputable def UJ (p0 : Int) : Option ((Ref Gengine)) :=
 (X5 p0).bind fun r1 => (WX r1).bind fun r3 => some r3
theorem c_impl_house (w0 : World) (p0 : Int) (r : (Ref Gengine)) (hF : UJ p0 = some r) :
  Calls Try.prog 69 [(vI p0)].toArray w0 (fun en w' => ∃ v, en = .returned v ∧ (∃ (y1 : Value), v = y1 ∧ Fr w0 w' [own NoB (r : (Ref Gengine)) [y1]] ∧ Kept (Old w0) w0 w')) := by
 refine ZC (n := 6) Try.func69 rfl rfl (Nat.le_of_ble_eq_true rfl) rfl ?_
 intro a hE
 have hM := M.start w0
 unfold UJ at hF
 refine Zc (Ze hE Za (dl rfl) rfl ?_); intro a hE
 refine Zf (Zc (Zd hE Za (dl rfl) rfl ?_)); intro a hE
 obtain ⟨r1, e2, hF⟩ := bind_some hF
 refine Zw (vs := [(vI p0)]) hE Za (dl rfl) rfl cb90 (c_impl_houseCipher _ p0 r1 e2) ?_
 rintro v w a ⟨rfl, hK⟩ hE
 have hM := hM.keep hK
 obtain ⟨r3, e4, hF⟩ := bind_some hF
 refine Zw (vs := [(Value.agg (Flat.enc r1).toArray)]) hE Za (dl rfl) rfl cb89 (c_impl_newEngine _ r1 r3 e4) ?_
 rintro u5 w a ⟨_, rfl, hFr, hK⟩ hE
 have hM := hM.add hK hFr
 refine Ze hE Za (dl rfl) rfl ?_; intro a hE
 refine Zf ?_
 have hr := Option.some.inj hF
 subst hr
 exact wp_ret (Zy hE rfl (Zu hE rfl) ⟨_, rfl, u5, rfl, hM.outF (locNO W0), hM.kept⟩)
noncomputable def VV : Option (Ghasher) :=
 (UJ 8).bind fun r3 => some (⟨r3⟩ : Ghasher)
theorem c_impl_newHasher (w0 : World)  (r : Ghasher) (hF : VV  = some r) :
  Calls Try.prog 97 [].toArray w0 (fun en w' => ∃ v, en = .returned v ∧ (∃ (y1 : Value), v = (Value.agg (cat [[y1]]).toArray) ∧ Fr w0 w' [own NoB (r.engine : (Ref Gengine)) [y1]] ∧ Kept (Old w0) w0 w')) := by
 refine ZC (n := 3) Try.func97 rfl rfl (Nat.le_of_ble_eq_true rfl) rfl ?_
 intro a hE
 have hM := M.start w0
 unfold VV at hF
 refine Zc (ZO hE hM Za (dl rfl) ty132 ?_); intro b1 w a hM hE
 refine Zf (Zc ?_)
 obtain ⟨r3, e4, hF⟩ := bind_some hF
 refine Zw (vs := [(vI 8)]) hE Za (dl rfl) rfl cb69 (c_impl_house _ 8 r3 e4) ?_
 rintro u5 w a ⟨_, rfl, hFr, hK⟩ hE
 have hM := hM.add hK hFr
 refine s_buildStr (parts := [(0, .tmp 1)]) (vs := [(0, u5)]) (cs := cat [[u5]]) hE Za (dl rfl) rfl rfl ty132 pl132 (Wi (pre := []) (seg := [(Value.pointer none)]) (seg' := [u5]) (post := []) rfl cl0 rfl rfl (ref_cells (hM.ro (pre := []) noB)) fill_nil) ?_; intro a hE
 have hM := hM.pull (pre := [_])
 refine Zs (seg := cat [[u5]]) (cs' := cat [[u5]]) hE hM Za rfl rfl rfl ty132 (ZR (cl1 (n := 1) (m := 0) rfl cl0)) (Nat.le_of_eq ((Nat.zero_add _).trans (Eq.trans (ZR (cl1 (n := 1) (m := 0) rfl cl0)) (Eq.symm (ZR (cl1 (n := 1) (m := 0) rfl cl0)))))) (cat_cell (cc1 (Rep.cell (hM.ro (pre := [_]) noB)) cc0)) (Zq (Eq.trans (ZR (cl1 (n := 1) (m := 0) rfl cl0)) (Eq.symm (ZR (cl1 (n := 1) (m := 0) rfl cl0))))) ?_; intro w a hM hE
 refine Zf ?_
 have hr := Option.some.inj hF
 subst hr
 have hq6 : YR Try.prog _ _ (.cell 0 132) _ := Z7 hE rfl ty132 rfl (hM.rawAt (pre := [])) (ZR (cl1 (n := 1) (m := 0) rfl cl0)) rfl
 have hM := hM.pull (pre := [_])
 have hM := M.fst (l := [_]) hM
 exact wp_ret (Zy hE rfl hq6 ⟨_, rfl, u5, rfl, hM.outF (locNO W0), hM.kept⟩)
noncomputable def Uj (p0 : (List UInt8)) (p1 : (List UInt8)) : Option (Int) :=
 some (V7 p0 p1)
theorem c_bytes_Compare (w0 : World) (p0 : (List UInt8)) (v0_1 : Value) (hv0_1 : Ro w0 p0 [v0_1]) (p1 : (List UInt8)) (v1_1 : Value) (hv1_1 : Ro w0 p1 [v1_1]) (r : Int) (hF : Uj p0 p1 = some r) :
  Calls Try.prog 99 [v0_1, v1_1].toArray w0 (fun en w' => ∃ v, en = .returned v ∧ (v = (vI r) ∧ Kept (Old w0) w0 w')) := by
 refine ZC (n := 8) Try.func99 rfl rfl (Nat.le_of_ble_eq_true rfl) rfl ?_
 intro a hE
 have hM := M.start w0
 unfold Uj at hF
 refine Zc (Ze hE Za (dl rfl) rfl ?_); intro a hE
 refine Zf (Zc (Zd hE Za (dl rfl) rfl ?_)); intro a hE
 refine Zd hE Za (dl rfl) rfl ?_; intro a hE
 refine s_bytesCompare (xs := [.tmp 5, .tmp 6]) hE Za (dl rfl) rfl Try.func118 rfl (by decide) (by kernel_rfl) (by kernel_rfl) (hM.rd hv0_1) (hM.rd hv1_1) ?_; intro a hE
 refine Ze hE Za (dl rfl) rfl ?_; intro a hE
 refine Zf ?_
 have hr := Option.some.inj hF
 subst hr
 exact wp_ret (Zy hE rfl (Zu hE rfl) ⟨_, rfl, rfl, hM.kept⟩)
noncomputable def ZX (p0 : (Vector UInt8 32)) (p1 : (Vector UInt8 32)) : Option (Int) :=
 ((slc p0.toList (0 : Int) (32 : Int)).bind fun l9 => (slc p1.toList (0 : Int) (32 : Int)).bind fun l12 => (Uj l9 l12).bind fun r15 => some r15 : Option (Int)).bind fun j5 => some j5
theorem c_impl_Digest_compare (w0 : World) (p0 : (Vector UInt8 32)) (p1 : (Vector UInt8 32)) (r : Int) (hF : ZX p0 p1 = some r) :
  Calls Try.prog 81 [(Value.agg (Flat.enc p0).toArray), (Value.agg (Flat.enc p1).toArray)].toArray w0 (fun en w' => ∃ v, en = .returned v ∧ (v = (vI r) ∧ Kept (Old w0) w0 w')) := by
 refine ZC (n := 8) Try.func81 rfl rfl (Nat.le_of_ble_eq_true rfl) rfl ?_
 intro a hE
 have hM := M.start w0
 unfold ZX at hF
 refine Zc (Z5 (cs := Flat.enc p0) hE hM Za (dl rfl) rfl rfl ?_); intro b1 w a hM hE
 refine Z5 (cs := Flat.enc p1) hE hM Za (dl rfl) rfl rfl ?_; intro b3 w a hM hE
 refine Ze hE Za (dl rfl) rfl ?_; intro a hE
 refine Zf ?_
 obtain ⟨j5, hl6, hF7⟩ := bind_some hF
 refine ZS (fun a w => Env 8 a [(4, (vI j5))] ∧ M (Old w0) w0 w []) ?_ ?_
 ·skip
  obtain ⟨l9, e10, hl6⟩ := bind_some hl6
  have hb11 := slc_arr e10 -- ^
  obtain ⟨l12, e13, hl6⟩ := bind_some hl6
  have hb14 := slc_arr e13 -- ^
  obtain ⟨r15, e16, hl6⟩ := bind_some hl6
  refine Ye (n := 8) (hd := [_, _, _, _]) (tl := []) YB rfl rfl [5, 6, 7, 4] (by decide) (fun w => M (Old w0) w0 w [raw b3 (Flat.enc p1), raw b1 (Flat.enc p0)]) (fun j => ([fun v _ => v = (ZU (.slice (some ⟨b1, 0, none⟩) 32 32) ((0 : Int)).toNat ((32 : Int)).toNat 1), fun v _ => v = (ZU (.slice (some ⟨b3, 0, none⟩) 32 32) ((0 : Int)).toNat ((32 : Int)).toNat 1), fun v _ => v = (vI r15), fun v _ => v = (vI r15)] : List (Value → World → Prop)).getD j (fun _ _ => True)) (fun _ _ h hk => h.keep hk) (gup (Zg (Zg (Zg (Zg Ww))))) hE hM.drew (ZH (Zb ?_ (Zb ?_ (Zb ?_ (Zb ?_ ZD))))) ?_
  ·intro a w ux8 hE hM hp
   refine Uk (N := 32) hE Za (dl rfl) rfl rfl rfl rfl rfl Try.underlying25 ty5 hb11 ?_; intro a hE
   exact ⟨Kept.refl _ _, _, _, rfl, hE, rfl⟩
  ·intro a w ux8 hE hM hp
   refine Uk (N := 32) hE Za (dl rfl) rfl rfl rfl rfl rfl Try.underlying25 ty5 hb14 ?_; intro a hE
   exact ⟨Kept.refl _ _, _, _, rfl, hE, rfl⟩
  ·intro a w ux8 hE hM hp
   have f0 : ux8 0 = (ZU (.slice (some ⟨b1, 0, none⟩) 32 32) ((0 : Int)).toNat ((32 : Int)).toNat 1) := hp 0 _ rfl rfl
   have f1 : ux8 1 = (ZU (.slice (some ⟨b3, 0, none⟩) 32 32) ((0 : Int)).toNat ((32 : Int)).toNat 1) := hp 1 _ rfl rfl
   refine Zw (vs := [(ZU (.slice (some ⟨b1, 0, none⟩) 32 32) ((0 : Int)).toNat ((32 : Int)).toNat 1), (ZU (.slice (some ⟨b3, 0, none⟩) 32 32) ((0 : Int)).toNat ((32 : Int)).toNat 1)]) hE Za (dl rfl) (Z0 (ZZ (lk rfl f0) (ZZ (lk rfl f1) Xh))) cb99 (c_bytes_Compare _ l9 (ZU (.slice (some ⟨b1, 0, none⟩) 32 32) ((0 : Int)).toNat ((32 : Int)).toNat 1) (VP (At.sat (hM.rawAt (pre := [_])) (by simp) (by decide)) e10) l12 (ZU (.slice (some ⟨b3, 0, none⟩) 32 32) ((0 : Int)).toNat ((32 : Int)).toNat 1) (VP (At.sat (hM.rawAt (pre := [])) (by simp) (by decide)) e13) r15 e16) ?_
   rintro v w a ⟨rfl, hK⟩ hE
   exact ⟨hK, _, _, rfl, hE, rfl⟩
  ·intro a w ux8 hE hM hp
   have f2 : ux8 2 = (vI r15) := hp 0 _ rfl rfl
   refine Ze hE Za (dl rfl) (lk rfl f2) ?_; intro a hE
   exact ⟨Kept.refl _ _, _, _, rfl, hE, rfl⟩
  ·intro a w ux8 hE hM hg
   have f0 : ux8 0 = (ZU (.slice (some ⟨b1, 0, none⟩) 32 32) ((0 : Int)).toNat ((32 : Int)).toNat 1) := hg 0 (by decide)
   have f1 : ux8 1 = (ZU (.slice (some ⟨b3, 0, none⟩) 32 32) ((0 : Int)).toNat ((32 : Int)).toNat 1) := hg 1 (by decide)
   have f2 : ux8 2 = (vI r15) := hg 2 (by decide)
   have f3 : ux8 3 = (vI r15) := hg 3 (by decide)
   have hE := hE.sub (e' := [(5, (ZU (.slice (some ⟨b1, 0, none⟩) 32 32) ((0 : Int)).toNat ((32 : Int)).toNat 1)), (6, (ZU (.slice (some ⟨b3, 0, none⟩) 32 32) ((0 : Int)).toNat ((32 : Int)).toNat 1)), (7, (vI r15)), (4, (vI r15)), (0, (Value.agg (Flat.enc p0).toArray)), (1, (Value.agg (Flat.enc p1).toArray)), (2, (ptr b1 0)), (3, (ptr b3 0))]) ⟨lk rfl f0, lk rfl f1, lk rfl f2, lk rfl f3, rfl, rfl, rfl, rfl, trivial⟩
   refine Zj ?_
   have ht17 := Option.some.inj hl6
   subst ht17
   refine Zl ?_
   have hM := M.fst (l := []) hM
   exact ⟨hE.sub ⟨rfl, trivial⟩, hM⟩
 ·skip
  rintro a w ⟨hE, hM⟩
  have hr := Option.some.inj hF7
  subst hr
  exact wp_ret (Zy hE rfl (Zu hE rfl) ⟨_, rfl, rfl, hM.kept⟩)
noncomputable def L0_impl_ascends (p0 : (List (Vector UInt8 32))) (s5 : Int) : Option (Fl Int (Fl Unit Bool)) :=
 if (decide (s5 < (p0.length : Int))) = true then (((idx p0 (wr (s5 - 1))).bind fun x14 => (idx p0 s5).bind fun x17 => (ZX x14 x17).bind fun r20 => some (decide (r20 ≥ 0)) : Option (Bool)).bind fun j10 => if j10 = true then (some (Fl.ex (Fl.ex false))) else (some (Fl.nx (wr (s5 + 1))))) else (some (Fl.ex (Fl.nx ())))
noncomputable def VK (p0 : (List (Vector UInt8 32))) : Option (Bool) :=
 (ZG (L0_impl_ascends p0) 1 : Option (Fl Unit Bool)).bind fun j1 => j1.el (fun s4 => some true) (fun r => some r)
theorem c_impl_ascends (w0 : World) (p0 : (List (Vector UInt8 32))) (v0_1 : Value) (hv0_1 : Ro w0 p0 [v0_1]) (r : Bool) (hF : VK p0 = some r) :
  Calls Try.prog 116 [v0_1].toArray w0 (fun en w' => ∃ v, en = .returned v ∧ (v = (vT r) ∧ Kept (Old w0) w0 w')) := by
 refine ZC (n := 21) Try.func116 rfl rfl (Nat.le_of_ble_eq_true rfl) rfl ?_
 intro a hE
 have hM := M.start w0
 unfold VK at hF
 refine Zc (Ze hE Za (dl rfl) rfl ?_); intro a hE
 refine Zf (wp_seq (Zc (Ze hE Za (dl rfl) rfl ?_))); intro a hE
 refine Zf ?_
 obtain ⟨j1, hl2, hF3⟩ := bind_some hF
 refine ZW (fun a w => ∃ s4 : Unit, j1 = Fl.nx s4 ∧ Env 21 a [] ∧ M (Old w0) w0 w []) ?_ ?_
 ·skip
  refine wp_block ?_
  refine ZM (fun (s5 : Int) a w => Env 21 a [(0, v0_1), (3, (vI s5))] ∧ M (Old w0) w0 w []) hl2 ⟨hE.sub ⟨rfl, rfl, trivial⟩, hM⟩ ?_
  rintro s5 a w ⟨hE, hM⟩ o8 hs6 hx7
  unfold L0_impl_ascends at hs6
  refine wp_seq (Zc (Zd hE Za (dl rfl) rfl ?_)); intro a hE
  refine Zd hE Za (dl rfl) rfl ?_; intro a hE
  refine Z8 hE Za (dl rfl) rfl Try.underlying53 (hM.rd hv0_1) ?_; intro a hE
  refine Zh hE Za (dl rfl) rfl rfl rfl ?_; intro a hE
  refine Zf ?_
  refine Zt hE rfl ?_ ?_
  ·intro hb9
   have hs6 := Zz hs6 hb9
   refine wp_skip (Zx (wp_seq (wp_block ?_)))
   obtain ⟨j10, hl11, hF12⟩ := bind_some hs6
   refine ZS (fun a w => Env 21 a [(0, v0_1), (3, (vI s5)), (20, (vT j10))] ∧ M (Old w0) w0 w []) ?_ ?_
   ·skip
    obtain ⟨x14, e15, hl11⟩ := bind_some hl11
    have hi16 := ZQ e15
    obtain ⟨x17, e18, hl11⟩ := bind_some hl11
    have hi19 := ZQ e18
    obtain ⟨r20, e21, hl11⟩ := bind_some hl11
    refine Ye (n := 21) (hd := [_, _, _, _, _, _, _, _, _, _, _]) (tl := []) YB rfl rfl [10, 11, 12, 13, 14, 15, 16, 17, 18, 19, 20] (by decide) (fun w => M (Old w0) w0 w []) (fun j => ([fun v _ => v = v0_1, fun v _ => v = (vI s5), fun v _ => v = (vI (wr (s5 - 1))), fun v _ => v = (ptr (sb v0_1) (so v0_1 + ((wr (s5 - 1))).toNat * 32)), fun v _ => v = (Value.agg (Flat.enc x14).toArray), fun v _ => v = v0_1, fun v _ => v = (vI s5), fun v _ => v = (ptr (sb v0_1) (so v0_1 + (s5).toNat * 32)), fun v _ => v = (Value.agg (Flat.enc x17).toArray), fun v _ => v = (vI r20), fun v _ => v = (vT (decide (r20 ≥ 0)))] : List (Value → World → Prop)).getD j (fun _ _ => True)) (fun _ _ h hk => h.keep hk) (gup (Zg (Zg (Zg (Zg (Zg (Zg (Zg (Zg (Zg (Zg (Zg Ww)))))))))))) hE hM.drew (ZH (Zb ?_ (Zb ?_ (Zb ?_ (Zb ?_ (Zb ?_ (Zb ?_ (Zb ?_ (Zb ?_ (Zb ?_ (Zb ?_ (Zb ?_ ZD)))))))))))) ?_
    ·intro a w ux13 hE hM hp
     refine Zd hE Za (dl rfl) rfl ?_; intro a hE
     exact ⟨Kept.refl _ _, _, _, rfl, hE, rfl⟩
    ·intro a w ux13 hE hM hp
     refine Zd hE Za (dl rfl) rfl ?_; intro a hE
     exact ⟨Kept.refl _ _, _, _, rfl, hE, rfl⟩
    ·intro a w ux13 hE hM hp
     have f1 : ux13 1 = (vI s5) := hp 0 _ rfl rfl
     refine Zh hE Za (dl rfl) (lk rfl f1) rfl rfl ?_; intro a hE
     exact ⟨Kept.refl _ _, _, _, rfl, hE, rfl⟩
    ·intro a w ux13 hE hM hp
     have f0 : ux13 0 = v0_1 := hp 0 _ rfl rfl
     have f2 : ux13 2 = (vI (wr (s5 - 1))) := hp 1 _ rfl rfl
     refine ZK hE Za (dl rfl) (lk rfl f0) (lk rfl f2) Try.underlying53 Yi (hM.rd hv0_1) hi16.1 ?_; intro a hE
     exact ⟨Kept.refl _ _, _, _, rfl, hE, rfl⟩
    ·intro a w ux13 hE hM hp
     have f3 : ux13 3 = (ptr (sb v0_1) (so v0_1 + ((wr (s5 - 1))).toNat * 32)) := hp 0 _ rfl rfl
     refine Zp (cs := Flat.enc x14) hE Za (dl rfl) (lk rfl f3) Yi rfl (Yr (hM.rd hv0_1) hi16.2) (Flat.len _) ?_; intro a hE
     exact ⟨Kept.refl _ _, _, _, rfl, hE, rfl⟩
    ·intro a w ux13 hE hM hp
     refine Zd hE Za (dl rfl) rfl ?_; intro a hE
     exact ⟨Kept.refl _ _, _, _, rfl, hE, rfl⟩
    ·intro a w ux13 hE hM hp
     refine Zd hE Za (dl rfl) rfl ?_; intro a hE
     exact ⟨Kept.refl _ _, _, _, rfl, hE, rfl⟩
    ·intro a w ux13 hE hM hp
     have f5 : ux13 5 = v0_1 := hp 0 _ rfl rfl
     have f6 : ux13 6 = (vI s5) := hp 1 _ rfl rfl
     refine ZK hE Za (dl rfl) (lk rfl f5) (lk rfl f6) Try.underlying53 Yi (hM.rd hv0_1) hi19.1 ?_; intro a hE
     exact ⟨Kept.refl _ _, _, _, rfl, hE, rfl⟩
    ·intro a w ux13 hE hM hp
     have f7 : ux13 7 = (ptr (sb v0_1) (so v0_1 + (s5).toNat * 32)) := hp 0 _ rfl rfl
     refine Zp (cs := Flat.enc x17) hE Za (dl rfl) (lk rfl f7) Yi rfl (Yr (hM.rd hv0_1) hi19.2) (Flat.len _) ?_; intro a hE
     exact ⟨Kept.refl _ _, _, _, rfl, hE, rfl⟩
    ·intro a w ux13 hE hM hp
     have f4 : ux13 4 = (Value.agg (Flat.enc x14).toArray) := hp 0 _ rfl rfl
     have f8 : ux13 8 = (Value.agg (Flat.enc x17).toArray) := hp 1 _ rfl rfl
     refine Zw (vs := [(Value.agg (Flat.enc x14).toArray), (Value.agg (Flat.enc x17).toArray)]) hE Za (dl rfl) (Z0 (ZZ (lk rfl f4) (ZZ (lk rfl f8) Xh))) cb81 (c_impl_Digest_compare _ x14 x17 r20 e21) ?_
     rintro v w a ⟨rfl, hK⟩ hE
     exact ⟨hK, _, _, rfl, hE, rfl⟩
    ·intro a w ux13 hE hM hp
     have f9 : ux13 9 = (vI r20) := hp 0 _ rfl rfl
     refine Zh hE Za (dl rfl) (lk rfl f9) rfl rfl ?_; intro a hE
     exact ⟨Kept.refl _ _, _, _, rfl, hE, rfl⟩
    ·intro a w ux13 hE hM hg
     have f0 : ux13 0 = v0_1 := hg 0 (by decide)
     have f1 : ux13 1 = (vI s5) := hg 1 (by decide)
     have f2 : ux13 2 = (vI (wr (s5 - 1))) := hg 2 (by decide)
     have f3 : ux13 3 = (ptr (sb v0_1) (so v0_1 + ((wr (s5 - 1))).toNat * 32)) := hg 3 (by decide)
     have f4 : ux13 4 = (Value.agg (Flat.enc x14).toArray) := hg 4 (by decide)
     have f5 : ux13 5 = v0_1 := hg 5 (by decide)
     have f6 : ux13 6 = (vI s5) := hg 6 (by decide)
     have f7 : ux13 7 = (ptr (sb v0_1) (so v0_1 + (s5).toNat * 32)) := hg 7 (by decide)
     have f8 : ux13 8 = (Value.agg (Flat.enc x17).toArray) := hg 8 (by decide)
     have f9 : ux13 9 = (vI r20) := hg 9 (by decide)
     have f10 : ux13 10 = (vT (decide (r20 ≥ 0))) := hg 10 (by decide)
     have hE := hE.sub (e' := [(10, v0_1), (11, (vI s5)), (12, (vI (wr (s5 - 1)))), (13, (ptr (sb v0_1) (so v0_1 + ((wr (s5 - 1))).toNat * 32))), (14, (Value.agg (Flat.enc x14).toArray)), (15, v0_1), (16, (vI s5)), (17, (ptr (sb v0_1) (so v0_1 + (s5).toNat * 32))), (18, (Value.agg (Flat.enc x17).toArray)), (19, (vI r20)), (20, (vT (decide (r20 ≥ 0)))), (0, v0_1), (3, (vI s5)), (4, (vI s5)), (5, v0_1), (6, (vI (p0.length : Int))), (7, (vT (decide (s5 < (p0.length : Int)))))]) ⟨lk rfl f0, lk rfl f1, lk rfl f2, lk rfl f3, lk rfl f4, lk rfl f5, lk rfl f6, lk rfl f7, lk rfl f8, lk rfl f9, lk rfl f10, rfl, rfl, rfl, rfl, rfl, rfl, trivial⟩
     refine Zj ?_
     have ht22 := Option.some.inj hl11
     subst ht22
     refine Zl ?_
     exact ⟨hE.sub ⟨rfl, rfl, rfl, trivial⟩, hM⟩
   ·skip
    rintro a w ⟨hE, hM⟩
    refine Zt hE rfl ?_ ?_
    ·intro hb23
     have hF12 := Zz hF12 hb23
     refine Zc (Ze hE Za (dl rfl) rfl ?_); intro a hE
     refine Zf ?_
     have ht24 := hx7 _ (Option.some.inj hF12).symm
     subst ht24
     have hr := Option.some.inj hF3
     subst hr
     exact wp_ret (WZ (ZL (ZL (WZ (ZL (ZL (Zy hE rfl (Zu hE rfl) ⟨_, rfl, rfl, hM.kept⟩)))))))
    ·intro hb23
     have hF12 := ZA hF12 hb23
     refine wp_skip (Yj (Zx (wp_region_lit (Zd hE Za (dl rfl) rfl ?_)))); intro a hE
     refine Zh hE Za (dl rfl) rfl rfl rfl ?_; intro a hE
     refine Ze hE Za (dl rfl) rfl ?_; intro a hE
     refine Zj (Zl ?_)
     exact ⟨_, (Option.some.inj hF12).symm, hE.sub ⟨rfl, rfl, trivial⟩, hM⟩
  ·intro hb9
   have hs6 := ZA hs6 hb9
   refine wp_exit (Zr (Zr (Yk ?_)))
   have ht25 := hx7 _ (Option.some.inj hs6).symm
   subst ht25
   refine Zl ?_
   exact ⟨(), rfl, hE.sub trivial, hM⟩
 ·skip
  rintro a w ⟨s4, ht, hE, hM⟩
  subst ht
  have hF3 := el_nx hF3
  refine Zx (Zc (Ze hE Za (dl rfl) rfl ?_)); intro a hE
  refine Zf ?_
  have hr := Option.some.inj hF3
  subst hr
  exact wp_ret (Zy hE rfl (Zu hE rfl) ⟨_, rfl, rfl, hM.kept⟩)
noncomputable def F_impl_isData (p0 : (List UInt8)) : Option (Bool) :=
 some (decide ((p0.length : Int) ≤ 2000))
theorem c_impl_isData (w0 : World) (p0 : (List UInt8)) (v0_1 : Value) (hv0_1 : Ro w0 p0 [v0_1]) (r : Bool) (hF : F_impl_isData p0 = some r) :
  Calls Try.prog 117 [v0_1].toArray w0 (fun en w' => ∃ v, en = .returned v ∧ (v = (vT r) ∧ Kept (Old w0) w0 w')) := by
 refine ZC (n := 6) Try.func117 rfl rfl (Nat.le_of_ble_eq_true rfl) rfl ?_
 intro a hE
 have hM := M.start w0
 unfold F_impl_isData at hF
 refine Zc (Ze hE Za (dl rfl) rfl ?_); intro a hE
 refine Zf (Zc (Zd hE Za (dl rfl) rfl ?_)); intro a hE
 refine Z8 hE Za (dl rfl) rfl Try.underlying50 (hM.rd hv0_1) ?_; intro a hE
 refine Zh hE Za (dl rfl) rfl rfl rfl ?_; intro a hE
 refine Ze hE Za (dl rfl) rfl ?_; intro a hE
 refine Zf ?_
 have hr := Option.some.inj hF
 subst hr
 exact wp_ret (Zy hE rfl (Zu hE rfl) ⟨_, rfl, rfl, hM.kept⟩)
noncomputable def VD (p0 : Int) (p1 : Int) (p2 : Int) : Option (Bool) :=
 (if (decide (p1 ≤ p0)) = true then (some (decide (p0 ≤ p2))) else (some false) : Option (Bool)).bind fun j1 => some j1
theorem c_impl_inRange (w0 : World) (p0 : Int) (p1 : Int) (p2 : Int) (r : Bool) (hF : VD p0 p1 p2 = some r) :
  Calls Try.prog 67 [(vI p0), (vI p1), (vI p2)].toArray w0 (fun en w' => ∃ v, en = .returned v ∧ (v = (vT r) ∧ Kept (Old w0) w0 w')) := by
 refine ZC (n := 15) Try.func67 rfl rfl (Nat.le_of_ble_eq_true rfl) rfl ?_
 intro a hE
 have hM := M.start w0
 unfold VD at hF
 refine Zc (Ze hE Za (dl rfl) rfl ?_); intro a hE
 refine Zf ?_
 obtain ⟨j1, hl2, hF3⟩ := bind_some hF
 refine ZS (fun a w => Env 15 a [(6, (vT j1))] ∧ M (Old w0) w0 w []) ?_ ?_
 ·skip
  refine wp_region_lit (Zd hE Za (dl rfl) rfl ?_); intro a hE
  refine Zd hE Za (dl rfl) rfl ?_; intro a hE
  refine Zh hE Za (dl rfl) rfl rfl rfl ?_; intro a hE
  refine Zd hE Za (dl rfl) rfl ?_; intro a hE
  refine WV (decide (p1 ≤ p0)) (fun hb4 => ?_) (fun hb4 => ?_)
  ·have hl2 := Zz hl2 hb4
   refine Zd hE (Zk hE rfl (lkb rfl hb4)) (by decide) rfl ?_; intro a hE
   refine Zd hE (Zk hE rfl (lkb rfl hb4)) (by decide) rfl ?_; intro a hE
   refine Zh hE (Zk hE rfl (lkb rfl hb4)) (by decide) rfl rfl rfl ?_; intro a hE
   refine Yn hE Za (dl rfl) (lkb rfl hb4) rfl ?_; intro a hE
   refine Ze hE Za (dl rfl) rfl ?_; intro a hE
   refine Zj ?_
   have ht5 := Option.some.inj hl2
   subst ht5
   refine Zl ?_
   exact ⟨hE.sub ⟨rfl, trivial⟩, hM⟩
  ·have hl2 := ZA hl2 hb4
   refine Zn hE rfl (lkb rfl hb4) rfl (by decide) ?_; intro a hE
   refine Zn hE rfl (lkb rfl hb4) rfl (by decide) ?_; intro a hE
   refine Zn hE rfl (lkb rfl hb4) rfl (by decide) ?_; intro a hE
   refine YQ hE Za (dl rfl) (lkb rfl hb4) rfl ?_; intro a hE
   refine Ze hE Za (dl rfl) rfl ?_; intro a hE
   refine Zj ?_
   have ht6 := Option.some.inj hl2
   subst ht6
   refine Zl ?_
   exact ⟨hE.sub ⟨rfl, trivial⟩, hM⟩
 ·skip
  rintro a w ⟨hE, hM⟩
  have hr := Option.some.inj hF3
  subst hr
  exact wp_ret (Zy hE rfl (Zu hE rfl) ⟨_, rfl, rfl, hM.kept⟩)
noncomputable def YF (s8 : (Vector UInt8 32) × Int) : Option (Fl ((Vector UInt8 32) × Int) (Vector UInt8 32)) :=
 if (decide (s8.2 < 32)) = true then ((ZN s8.1 s8.2).bind fun x14 => some (Fl.nx ((s8.1.setIfInBounds (s8.2).toNat (ZE (wr (17 * s8.2)))), wr (s8.2 + 1)))) else (some (Fl.ex s8.1))
noncomputable def Xr : Option ((Vector UInt8 32)) :=
 (ZG (YF) ((Vector.replicate 32 (0 : UInt8)), 0) : Option ((Vector UInt8 32))).bind fun j5 => some j5
theorem c_impl_StartOfDigest (w0 : World)  (r : (Vector UInt8 32)) (hF : Xr  = some r) :
  Calls Try.prog 91 [].toArray w0 (fun en w' => ∃ v, en = .returned v ∧ (v = (Value.agg (Flat.enc r).toArray) ∧ Kept (Old w0) w0 w')) := by
 refine ZC (n := 14) Try.func91 rfl rfl (Nat.le_of_ble_eq_true rfl) rfl ?_
 intro a hE
 have hM := M.start w0
 unfold Xr at hF
 refine Zc (ZO hE hM Za (dl rfl) Yi ?_); intro b1 w a hM hE
 refine Zf (Zc (Xm (parts := []) (vs := []) (cs := Flat.enc (Vector.replicate 32 (0 : UInt8))) hE Za (dl rfl) rfl rfl Yi rfl ty5 YO ?_)); intro a hE
 refine ZO hE hM Za (dl rfl) Yi ?_; intro b3 w a hM hE
 refine Zs (seg := Flat.enc (Vector.replicate 32 (0 : UInt8))) (cs' := Flat.enc (Vector.replicate 32 (0 : UInt8))) hE hM Za rfl rfl rfl Yi (Flat.len _) (zle flq) (Flat.cell _) (Zq flq) ?_; intro w a hM hE
 refine Zf (wp_seq (Zc (Zd hE Za (dl rfl) rfl ?_))); intro a hE
 refine Zf ?_
 obtain ⟨j5, hl6, hF7⟩ := bind_some hF
 refine ZW (fun a w => Env 14 a [(0, (ptr b1 0)), (1, (ptr b3 0))] ∧ M (Old w0) w0 w [raw b3 (Flat.enc j5), raw b1 (Flat.enc (Vector.replicate 32 (0 : UInt8)))]) ?_ ?_
 ·skip
  refine wp_block ?_
  refine ZM (fun (s8 : (Vector UInt8 32) × Int) a w => Env 14 a [(0, (ptr b1 0)), (1, (ptr b3 0)), (4, (vI s8.2))] ∧ M (Old w0) w0 w [raw b3 (Flat.enc s8.1), raw b1 (Flat.enc (Vector.replicate 32 (0 : UInt8)))]) hl6 ⟨hE.sub ⟨rfl, rfl, rfl, trivial⟩, hM⟩ ?_
  rintro s8 a w ⟨hE, hM⟩ o11 hs9 hx10
  unfold YF at hs9
  refine Zc (Zh hE Za (dl rfl) rfl rfl rfl ?_); intro a hE
  refine Zf (wp_seq ?_)
  refine Zt hE rfl ?_ ?_
  ·intro hb12
   have hs9 := Zz hs9 hb12
   refine wp_skip (Zx (wp_seq (wp_block (Zc (Zd hE Za (dl rfl) rfl ?_))))); intro a hE
   refine Ze hE Za (dl rfl) rfl ?_; intro a hE
   refine Zf (wp_region_lit (Zd hE Za (dl rfl) rfl ?_)); intro a hE
   refine Zd hE Za (dl rfl) rfl ?_; intro a hE
   refine Zh hE Za (dl rfl) rfl rfl rfl ?_; intro a hE
   refine YI hE Za (dl rfl) rfl Try.underlying3 Try.underlying5 ?_; intro a hE
   rw [Yh] at hE
   obtain ⟨x14, e15, hs9⟩ := bind_some hs9
   have hi13 := Zi e15
   refine Zm hE Za (dl rfl) rfl rfl Try.underlying25 ty5 hi13.1 ?_; intro a hE
   refine Zs (seg := [(vB (ZE (wr (17 * s8.2))))]) (cs' := Flat.enc (s8.1.setIfInBounds (s8.2).toNat (ZE (wr (17 * s8.2))))) hE hM Za rfl rfl rfl ty5 rfl (ZT (v := s8.1) (x := ZE (wr (17 * s8.2))) hi13.1) (Flat.cell (ZE (wr (17 * s8.2)) : UInt8)) (ZI (v := s8.1) (x := ZE (wr (17 * s8.2))) hi13.1) ?_; intro w a hM hE
   refine Zj (Yj (Zx (wp_region_lit (Zh hE Za (dl rfl) rfl rfl rfl ?_)))); intro a hE
   refine Zd hE Za (dl rfl) rfl ?_; intro a hE
   refine Zj (Zl ?_)
   exact ⟨_, (Option.some.inj hs9).symm, hE.sub ⟨rfl, rfl, rfl, trivial⟩, hM⟩
  ·intro hb12
   have hs9 := ZA hs9 hb12
   refine wp_exit (Zr (Zr (Yk ?_)))
   have ht16 := hx10 _ (Option.some.inj hs9).symm
   subst ht16
   refine Zl ?_
   exact ⟨hE.sub ⟨rfl, rfl, trivial⟩, hM⟩
 ·skip
  rintro a w ⟨hE, hM⟩
  refine Zx (Zc (Zp (cs := Flat.enc j5) hE Za (dl rfl) rfl Yi rfl (hM.rawAt (pre := [])) (Flat.len _) ?_)); intro a hE
  have hM := hM.pull (pre := [_])
  refine Zs (seg := Flat.enc j5) (cs' := Flat.enc j5) hE hM Za rfl rfl rfl Yi (Flat.len _) (zle flq) (Flat.cell _) (Zq flq) ?_; intro w a hM hE
  refine Zf ?_
  have hr := Option.some.inj hF7
  subst hr
  have hq17 : YR Try.prog _ _ (.cell 0 25) _ := Z7 hE rfl Yi rfl (hM.rawAt (pre := [])) (Flat.len _) rfl
  have hM := M.fst (l := []) hM
  exact wp_ret (Zy hE rfl hq17 ⟨_, rfl, rfl, hM.kept⟩)
noncomputable def Yp (p1 : Int) : Option ((List UInt8)) :=
 (if (decide (p1 < 0)) = true then (none) else (some ()) : Option (Unit)).bind fun j1 => (if (decide ((wr (p1 - (wr (0 - 0)))) > 0)) = true then ((mkS 1 (0 : UInt8) (wr (p1 - (wr (0 - 0))))).bind fun l14 => (slc l14 (0 : Int) (0 : Int)).bind fun l16 => some l16) else (some ([])) : Option ((List UInt8))).bind fun j6 => some j6
theorem c_slices_Grow_byte_byte_nil (w0 : World) (p1 : Int) (r : (List UInt8)) (hF : Yp p1 = some r) :
  Calls Try.prog 113 [(Value.slice none 0 0), (vI p1)].toArray w0 (fun en w' => ∃ v, en = .returned v ∧ (∃ (y1 : Value), v = y1 ∧ Fr w0 w' [osl NoB (r : List UInt8) y1] ∧ Kept (Old w0) w0 w')) := by
 refine ZC (n := 27) Try.func113 rfl rfl (Nat.le_of_ble_eq_true rfl) rfl ?_
 intro a hE
 have hM := M.start w0
 unfold Yp at hF
 refine Zc (Ze hE Za (dl rfl) rfl ?_); intro a hE
 refine Zf ?_
 obtain ⟨j1, hl2, hF3⟩ := bind_some hF
 refine ZS (fun a w => Env 27 a [(0, (Value.slice none 0 0)), (1, (vI p1))] ∧ M (Old w0) w0 w []) ?_ ?_
 ·skip
  refine Zc (Zd hE Za (dl rfl) rfl ?_); intro a hE
  refine Zh hE Za (dl rfl) rfl rfl rfl ?_; intro a hE
  refine Zf ?_
  refine Zt hE rfl ?_ ?_
  ·intro hb4
   have hl2 := Zz hl2 hb4
   cases hl2
  ·intro hb4
   have hl2 := ZA hl2 hb4
   refine wp_skip ?_
   have ht5 := Option.some.inj hl2
   subst ht5
   refine Zl ?_
   exact ⟨hE.sub ⟨rfl, rfl, trivial⟩, hM⟩
 ·skip
  rintro a w ⟨hE, hM⟩
  obtain ⟨j6, hl7, hF8⟩ := bind_some hF3
  refine ZS (fun a w => ∃ (u9 : Value), Env 27 a [(0, u9)] ∧ M (Old w0) w0 w [osl NoB (j6 : List UInt8) u9]) ?_ ?_
  ·skip
   refine Zc (Zd hE Za (dl rfl) rfl ?_); intro a hE
   refine Zd hE Za (dl rfl) rfl ?_; intro a hE
   refine s_capNil hE Za (dl rfl) rfl Try.underlying50 ?_; intro a hE
   refine Zd hE Za (dl rfl) rfl ?_; intro a hE
   refine s_lenNil hE Za (dl rfl) rfl Try.underlying50 ?_; intro a hE
   refine Zh hE Za (dl rfl) rfl rfl rfl ?_; intro a hE
   refine Zh hE Za (dl rfl) rfl rfl rfl ?_; intro a hE
   refine Ze hE Za (dl rfl) rfl ?_; intro a hE
   refine Zf (Zc (Zd hE Za (dl rfl) rfl ?_)); intro a hE
   refine Zh hE Za (dl rfl) rfl rfl rfl ?_; intro a hE
   refine Zf ?_
   refine Zt hE rfl ?_ ?_
   ·intro hb11
    have hl7 := Zz hl7 hb11
    refine wp_region_lit (Zd hE Za (dl rfl) rfl ?_); intro a hE
    refine Zd hE Za (dl rfl) rfl ?_; intro a hE
    refine s_capNil hE Za (dl rfl) rfl Try.underlying50 ?_; intro a hE
    refine s_sliceNil hE Za (dl rfl) rfl rfl Try.underlying50 ty5 ?_; intro a hE
    refine Zd hE Za (dl rfl) rfl ?_; intro a hE
    obtain ⟨l14, e15, hl7⟩ := bind_some hl7
    refine s_appendZ hE hM Za (dl rfl) rfl rfl Try.underlying50 Try.underlying3 ty5 rfl (by decide) (by decide) (fun _ => sat_flat.2 ⟨rfl, rfl⟩) e15 ?_; intro u12 w a hM hE
    refine Zd hE Za (dl rfl) rfl ?_; intro a hE
    refine s_lenNil hE Za (dl rfl) rfl Try.underlying50 ?_; intro a hE
    obtain ⟨l16, e17, hl7⟩ := bind_some hl7
    refine s_slice hE Za (dl rfl) rfl rfl rfl rfl rfl Try.underlying50 ty5 (hM.sl (pre := []) noB) e17 ?_; intro a hE
    have hM := hM.cut noB e17
    refine Ze hE Za (dl rfl) rfl ?_; intro a hE
    refine Zj ?_
    have ht19 := Option.some.inj hl7
    subst ht19
    refine Zl ?_
    exact ⟨(ZU u12 ((0 : Int)).toNat ((0 : Int)).toNat 1), hE.sub ⟨rfl, trivial⟩, hM⟩
   ·intro hb11
    have hl7 := ZA hl7 hb11
    refine wp_skip ?_
    have ht20 := Option.some.inj hl7
    subst ht20
    refine Zl ?_
    have hM := M.nilS (α := UInt8) NoB noB hM
    exact ⟨(Value.slice none 0 0), hE.sub ⟨rfl, trivial⟩, hM⟩
  ·skip
   rintro a w ⟨u9, hE, hM⟩
   refine Zc (Zd hE Za (dl rfl) rfl ?_); intro a hE
   refine Ze hE Za (dl rfl) rfl ?_; intro a hE
   refine Zf ?_
   have hr := Option.some.inj hF8
   subst hr
   exact wp_ret (Zy hE rfl (Zu hE rfl) ⟨_, rfl, u9, rfl, hM.outF (Vr W0), hM.kept⟩)
noncomputable def YW (p0 : (List (List UInt8))) (s4 : Int × Int) : Option (Fl (Int × Int) Int) :=
 if (decide (s4.1 < (p0.length : Int))) = true then (((idx p0 s4.1).bind fun x12 => (if (decide ((wr (s4.2 + (x12.length : Int))) < 0)) = true then (none) else (some ()) : Option (Unit)).bind fun j20 => some (wr (s4.2 + (x12.length : Int))) : Option (Int)).bind fun j9 => some (Fl.nx (wr (s4.1 + 1), j9))) else (some (Fl.ex s4.2))
noncomputable def YT (p0 : (List (List UInt8))) (s35 : Int × (List UInt8)) : Option (Fl (Int × (List UInt8)) (List UInt8)) :=
 if (decide (s35.1 < (p0.length : Int))) = true then ((idx p0 s35.1).bind fun x42 => (app 1 s35.2 x42).bind fun l50 => some (Fl.nx (wr (s35.1 + 1), (s35.2 ++ x42)))) else (some (Fl.ex s35.2))
noncomputable def Z6 (p0 : (List (List UInt8))) : Option ((List UInt8)) :=
 (ZG (YW p0) (0, 0) : Option (Int)).bind fun j1 => (Yp j1).bind fun r27 => (ZG (YT p0) (0, r27) : Option ((List UInt8))).bind fun j30 => some j30
theorem V6 (w0 : World) (p0 : (List (List UInt8))) (v0_1 : Value) (hv0_1 : Ro w0 p0 [v0_1]) (r : (List UInt8)) (hF : Z6 p0 = some r) :
  Calls Try.prog 94 [v0_1].toArray w0 (fun en w' => ∃ v, en = .returned v ∧ (∃ (y1 : Value), v = y1 ∧ Fr w0 w' [osl NoB (r : List UInt8) y1] ∧ Kept (Old w0) w0 w')) := by
 refine ZC (n := 36) Try.func94 rfl rfl (Nat.le_of_ble_eq_true rfl) rfl ?_
 intro a hE
 have hM := M.start w0
 unfold Z6 at hF
 refine Zc (Ze hE Za (dl rfl) rfl ?_); intro a hE
 refine Zf (Zc (Ze hE Za (dl rfl) rfl ?_)); intro a hE
 refine Zf (wp_seq (Zc (Zd hE Za (dl rfl) rfl ?_))); intro a hE
 refine Z8 hE Za (dl rfl) rfl Try.underlying45 (hM.rd hv0_1) ?_; intro a hE
 refine Zd hE Za (dl rfl) rfl ?_; intro a hE
 refine Zf ?_
 obtain ⟨j1, hl2, hF3⟩ := bind_some hF
 refine ZW (fun a w => Env 36 a [(0, v0_1), (3, (vI j1))] ∧ M (Old w0) w0 w []) ?_ ?_
 ·skip
  refine wp_block ?_
  refine ZM (fun (s4 : Int × Int) a w => Env 36 a [(0, v0_1), (3, (vI s4.2)), (9, v0_1), (10, (vI (p0.length : Int))), (11, (vI s4.1))] ∧ M (Old w0) w0 w []) hl2 ⟨hE.sub ⟨rfl, rfl, rfl, rfl, rfl, trivial⟩, hM⟩ ?_
  rintro s4 a w ⟨hE, hM⟩ o7 hs5 hx6
  unfold YW at hs5
  refine Zc (Zh hE Za (dl rfl) rfl rfl rfl ?_); intro a hE
  refine Zf (wp_seq ?_)
  refine Zt hE rfl ?_ ?_
  ·intro hb8
   have hs5 := Zz hs5 hb8
   refine wp_skip (Zx ?_)
   obtain ⟨j9, hl10, hF11⟩ := bind_some hs5
   refine ZS (fun a w => Env 36 a [(0, v0_1), (3, (vI j9)), (9, v0_1), (10, (vI (p0.length : Int))), (11, (vI s4.1))] ∧ M (Old w0) w0 w []) ?_ ?_
   ·skip
    refine wp_block (Zc ?_)
    obtain ⟨x12, e13, hl10⟩ := bind_some hl10
    have hi14 := ZQ e13
    refine ZK hE Za (dl rfl) rfl rfl Try.underlying45 Vz (hM.rd hv0_1) hi14.1 ?_; intro a hE
    obtain ⟨cs15, hs16, hA17⟩ := Uz hv0_1 hi14.2 -- ^
    obtain ⟨u18, rfl⟩ := Vo hs16 -- ^
    have h19 := hs16 -- ^
    refine Zv (v := u18) hE Za (dl rfl) rfl Vz rfl (hM.atk hA17 (Ux hv0_1 hi14.2)) ?_; intro a hE
    refine Ze hE Za (dl rfl) rfl ?_; intro a hE
    refine Zf (Zc (Zd hE Za (dl rfl) rfl ?_)); intro a hE
    refine Zd hE Za (dl rfl) rfl ?_; intro a hE
    refine Z8 hE Za (dl rfl) rfl Try.underlying50 (hM.rd h19) ?_; intro a hE
    refine Zh hE Za (dl rfl) rfl rfl rfl ?_; intro a hE
    refine Ze hE Za (dl rfl) rfl ?_; intro a hE
    refine Zf (Zc (Zd hE Za (dl rfl) rfl ?_)); intro a hE
    refine Zh hE Za (dl rfl) rfl rfl rfl ?_; intro a hE
    refine Zf ?_
    obtain ⟨j20, hl21, hF22⟩ := bind_some hl10
    refine ZW (fun a w => Env 36 a [(0, v0_1), (3, (vI (wr (s4.2 + (x12.length : Int))))), (9, v0_1), (10, (vI (p0.length : Int))), (11, (vI s4.1))] ∧ M (Old w0) w0 w []) ?_ ?_
    ·skip
     refine Zt hE rfl ?_ ?_
     ·intro hb23
      have hl21 := Zz hl21 hb23
      cases hl21
     ·intro hb23
      have hl21 := ZA hl21 hb23
      refine wp_skip ?_
      have ht24 := Option.some.inj hl21
      subst ht24
      refine Zl ?_
      exact ⟨hE.sub ⟨rfl, rfl, rfl, rfl, rfl, trivial⟩, hM⟩
    ·skip
     rintro a w ⟨hE, hM⟩
     refine Yj ?_
     have ht25 := Option.some.inj hF22
     subst ht25
     refine Zl ?_
     exact ⟨hE.sub ⟨rfl, rfl, rfl, rfl, rfl, trivial⟩, hM⟩
   ·skip
    rintro a w ⟨hE, hM⟩
    refine wp_region_lit (Zh hE Za (dl rfl) rfl rfl rfl ?_); intro a hE
    refine Zd hE Za (dl rfl) rfl ?_; intro a hE
    refine Zj (Zl ?_)
    exact ⟨_, (Option.some.inj hF11).symm, hE.sub ⟨rfl, rfl, rfl, rfl, rfl, trivial⟩, hM⟩
  ·intro hb8
   have hs5 := ZA hs5 hb8
   refine wp_exit (Zr (Zr (Yk ?_)))
   have ht26 := hx6 _ (Option.some.inj hs5).symm
   subst ht26
   refine Zl ?_
   exact ⟨hE.sub ⟨rfl, rfl, trivial⟩, hM⟩
 ·skip
  rintro a w ⟨hE, hM⟩
  refine Zx (Zc (Zd hE Za (dl rfl) rfl ?_)); intro a hE
  obtain ⟨r27, e28, hF3⟩ := bind_some hF3
  refine Zw (vs := [(Value.slice none 0 0), (vI j1)]) hE Za (dl rfl) rfl cb113 (c_slices_Grow_byte_byte_nil _ j1 r27 e28) ?_
  rintro u29 w a ⟨_, rfl, hFr, hK⟩ hE
  have hM := hM.add hK hFr
  refine Ze hE Za (dl rfl) rfl ?_; intro a hE
  refine Zf (wp_seq (Zc (Zd hE Za (dl rfl) rfl ?_))); intro a hE
  refine Z8 hE Za (dl rfl) rfl Try.underlying45 (hM.rd hv0_1) ?_; intro a hE
  refine Zd hE Za (dl rfl) rfl ?_; intro a hE
  refine Zf ?_
  obtain ⟨j30, hl31, hF32⟩ := bind_some hF3
  refine ZW (fun a w => ∃ (u33 : Value), Env 36 a [(6, u33)] ∧ M (Old w0) w0 w [osl NoB (j30 : List UInt8) u33]) ?_ ?_
  ·skip
   refine wp_block ?_
   refine ZM (fun (s35 : Int × (List UInt8)) a w => ∃ (u36 : Value), Env 36 a [(6, u36), (25, v0_1), (26, (vI (p0.length : Int))), (27, (vI s35.1))] ∧ M (Old w0) w0 w [osl NoB (s35.2 : List UInt8) u36]) hl31 ⟨u29, hE.sub ⟨rfl, rfl, rfl, rfl, trivial⟩, hM⟩ ?_
   rintro s35 a w ⟨u36, hE, hM⟩ o40 hs38 hx39
   unfold YT at hs38
   refine Zc (Zh hE Za (dl rfl) rfl rfl rfl ?_); intro a hE
   refine Zf (wp_seq ?_)
   refine Zt hE rfl ?_ ?_
   ·intro hb41
    have hs38 := Zz hs38 hb41
    refine wp_skip (Zx (wp_seq (wp_block (Zc ?_))))
    obtain ⟨x42, e43, hs38⟩ := bind_some hs38
    have hi44 := ZQ e43
    refine ZK hE Za (dl rfl) rfl rfl Try.underlying45 Vz (hM.rd hv0_1) hi44.1 ?_; intro a hE
    obtain ⟨cs45, hs46, hA47⟩ := Uz hv0_1 hi44.2 -- ^
    obtain ⟨u48, rfl⟩ := Vo hs46 -- ^
    have h49 := hs46 -- ^
    refine Zv (v := u48) hE Za (dl rfl) rfl Vz rfl (hM.atk hA47 (Ux hv0_1 hi44.2)) ?_; intro a hE
    refine Ze hE Za (dl rfl) rfl ?_; intro a hE
    refine Zf (wp_region_lit (Zd hE Za (dl rfl) rfl ?_)); intro a hE
    refine Zd hE Za (dl rfl) rfl ?_; intro a hE
    obtain ⟨l50, e51, hs38⟩ := bind_some hs38
    obtain ⟨e54, rfl⟩ := Wr e51
    refine Xv hE hM Za (dl rfl) rfl rfl (hM.rd h49) Try.underlying50 ty5 rfl (by decide) e54 ?_; intro u52 w a hM hE
    refine Ze hE Za (dl rfl) rfl ?_; intro a hE
    refine Zj (Yj (Zx (wp_region_lit (Zh hE Za (dl rfl) rfl rfl rfl ?_)))); intro a hE
    refine Zd hE Za (dl rfl) rfl ?_; intro a hE
    refine Zj (Zl ?_)
    exact ⟨_, (Option.some.inj hs38).symm, u52, hE.sub ⟨rfl, rfl, rfl, rfl, trivial⟩, hM⟩
   ·intro hb41
    have hs38 := ZA hs38 hb41
    refine wp_exit (Zr (Zr (Yk ?_)))
    have ht55 := hx39 _ (Option.some.inj hs38).symm
    subst ht55
    refine Zl ?_
    exact ⟨u36, hE.sub ⟨rfl, trivial⟩, hM⟩
  ·skip
   rintro a w ⟨u33, hE, hM⟩
   refine Zx (Zc (Zd hE Za (dl rfl) rfl ?_)); intro a hE
   refine Ze hE Za (dl rfl) rfl ?_; intro a hE
   refine Zf ?_
   have hr := Option.some.inj hF32
   subst hr
   exact wp_ret (Zy hE rfl (Zu hE rfl) ⟨_, rfl, u33, rfl, hM.outF (Vr W0), hM.kept⟩)
noncomputable def Yo (p0 : (List UInt8)) : Option ((List UInt8)) :=
 (app 1 ([] : List UInt8) p0).bind fun l7 => some (([] : List UInt8) ++ p0)
theorem Ub (w0 : World) (p0 : (List UInt8)) (v0_1 : Value) (hv0_1 : Ro w0 p0 [v0_1]) (r : (List UInt8)) (hF : Yo p0 = some r) :
  Calls Try.prog 55 [v0_1].toArray w0 (fun en w' => ∃ v, en = .returned v ∧ (∃ (y1 : Value), v = y1 ∧ Fr w0 w' [osl NoB (r : List UInt8) y1] ∧ Kept (Old w0) w0 w')) := by
 refine ZC (n := 8) Try.func55 rfl rfl (Nat.le_of_ble_eq_true rfl) rfl ?_
 intro a hE
 have hM := M.start w0
 unfold Yo at hF
 refine Zc (Ze hE Za (dl rfl) rfl ?_); intro a hE
 refine Zf (wp_seq (Zc (Zd hE Za (dl rfl) rfl ?_))); intro a hE
 refine s_eqNil hE Za (dl rfl) rfl rfl Try.underlying50 (hM.rd hv0_1) ?_; intro bn1 a hn2 hE
 refine Zf ?_
 refine Zt hE rfl ?_ ?_
 ·intro hb3
  have h0 := hn2 hb3
  have hF : some ([]) = some r := by rw [h0] at hF; simpa [app] using hF
  refine Zc (Ze hE Za (dl rfl) rfl ?_); intro a hE
  refine Zf ?_
  have hM := M.nilS (α := UInt8) NoB noB hM
  have hr := Option.some.inj hF
  subst hr
  exact wp_ret (ZL (Zy hE rfl (Zu hE rfl) ⟨_, rfl, (Value.slice none 0 0), rfl, hM.outF (Vr W0), hM.kept⟩))
 ·intro hb3
  refine wp_skip (Zx (Zc (Xb (xs := []) (l := ([] : List UInt8)) (vs := []) hE hM Za (dl rfl) rfl rfl Try.underlying50 ty5 rfl (by decide) rfl ?_))); intro u5 w a hM hE
  refine Zd hE Za (dl rfl) rfl ?_; intro a hE
  obtain ⟨l7, e8, hF⟩ := bind_some hF
  obtain ⟨e11, rfl⟩ := Wr e8
  refine Xv hE hM Za (dl rfl) rfl rfl (hM.rd hv0_1) Try.underlying50 ty5 rfl (by decide) e11 ?_; intro u9 w a hM hE
  refine Ze hE Za (dl rfl) rfl ?_; intro a hE
  refine Zf ?_
  have hr := Option.some.inj hF
  subst hr
  exact wp_ret (Zy hE rfl (Zu hE rfl) ⟨_, rfl, u9, rfl, hM.outF (Vr W0), hM.kept⟩)
noncomputable def Wo (p0 : Int) (s8 : (List UInt8) × Int) : Option (Fl ((List UInt8) × Int) (List UInt8)) :=
 if (decide (s8.2 ≥ 0)) = true then ((Xj (wr (8 * s8.2))).bind fun _ => (app 1 s8.1 ([ZE (Vv p0 (wr (8 * s8.2)))] : List UInt8)).bind fun l18 => some (Fl.nx ((s8.1 ++ ([ZE (Vv p0 (wr (8 * s8.2)))] : List UInt8)), wr (s8.2 - 1)))) else (some (Fl.ex s8.1))
noncomputable def X0 (p0 : Int) (p1 : Int) : Option ((List UInt8)) :=
 (ZG (Wo p0) (([] : List UInt8), wr (p1 - 1)) : Option ((List UInt8))).bind fun j3 => some j3
theorem c_impl_bigEndian (w0 : World) (p0 : Int) (p1 : Int) (r : (List UInt8)) (hF : X0 p0 p1 = some r) :
  Calls Try.prog 71 [(vI p0), (vI p1)].toArray w0 (fun en w' => ∃ v, en = .returned v ∧ (∃ (y1 : Value), v = y1 ∧ Fr w0 w' [osl NoB (r : List UInt8) y1] ∧ Kept (Old w0) w0 w')) := by
 refine ZC (n := 23) Try.func71 rfl rfl (Nat.le_of_ble_eq_true rfl) rfl ?_
 intro a hE
 have hM := M.start w0
 unfold X0 at hF
 refine Zc (Ze hE Za (dl rfl) rfl ?_); intro a hE
 refine Zf (Zc (Xb (xs := []) (l := ([] : List UInt8)) (vs := []) hE hM Za (dl rfl) rfl rfl Try.underlying50 ty5 rfl (by decide) rfl ?_)); intro u1 w a hM hE
 refine Ze hE Za (dl rfl) rfl ?_; intro a hE
 refine Zf (wp_seq (Zc (Zd hE Za (dl rfl) rfl ?_))); intro a hE
 refine Zh hE Za (dl rfl) rfl rfl rfl ?_; intro a hE
 refine Ze hE Za (dl rfl) rfl ?_; intro a hE
 refine Zf ?_
 obtain ⟨j3, hl4, hF5⟩ := bind_some hF
 refine ZW (fun a w => ∃ (u6 : Value), Env 23 a [(5, u6)] ∧ M (Old w0) w0 w [osl NoB (j3 : List UInt8) u6]) ?_ ?_
 ·skip
  refine wp_block ?_
  refine ZM (fun (s8 : (List UInt8) × Int) a w => ∃ (u9 : Value), Env 23 a [(0, (vI p0)), (5, u9), (6, (vI s8.2))] ∧ M (Old w0) w0 w [osl NoB (s8.1 : List UInt8) u9]) hl4 ⟨u1, hE.sub ⟨rfl, rfl, rfl, trivial⟩, hM⟩ ?_
  rintro s8 a w ⟨u9, hE, hM⟩ o13 hs11 hx12
  unfold Wo at hs11
  refine wp_seq (Zc (Zd hE Za (dl rfl) rfl ?_)); intro a hE
  refine Zh hE Za (dl rfl) rfl rfl rfl ?_; intro a hE
  refine Zf ?_
  refine Zt hE rfl ?_ ?_
  ·intro hb14
   have hs11 := Zz hs11 hb14
   refine wp_skip (Zx (wp_seq (wp_block (wp_region_lit (Zd hE Za (dl rfl) rfl ?_))))); intro a hE
   refine Zd hE Za (dl rfl) rfl ?_; intro a hE
   refine Zd hE Za (dl rfl) rfl ?_; intro a hE
   refine Zh hE Za (dl rfl) rfl rfl rfl ?_; intro a hE
   obtain ⟨_, e15, hs11⟩ := bind_some hs11
   have e15 := Ws e15
   refine s_sh hE Za (dl rfl) rfl rfl (bI_shr _ _ e15) ?_; intro a hE
   refine YI hE Za (dl rfl) rfl Try.underlying2 Try.underlying5 ?_; intro a hE
   rw [Yh] at hE
   refine Xb (xs := [.tmp 19]) (l := ([ZE (Vv p0 (wr (8 * s8.2)))] : List UInt8)) (vs := [(vB (ZE (Vv p0 (wr (8 * s8.2)))))]) hE hM Za (dl rfl) rfl rfl Try.underlying50 ty5 rfl (by decide) rfl ?_; intro u16 w a hM hE
   obtain ⟨l18, e19, hs11⟩ := bind_some hs11
   obtain ⟨e22, rfl⟩ := Wr e19
   have hM := hM.pull (pre := [_])
   refine Xv hE hM Za (dl rfl) rfl rfl (hM.sl (pre := [_]) noB) Try.underlying50 ty5 rfl (by decide) e22 ?_; intro u20 w a hM hE
   refine Ze hE Za (dl rfl) rfl ?_; intro a hE
   refine Zj (Yj (Zx (wp_region_lit (Zd hE Za (dl rfl) rfl ?_)))); intro a hE
   refine Zh hE Za (dl rfl) rfl rfl rfl ?_; intro a hE
   refine Ze hE Za (dl rfl) rfl ?_; intro a hE
   refine Zj (Zl ?_)
   have hM := M.fst (l := [_]) hM
   exact ⟨_, (Option.some.inj hs11).symm, u20, hE.sub ⟨rfl, rfl, rfl, trivial⟩, hM⟩
  ·intro hb14
   have hs11 := ZA hs11 hb14
   refine wp_exit (Zr (Zr (Yk ?_)))
   have ht23 := hx12 _ (Option.some.inj hs11).symm
   subst ht23
   refine Zl ?_
   exact ⟨u9, hE.sub ⟨rfl, trivial⟩, hM⟩
 ·skip
  rintro a w ⟨u6, hE, hM⟩
  refine Zx (Zc (Zd hE Za (dl rfl) rfl ?_)); intro a hE
  refine Ze hE Za (dl rfl) rfl ?_; intro a hE
  refine Zf ?_
  have hr := Option.some.inj hF5
  subst hr
  exact wp_ret (Zy hE rfl (Zu hE rfl) ⟨_, rfl, u6, rfl, hM.outF (Vr W0), hM.kept⟩)
noncomputable def W3 (s16 : (List UInt8)) : Option (Fl (List UInt8) (List UInt8)) :=
 if ((Int.tmod (s16.length : Int) 16) != 8) = true then ((app 1 s16 ([0] : List UInt8)).bind fun l25 => some (Fl.nx (s16 ++ ([0] : List UInt8)))) else (some (Fl.ex s16))
noncomputable def Wn (p0 : (List UInt8)) : Option ((List UInt8)) :=
 (Yo p0).bind fun r1 => (app 1 r1 ([128] : List UInt8)).bind fun l6 => (ZG (W3) (r1 ++ ([128] : List UInt8)) : Option ((List UInt8))).bind fun j11 => (X0 (p0.length : Int) 8).bind fun r31 => (app 1 j11 r31).bind fun l34 => some (j11 ++ r31)
theorem c_impl_padMessage (w0 : World) (p0 : (List UInt8)) (v0_1 : Value) (hv0_1 : Ro w0 p0 [v0_1]) (r : (List UInt8)) (hF : Wn p0 = some r) :
  Calls Try.prog 93 [v0_1].toArray w0 (fun en w' => ∃ v, en = .returned v ∧ (∃ (y1 : Value), v = y1 ∧ Fr w0 w' [osl NoB (r : List UInt8) y1] ∧ Kept (Old w0) w0 w')) := by
 refine ZC (n := 20) Try.func93 rfl rfl (Nat.le_of_ble_eq_true rfl) rfl ?_
 intro a hE
 have hM := M.start w0
 unfold Wn at hF
 refine Zc (Ze hE Za (dl rfl) rfl ?_); intro a hE
 refine Zf (Zc (Zd hE Za (dl rfl) rfl ?_)); intro a hE
 obtain ⟨r1, e2, hF⟩ := bind_some hF
 refine Zw (vs := [v0_1]) hE Za (dl rfl) rfl cb55 (Ub _ p0 v0_1 (hM.rdo hv0_1) r1 e2) ?_
 rintro u3 w a ⟨_, rfl, hFr, hK⟩ hE
 have hM := hM.add hK hFr
 refine Xb (xs := [.const (vB 128)]) (l := ([128] : List UInt8)) (vs := [(vB 128)]) hE hM Za (dl rfl) rfl rfl Try.underlying50 ty5 rfl (by decide) rfl ?_; intro u4 w a hM hE
 obtain ⟨l6, e7, hF⟩ := bind_some hF
 obtain ⟨e10, rfl⟩ := Wr e7
 have hM := hM.pull (pre := [_])
 refine Xv hE hM Za (dl rfl) rfl rfl (hM.sl (pre := [_]) noB) Try.underlying50 ty5 rfl (by decide) e10 ?_; intro u8 w a hM hE
 refine Ze hE Za (dl rfl) rfl ?_; intro a hE
 refine Zf ?_
 obtain ⟨j11, hl12, hF13⟩ := bind_some hF
 refine ZS (fun a w => ∃ (u14 : Value), Env 20 a [(0, v0_1), (3, u14)] ∧ M (Old w0) w0 w [osl NoB (j11 : List UInt8) u14]) ?_ ?_
 ·skip
  refine wp_block ?_
  have hM := M.fst (l := [_]) hM
  refine ZM (fun (s16 : (List UInt8)) a w => ∃ (u17 : Value), Env 20 a [(0, v0_1), (3, u17)] ∧ M (Old w0) w0 w [osl NoB (s16 : List UInt8) u17]) hl12 ⟨u8, hE.sub ⟨rfl, rfl, trivial⟩, hM⟩ ?_
  rintro s16 a w ⟨u17, hE, hM⟩ o21 hs19 hx20
  unfold W3 at hs19
  refine wp_seq (Zc (Zd hE Za (dl rfl) rfl ?_)); intro a hE
  refine Z8 hE Za (dl rfl) rfl Try.underlying50 (hM.sl (pre := []) noB) ?_; intro a hE
  refine Zh hE Za (dl rfl) rfl rfl (bI_rem _ _ (by decide)) ?_; intro a hE
  refine Zh hE Za (dl rfl) rfl rfl rfl ?_; intro a hE
  refine Zf ?_
  refine Zt hE rfl ?_ ?_
  ·intro hb22
   have hs19 := Zz hs19 hb22
   refine wp_skip (Zx (wp_block (wp_region_lit (Zd hE Za (dl rfl) rfl ?_)))); intro a hE
   refine Xb (xs := [.const (vB 0)]) (l := ([0] : List UInt8)) (vs := [(vB 0)]) hE hM Za (dl rfl) rfl rfl Try.underlying50 ty5 rfl (by decide) rfl ?_; intro u23 w a hM hE
   obtain ⟨l25, e26, hs19⟩ := bind_some hs19
   obtain ⟨e29, rfl⟩ := Wr e26
   have hM := hM.pull (pre := [_])
   refine Xv hE hM Za (dl rfl) rfl rfl (hM.sl (pre := [_]) noB) Try.underlying50 ty5 rfl (by decide) e29 ?_; intro u27 w a hM hE
   refine Ze hE Za (dl rfl) rfl ?_; intro a hE
   refine Zj (Yj (Zl ?_))
   have hM := M.fst (l := [_]) hM
   exact ⟨_, (Option.some.inj hs19).symm, u27, hE.sub ⟨rfl, rfl, trivial⟩, hM⟩
  ·intro hb22
   have hs19 := ZA hs19 hb22
   refine wp_exit (Zr (Zr (Yk ?_)))
   have ht30 := hx20 _ (Option.some.inj hs19).symm
   subst ht30
   refine Zl ?_
   exact ⟨u17, hE.sub ⟨rfl, rfl, trivial⟩, hM⟩
 ·skip
  rintro a w ⟨u14, hE, hM⟩
  refine Zc (Zd hE Za (dl rfl) rfl ?_); intro a hE
  refine Zd hE Za (dl rfl) rfl ?_; intro a hE
  refine Z8 hE Za (dl rfl) rfl Try.underlying50 (hM.rd hv0_1) ?_; intro a hE
  obtain ⟨r31, e32, hF13⟩ := bind_some hF13
  refine Zw (vs := [(vI (p0.length : Int)), (vI 8)]) hE Za (dl rfl) rfl cb71 (c_impl_bigEndian _ (p0.length : Int) 8 r31 e32) ?_
  rintro u33 w a ⟨_, rfl, hFr, hK⟩ hE
  have hM := hM.add hK hFr
  obtain ⟨l34, e35, hF13⟩ := bind_some hF13
  obtain ⟨e38, rfl⟩ := Wr e35
  have hM := hM.pull (pre := [_])
  refine Xv hE hM Za (dl rfl) rfl rfl (hM.sl (pre := [_]) noB) Try.underlying50 ty5 rfl (by decide) e38 ?_; intro u36 w a hM hE
  refine Ze hE Za (dl rfl) rfl ?_; intro a hE
  refine Zf ?_
  have hr := Option.some.inj hF13
  subst hr
  have hM := M.fst (l := [_]) hM
  exact wp_ret (Zy hE rfl (Zu hE rfl) ⟨_, rfl, u36, rfl, hM.outF (Vr W0), hM.kept⟩)
noncomputable def XV (p0 : (List UInt8)) (s8 : (List (Vector UInt8 16)) × Int) : Option (Fl ((List (Vector UInt8 16)) × Int) (List (Vector UInt8 16))) :=
 if (decide (s8.2 < (p0.length : Int))) = true then ((slc p0 s8.2 (wr (s8.2 + 16))).bind fun l15 => (toArr 16 l15).bind fun x18 => (app 16 s8.1 ([x18] : List (Vector UInt8 16))).bind fun l22 => some (Fl.nx ((s8.1 ++ ([x18] : List (Vector UInt8 16))), wr (s8.2 + 16)))) else (some (Fl.ex s8.1))
noncomputable def Va (p0 : (List UInt8)) : Option ((List (Vector UInt8 16))) :=
 (ZG (XV p0) (([] : List (Vector UInt8 16)), 0) : Option ((List (Vector UInt8 16)))).bind fun j3 => some j3
theorem c_impl_blocksOf (w0 : World) (p0 : (List UInt8)) (v0_1 : Value) (hv0_1 : Ro w0 p0 [v0_1]) (r : (List (Vector UInt8 16))) (hF : Va p0 = some r) :
  Calls Try.prog 92 [v0_1].toArray w0 (fun en w' => ∃ v, en = .returned v ∧ (∃ (y1 : Value), v = y1 ∧ Fr w0 w' [osl NoB (r : List (Vector UInt8 16)) y1] ∧ Kept (Old w0) w0 w')) := by
 refine ZC (n := 23) Try.func92 rfl rfl (Nat.le_of_ble_eq_true rfl) rfl ?_
 intro a hE
 have hM := M.start w0
 unfold Va at hF
 refine Zc (Ze hE Za (dl rfl) rfl ?_); intro a hE
 refine Zf (Zc (Xb (xs := []) (l := ([] : List (Vector UInt8 16))) (vs := []) hE hM Za (dl rfl) rfl rfl Try.underlying34 ZP rfl (by decide) rfl ?_)); intro u1 w a hM hE
 refine Ze hE Za (dl rfl) rfl ?_; intro a hE
 refine Zf (wp_seq (Zc (Ze hE Za (dl rfl) rfl ?_))); intro a hE
 refine Zf ?_
 obtain ⟨j3, hl4, hF5⟩ := bind_some hF
 refine ZW (fun a w => ∃ (u6 : Value), Env 23 a [(3, u6)] ∧ M (Old w0) w0 w [osl NoB (j3 : List (Vector UInt8 16)) u6]) ?_ ?_
 ·skip
  refine wp_block ?_
  refine ZM (fun (s8 : (List (Vector UInt8 16)) × Int) a w => ∃ (u9 : Value), Env 23 a [(0, v0_1), (3, u9), (4, (vI s8.2))] ∧ M (Old w0) w0 w [osl NoB (s8.1 : List (Vector UInt8 16)) u9]) hl4 ⟨u1, hE.sub ⟨rfl, rfl, rfl, trivial⟩, hM⟩ ?_
  rintro s8 a w ⟨u9, hE, hM⟩ o13 hs11 hx12
  unfold XV at hs11
  refine wp_seq (Zc (Zd hE Za (dl rfl) rfl ?_)); intro a hE
  refine Zd hE Za (dl rfl) rfl ?_; intro a hE
  refine Z8 hE Za (dl rfl) rfl Try.underlying50 (hM.rd hv0_1) ?_; intro a hE
  refine Zh hE Za (dl rfl) rfl rfl rfl ?_; intro a hE
  refine Zf ?_
  refine Zt hE rfl ?_ ?_
  ·intro hb14
   have hs11 := Zz hs11 hb14
   refine wp_skip (Zx (wp_seq (wp_block (wp_region_lit (Zd hE Za (dl rfl) rfl ?_))))); intro a hE
   refine Zd hE Za (dl rfl) rfl ?_; intro a hE
   refine Zd hE Za (dl rfl) rfl ?_; intro a hE
   refine Zd hE Za (dl rfl) rfl ?_; intro a hE
   refine Zh hE Za (dl rfl) rfl rfl rfl ?_; intro a hE
   obtain ⟨l15, e16, hs11⟩ := bind_some hs11
   refine s_slice hE Za (dl rfl) rfl rfl rfl rfl rfl Try.underlying50 ty5 (hM.rd hv0_1) e16 ?_; intro a hE
   have h17 : Rep.sat (Old w0) w0 l15 [(ZU v0_1 (s8.2).toNat ((wr (s8.2 + 16))).toNat 1)] [] := VP hv0_1 e16 -- ^
   obtain ⟨x18, e19, hs11⟩ := bind_some hs11
   refine s_toArr hE Za (dl rfl) rfl Try.underlying39 (hM.rd h17) (toArr_some e19).1 (by decide) ?_; intro a hE
   refine Zp (cs := Flat.enc x18) hE Za (dl rfl) rfl ZP rfl (sl_arr (hM.rd h17) e19 (by decide)) (Flat.len _) ?_; intro a hE
   refine Xb (xs := [.tmp 19]) (l := ([x18] : List (Vector UInt8 16))) (vs := [(Value.agg (Flat.enc x18).toArray)]) hE hM Za (dl rfl) rfl rfl Try.underlying34 ZP rfl (by decide) rfl ?_; intro u20 w a hM hE
   obtain ⟨l22, e23, hs11⟩ := bind_some hs11
   obtain ⟨e26, rfl⟩ := Wr e23
   have hM := hM.pull (pre := [_])
   refine Xv hE hM Za (dl rfl) rfl rfl (hM.sl (pre := [_]) noB) Try.underlying34 ZP rfl (by decide) e26 ?_; intro u24 w a hM hE
   refine Ze hE Za (dl rfl) rfl ?_; intro a hE
   refine Zj (Yj (Zx (wp_region_lit (Zd hE Za (dl rfl) rfl ?_)))); intro a hE
   refine Zh hE Za (dl rfl) rfl rfl rfl ?_; intro a hE
   refine Ze hE Za (dl rfl) rfl ?_; intro a hE
   refine Zj (Zl ?_)
   have hM := M.fst (l := [_]) hM
   exact ⟨_, (Option.some.inj hs11).symm, u24, hE.sub ⟨rfl, rfl, rfl, trivial⟩, hM⟩
  ·intro hb14
   have hs11 := ZA hs11 hb14
   refine wp_exit (Zr (Zr (Yk ?_)))
   have ht27 := hx12 _ (Option.some.inj hs11).symm
   subst ht27
   refine Zl ?_
   exact ⟨u9, hE.sub ⟨rfl, trivial⟩, hM⟩
 ·skip
  rintro a w ⟨u6, hE, hM⟩
  refine Zx (Zc (Zd hE Za (dl rfl) rfl ?_)); intro a hE
  refine Ze hE Za (dl rfl) rfl ?_; intro a hE
  refine Zf ?_
  have hr := Option.some.inj hF5
  subst hr
  exact wp_ret (Zy hE rfl (Zu hE rfl) ⟨_, rfl, u6, rfl, hM.outF (Vr W0), hM.kept⟩)
noncomputable def Xz (p1 : (Vector UInt8 16)) (s10 : (Vector UInt8 16) × Int) : Option (Fl ((Vector UInt8 16) × Int) (Vector UInt8 16)) :=
 if (decide (s10.2 < 16)) = true then ((ZN s10.1 s10.2).bind fun x17 => (ZN p1 s10.2).bind fun x20 => (ZN s10.1 s10.2).bind fun x23 => some (Fl.nx ((s10.1.setIfInBounds (s10.2).toNat (x17 ^^^ x20)), wr (s10.2 + 1)))) else (some (Fl.ex s10.1))
noncomputable def Yl (p0 : (Vector UInt8 16)) (p1 : (Vector UInt8 16)) : Option ((Vector UInt8 16)) :=
 (ZG (Xz p1) (p0, 0) : Option ((Vector UInt8 16))).bind fun j7 => some j7
theorem XX (w0 : World) (p0 : (Vector UInt8 16)) (p1 : (Vector UInt8 16)) (r : (Vector UInt8 16)) (hF : Yl p0 p1 = some r) :
  Calls Try.prog 114 [(Value.agg (Flat.enc p0).toArray), (Value.agg (Flat.enc p1).toArray)].toArray w0 (fun en w' => ∃ v, en = .returned v ∧ (v = (Value.agg (Flat.enc r).toArray) ∧ Kept (Old w0) w0 w')) := by
 refine ZC (n := 19) Try.func114 rfl rfl (Nat.le_of_ble_eq_true rfl) rfl ?_
 intro a hE
 have hM := M.start w0
 unfold Yl at hF
 refine Zc (Z5 (cs := Flat.enc p0) hE hM Za (dl rfl) rfl rfl ?_); intro b1 w a hM hE
 refine Z5 (cs := Flat.enc p1) hE hM Za (dl rfl) rfl rfl ?_; intro b3 w a hM hE
 refine ZO hE hM Za (dl rfl) ZP ?_; intro b5 w a hM hE
 refine Zf (wp_seq (Zc (Zd hE Za (dl rfl) rfl ?_))); intro a hE
 refine Zf ?_
 obtain ⟨j7, hl8, hF9⟩ := bind_some hF
 refine ZW (fun a w => Env 19 a [(2, (ptr b1 0)), (4, (ptr b5 0))] ∧ M (Old w0) w0 w [raw b5 (Flat.enc (Vector.replicate 16 (0 : UInt8))), raw b1 (Flat.enc j7)]) ?_ ?_
 ·skip
  refine wp_block ?_
  refine ZM (fun (s10 : (Vector UInt8 16) × Int) a w => Env 19 a [(2, (ptr b1 0)), (3, (ptr b3 0)), (4, (ptr b5 0)), (6, (vI s10.2))] ∧ M (Old w0) w0 w [raw b5 (Flat.enc (Vector.replicate 16 (0 : UInt8))), raw b3 (Flat.enc p1), raw b1 (Flat.enc s10.1)]) hl8 ⟨hE.sub ⟨rfl, rfl, rfl, rfl, trivial⟩, hM⟩ ?_
  rintro s10 a w ⟨hE, hM⟩ o13 hs11 hx12
  unfold Xz at hs11
  refine Zc (Zh hE Za (dl rfl) rfl rfl rfl ?_); intro a hE
  refine Zf (wp_seq ?_)
  refine Zt hE rfl ?_ ?_
  ·intro hb14
   have hs11 := Zz hs11 hb14
   refine wp_skip (Zx (wp_seq (wp_block (Zc (Zd hE Za (dl rfl) rfl ?_))))); intro a hE
   refine Ze hE Za (dl rfl) rfl ?_; intro a hE
   refine Zf ?_
   obtain ⟨x17, e18, hs11⟩ := bind_some hs11
   have hi16 := Zi e18
   obtain ⟨x20, e21, hs11⟩ := bind_some hs11
   have hi19 := Zi e21
   obtain ⟨x23, e24, hs11⟩ := bind_some hs11
   have hi22 := Zi e24
   refine Ye (n := 19) (hd := [_, _, _, _, _, _, _, _]) (tl := [_]) YB rfl rfl [9, 10, 11, 12, 13, 14, 15, 16] (by decide) (fun w => M (Old w0) w0 w [raw b5 (Flat.enc (Vector.replicate 16 (0 : UInt8))), raw b3 (Flat.enc p1), raw b1 (Flat.enc s10.1)]) (fun j => ([fun v _ => v = (vI s10.2), fun v _ => v = (ptr b1 (0 + (s10.2).toNat * 1)), fun v _ => v = (vB x17), fun v _ => v = (vI s10.2), fun v _ => v = (ptr b3 (0 + (s10.2).toNat * 1)), fun v _ => v = (vB x20), fun v _ => v = (vB (x17 ^^^ x20)), fun v _ => v = (ptr b1 (0 + (s10.2).toNat * 1))] : List (Value → World → Prop)).getD j (fun _ _ => True)) (fun _ _ h hk => h.keep hk) (gup (Zg (Zg (Zg (Zg (Zg (Zg (Zg (Zg Ww))))))))) hE hM.drew (ZH (Zb ?_ (Zb ?_ (Zb ?_ (Zb ?_ (Zb ?_ (Zb ?_ (Zb ?_ (Zb ?_ ZD))))))))) ?_
   ·intro a w ux15 hE hM hp
    refine Zd hE Za (dl rfl) rfl ?_; intro a hE
    exact ⟨Kept.refl _ _, _, _, rfl, hE, rfl⟩
   ·intro a w ux15 hE hM hp
    have f0 : ux15 0 = (vI s10.2) := hp 0 _ rfl rfl
    refine Zm hE Za (dl rfl) rfl (lk rfl f0) Try.underlying39 ty5 hi16.1 ?_; intro a hE
    exact ⟨Kept.refl _ _, _, _, rfl, hE, rfl⟩
   ·intro a w ux15 hE hM hp
    have f1 : ux15 1 = (ptr b1 (0 + (s10.2).toNat * 1)) := hp 0 _ rfl rfl
    refine Zv (v := (vB x17)) hE Za (dl rfl) (lk rfl f1) ty5 rfl (At.vec (hM.rawAt (pre := [_, _])) hi16.2) ?_; intro a hE
    exact ⟨Kept.refl _ _, _, _, rfl, hE, rfl⟩
   ·intro a w ux15 hE hM hp
    refine Zd hE Za (dl rfl) rfl ?_; intro a hE
    exact ⟨Kept.refl _ _, _, _, rfl, hE, rfl⟩
   ·intro a w ux15 hE hM hp
    have f3 : ux15 3 = (vI s10.2) := hp 0 _ rfl rfl
    refine Zm hE Za (dl rfl) rfl (lk rfl f3) Try.underlying39 ty5 hi19.1 ?_; intro a hE
    exact ⟨Kept.refl _ _, _, _, rfl, hE, rfl⟩
   ·intro a w ux15 hE hM hp
    have f4 : ux15 4 = (ptr b3 (0 + (s10.2).toNat * 1)) := hp 0 _ rfl rfl
    refine Zv (v := (vB x20)) hE Za (dl rfl) (lk rfl f4) ty5 rfl (At.vec (hM.rawAt (pre := [_])) hi19.2) ?_; intro a hE
    exact ⟨Kept.refl _ _, _, _, rfl, hE, rfl⟩
   ·intro a w ux15 hE hM hp
    have f2 : ux15 2 = (vB x17) := hp 0 _ rfl rfl
    have f5 : ux15 5 = (vB x20) := hp 1 _ rfl rfl
    refine Zh hE Za (dl rfl) (lk rfl f2) (lk rfl f5) (Vn x17 x20) ?_; intro a hE
    exact ⟨Kept.refl _ _, _, _, rfl, hE, rfl⟩
   ·intro a w ux15 hE hM hp
    have f0 : ux15 0 = (vI s10.2) := hp 0 _ rfl rfl
    refine Zm hE Za (dl rfl) rfl (lk rfl f0) Try.underlying39 ty5 hi22.1 ?_; intro a hE
    exact ⟨Kept.refl _ _, _, _, rfl, hE, rfl⟩
   ·intro a w ux15 hE hM hg
    have f0 : ux15 0 = (vI s10.2) := hg 0 (by decide)
    have f1 : ux15 1 = (ptr b1 (0 + (s10.2).toNat * 1)) := hg 1 (by decide)
    have f2 : ux15 2 = (vB x17) := hg 2 (by decide)
    have f3 : ux15 3 = (vI s10.2) := hg 3 (by decide)
    have f4 : ux15 4 = (ptr b3 (0 + (s10.2).toNat * 1)) := hg 4 (by decide)
    have f5 : ux15 5 = (vB x20) := hg 5 (by decide)
    have f6 : ux15 6 = (vB (x17 ^^^ x20)) := hg 6 (by decide)
    have f7 : ux15 7 = (ptr b1 (0 + (s10.2).toNat * 1)) := hg 7 (by decide)
    have hE := hE.sub (e' := [(9, (vI s10.2)), (10, (ptr b1 (0 + (s10.2).toNat * 1))), (11, (vB x17)), (12, (vI s10.2)), (13, (ptr b3 (0 + (s10.2).toNat * 1))), (14, (vB x20)), (15, (vB (x17 ^^^ x20))), (16, (ptr b1 (0 + (s10.2).toNat * 1))), (2, (ptr b1 0)), (3, (ptr b3 0)), (4, (ptr b5 0)), (5, (vI s10.2)), (6, (vI s10.2)), (7, (vT (decide (s10.2 < 16)))), (8, (vI s10.2))]) ⟨lk rfl f0, lk rfl f1, lk rfl f2, lk rfl f3, lk rfl f4, lk rfl f5, lk rfl f6, lk rfl f7, rfl, rfl, rfl, rfl, rfl, rfl, rfl, trivial⟩
    have hM := hM.pull (pre := [_, _])
    refine Zs (seg := [(vB (x17 ^^^ x20))]) (cs' := Flat.enc (s10.1.setIfInBounds (s10.2).toNat (x17 ^^^ x20))) hE hM Za rfl rfl rfl ty5 rfl (ZT (v := s10.1) (x := x17 ^^^ x20) hi22.1) (Flat.cell (x17 ^^^ x20 : UInt8)) (ZI (v := s10.1) (x := x17 ^^^ x20) hi22.1) ?_; intro w a hM hE
    refine Zj (Yj (Zx (wp_region_lit (Zh hE Za (dl rfl) rfl rfl rfl ?_)))); intro a hE
    refine Zd hE Za (dl rfl) rfl ?_; intro a hE
    refine Zj (Zl ?_)
    have hM := hM.pull (pre := [_, _])
    have hM := hM.pull (pre := [_, _])
    exact ⟨_, (Option.some.inj hs11).symm, hE.sub ⟨rfl, rfl, rfl, rfl, trivial⟩, hM⟩
  ·intro hb14
   have hs11 := ZA hs11 hb14
   refine wp_exit (Zr (Zr (Yk ?_)))
   have ht25 := hx12 _ (Option.some.inj hs11).symm
   subst ht25
   refine Zl ?_
   have hM := hM.pull (pre := [_, _])
   have hM := hM.pull (pre := [_])
   have hM := M.fst (l := [_, _]) hM
   exact ⟨hE.sub ⟨rfl, rfl, trivial⟩, hM⟩
 ·skip
  rintro a w ⟨hE, hM⟩
  refine Zx (Zc (Zp (cs := Flat.enc j7) hE Za (dl rfl) rfl ZP rfl (hM.rawAt (pre := [_])) (Flat.len _) ?_)); intro a hE
  refine Zs (seg := Flat.enc j7) (cs' := Flat.enc j7) hE hM Za rfl rfl rfl ZP (Flat.len _) (zle flq) (Flat.cell _) (Zq flq) ?_; intro w a hM hE
  refine Zf ?_
  have hr := Option.some.inj hF9
  subst hr
  have hq26 : YR Try.prog _ _ (.cell 4 39) _ := Z7 hE rfl ZP rfl (hM.rawAt (pre := [])) (Flat.len _) rfl
  have hM := M.fst (l := []) hM
  exact wp_ret (Zy hE rfl hq26 ⟨_, rfl, rfl, hM.kept⟩)
noncomputable def Yz (p0 : (Ref Gengine)) (s35 : (Vector UInt8 16) × Int) : Option (Fl ((Vector UInt8 16) × Int) (Vector UInt8 16)) :=
 if (decide (s35.2 < 16)) = true then ((ZN s35.1 s35.2).bind fun x42 => (ZN s35.1 (wr (s35.2 - 1))).bind fun x45 => (ZN p0.v.box (bI x45)).bind fun x58 => (ZN s35.1 s35.2).bind fun x61 => some (Fl.nx ((s35.1.setIfInBounds (s35.2).toNat (x42 ^^^ x58)), wr (s35.2 + 1)))) else (some (Fl.ex s35.1))
noncomputable def Y8 (p0 : (Ref Gengine)) (p1 : (Vector UInt8 16)) (p2 : Int) : Option ((Vector UInt8 16)) :=
 ((ZN p1 (0 : Int)).bind fun x10 => (ZN p1 (15 : Int)).bind fun x13 => (ZN p0.v.box (bI (x13 ^^^ (ZE p2)))).bind fun x26 => (ZN p1 (0 : Int)).bind fun x29 => some (p1.setIfInBounds ((0 : Int)).toNat (x10 ^^^ x26)) : Option ((Vector UInt8 16))).bind fun j5 => (ZG (Yz p0) (j5, 1) : Option ((Vector UInt8 16))).bind fun j32 => some j32
theorem c_impl_engine_nextKey (w0 : World) (p0 : (Ref Gengine)) (v0_1 : Value) (hv0_1 : Ro w0 p0 [v0_1]) (p1 : (Vector UInt8 16)) (p2 : Int) (r : (Vector UInt8 16)) (hF : Y8 p0 p1 p2 = some r) :
  Calls Try.prog 135 [v0_1, (Value.agg (Flat.enc p1).toArray), (vI p2)].toArray w0 (fun en w' => ∃ v, en = .returned v ∧ (v = (Value.agg (Flat.enc r).toArray) ∧ Kept (Old w0) w0 w')) := by
 refine ZC (n := 41) Try.func135 rfl rfl (Nat.le_of_ble_eq_true rfl) rfl ?_
 intro a hE
 have hM := M.start w0
 unfold Y8 at hF
 refine Zc (Z5 (cs := Flat.enc p1) hE hM Za (dl rfl) rfl rfl ?_); intro b1 w a hM hE
 refine ZO hE hM Za (dl rfl) ZP ?_; intro b3 w a hM hE
 refine Zf ?_
 obtain ⟨j5, hl6, hF7⟩ := bind_some hF
 refine ZS (fun a w => Env 41 a [(0, v0_1), (4, (ptr b1 0)), (6, (ptr b3 0))] ∧ M (Old w0) w0 w [raw b3 (Flat.enc (Vector.replicate 16 (0 : UInt8))), raw b1 (Flat.enc j5)]) ?_ ?_
 ·skip
  obtain ⟨x10, e11, hl6⟩ := bind_some hl6
  have hi9 := Zi e11
  obtain ⟨x13, e14, hl6⟩ := bind_some hl6
  have hi12 := Zi e14
  obtain ⟨pb15, ds16, hv17, hx18, hA19, hB20⟩ := Uc hv0_1 -- ^
  obtain ⟨u21, u23, rfl, h22, h24⟩ := un_Gengine hx18 -- ^
  obtain ⟨x26, e27, hl6⟩ := bind_some hl6
  have hi25 := Zi e27
  obtain ⟨x29, e30, hl6⟩ := bind_some hl6
  have hi28 := Zi e30
  refine Ye (n := 41) (hd := [_, _, _, _, _, _, _, _, _, _, _, _, _, _]) (tl := [_]) YB rfl rfl [8, 9, 10, 11, 12, 13, 14, 15, 16, 17, 18, 19, 20, 21] (by decide) (fun w => M (Old w0) w0 w [raw b3 (Flat.enc (Vector.replicate 16 (0 : UInt8))), raw b1 (Flat.enc p1)]) (fun j => ([fun v _ => v = (ptr b1 (0 + ((0 : Int)).toNat * 1)), fun v _ => v = (vB x10), fun v _ => v = v0_1, fun v _ => v = (ptr b1 (0 + ((15 : Int)).toNat * 1)), fun v _ => v = (vB x13), fun v _ => v = (vI p2), fun v _ => v = (vB (ZE p2)), fun v _ => v = (vB (x13 ^^^ (ZE p2))), fun v _ => v = (ptr pb15 0), fun v _ => v = (ptr pb15 (0 + 0)), fun v _ => v = (ptr pb15 (0 + 0 + ((bI (x13 ^^^ (ZE p2)))).toNat * 1)), fun v _ => v = (vB x26), fun v _ => v = (vB (x10 ^^^ x26)), fun v _ => v = (ptr b1 (0 + ((0 : Int)).toNat * 1))] : List (Value → World → Prop)).getD j (fun _ _ => True)) (fun _ _ h hk => h.keep hk) (gup (Zg (Zg (Zg (Zg (Zg (Zg (Zg (Zg (Zg (Zg (Zg (Zg (Zg (Zg Ww))))))))))))))) hE hM.drew (ZH (Zb ?_ (Zb ?_ (Zb ?_ (Zb ?_ (Zb ?_ (Zb ?_ (Zb ?_ (Zb ?_ (Zb ?_ (Zb ?_ (Zb ?_ (Zb ?_ (Zb ?_ (Zb ?_ ZD))))))))))))))) ?_
  ·intro a w ux8 hE hM hp
   refine Zm hE Za (dl rfl) rfl rfl Try.underlying39 ty5 hi9.1 ?_; intro a hE
   exact ⟨Kept.refl _ _, _, _, rfl, hE, rfl⟩
  ·intro a w ux8 hE hM hp
   have f0 : ux8 0 = (ptr b1 (0 + ((0 : Int)).toNat * 1)) := hp 0 _ rfl rfl
   refine Zv (v := (vB x10)) hE Za (dl rfl) (lk rfl f0) ty5 rfl (At.vec (hM.rawAt (pre := [_])) hi9.2) ?_; intro a hE
   exact ⟨Kept.refl _ _, _, _, rfl, hE, rfl⟩
  ·intro a w ux8 hE hM hp
   refine Zd hE Za (dl rfl) rfl ?_; intro a hE
   exact ⟨Kept.refl _ _, _, _, rfl, hE, rfl⟩
  ·intro a w ux8 hE hM hp
   refine Zm hE Za (dl rfl) rfl rfl Try.underlying39 ty5 hi12.1 ?_; intro a hE
   exact ⟨Kept.refl _ _, _, _, rfl, hE, rfl⟩
  ·intro a w ux8 hE hM hp
   have f3 : ux8 3 = (ptr b1 (0 + ((15 : Int)).toNat * 1)) := hp 0 _ rfl rfl
   refine Zv (v := (vB x13)) hE Za (dl rfl) (lk rfl f3) ty5 rfl (At.vec (hM.rawAt (pre := [_])) hi12.2) ?_; intro a hE
   exact ⟨Kept.refl _ _, _, _, rfl, hE, rfl⟩
  ·intro a w ux8 hE hM hp
   refine Zd hE Za (dl rfl) rfl ?_; intro a hE
   exact ⟨Kept.refl _ _, _, _, rfl, hE, rfl⟩
  ·intro a w ux8 hE hM hp
   have f5 : ux8 5 = (vI p2) := hp 0 _ rfl rfl
   refine YI hE Za (dl rfl) (lk rfl f5) Try.underlying2 Try.underlying5 ?_; intro a hE
   rw [Yh] at hE
   exact ⟨Kept.refl _ _, _, _, rfl, hE, rfl⟩
  ·intro a w ux8 hE hM hp
   have f4 : ux8 4 = (vB x13) := hp 0 _ rfl rfl
   have f6 : ux8 6 = (vB (ZE p2)) := hp 1 _ rfl rfl
   refine Zh hE Za (dl rfl) (lk rfl f4) (lk rfl f6) (Vn x13 (ZE p2)) ?_; intro a hE
   exact ⟨Kept.refl _ _, _, _, rfl, hE, rfl⟩
  ·intro a w ux8 hE hM hp
   have f2 : ux8 2 = v0_1 := hp 0 _ rfl rfl
   refine XF hE Za (dl rfl) (lk (lk rfl f2) hv17) ?_; intro a hE
   exact ⟨Kept.refl _ _, _, _, rfl, hE, rfl⟩
  ·intro a w ux8 hE hM hp
   have f8 : ux8 8 = (ptr pb15 0) := hp 0 _ rfl rfl
   refine Zo hE Za (dl rfl) (lk rfl f8) (fd152_0) ?_; intro a hE
   exact ⟨Kept.refl _ _, _, _, rfl, hE, rfl⟩
  ·intro a w ux8 hE hM hp
   have f7 : ux8 7 = (vB (x13 ^^^ (ZE p2))) := hp 1 _ rfl rfl
   have f9 : ux8 9 = (ptr pb15 (0 + 0)) := hp 0 _ rfl rfl
   refine Zm hE Za (dl rfl) (lk rfl f9) (lk rfl f7) Try.underlying97 ty5 hi25.1 ?_; intro a hE
   exact ⟨Kept.refl _ _, _, _, rfl, hE, rfl⟩
  ·intro a w ux8 hE hM hp
   have f10 : ux8 10 = (ptr pb15 (0 + 0 + ((bI (x13 ^^^ (ZE p2)))).toNat * 1)) := hp 0 _ rfl rfl
   refine Zv (v := (vB x26)) hE Za (dl rfl) (lk rfl f10) ty5 rfl (At.vec (At.cat (pre := []) (hM.atk hA19 hB20) cl0) hi25.2) ?_; intro a hE
   exact ⟨Kept.refl _ _, _, _, rfl, hE, rfl⟩
  ·intro a w ux8 hE hM hp
   have f1 : ux8 1 = (vB x10) := hp 0 _ rfl rfl
   have f11 : ux8 11 = (vB x26) := hp 1 _ rfl rfl
   refine Zh hE Za (dl rfl) (lk rfl f1) (lk rfl f11) (Vn x10 x26) ?_; intro a hE
   exact ⟨Kept.refl _ _, _, _, rfl, hE, rfl⟩
  ·intro a w ux8 hE hM hp
   refine Zm hE Za (dl rfl) rfl rfl Try.underlying39 ty5 hi28.1 ?_; intro a hE
   exact ⟨Kept.refl _ _, _, _, rfl, hE, rfl⟩
  ·intro a w ux8 hE hM hg
   have f0 : ux8 0 = (ptr b1 (0 + ((0 : Int)).toNat * 1)) := hg 0 (by decide)
   have f1 : ux8 1 = (vB x10) := hg 1 (by decide)
   have f2 : ux8 2 = v0_1 := hg 2 (by decide)
   have f3 : ux8 3 = (ptr b1 (0 + ((15 : Int)).toNat * 1)) := hg 3 (by decide)
   have f4 : ux8 4 = (vB x13) := hg 4 (by decide)
   have f5 : ux8 5 = (vI p2) := hg 5 (by decide)
   have f6 : ux8 6 = (vB (ZE p2)) := hg 6 (by decide)
   have f7 : ux8 7 = (vB (x13 ^^^ (ZE p2))) := hg 7 (by decide)
   have f8 : ux8 8 = (ptr pb15 0) := hg 8 (by decide)
   have f9 : ux8 9 = (ptr pb15 (0 + 0)) := hg 9 (by decide)
   have f10 : ux8 10 = (ptr pb15 (0 + 0 + ((bI (x13 ^^^ (ZE p2)))).toNat * 1)) := hg 10 (by decide)
   have f11 : ux8 11 = (vB x26) := hg 11 (by decide)
   have f12 : ux8 12 = (vB (x10 ^^^ x26)) := hg 12 (by decide)
   have f13 : ux8 13 = (ptr b1 (0 + ((0 : Int)).toNat * 1)) := hg 13 (by decide)
   have hE := hE.sub (e' := [(8, (ptr b1 (0 + ((0 : Int)).toNat * 1))), (9, (vB x10)), (10, v0_1), (11, (ptr b1 (0 + ((15 : Int)).toNat * 1))), (12, (vB x13)), (13, (vI p2)), (14, (vB (ZE p2))), (15, (vB (x13 ^^^ (ZE p2)))), (16, (ptr pb15 0)), (17, (ptr pb15 (0 + 0))), (18, (ptr pb15 (0 + 0 + ((bI (x13 ^^^ (ZE p2)))).toNat * 1))), (19, (vB x26)), (20, (vB (x10 ^^^ x26))), (21, (ptr b1 (0 + ((0 : Int)).toNat * 1))), (0, v0_1), (1, (Value.agg (Flat.enc p1).toArray)), (2, (vI p2)), (4, (ptr b1 0)), (6, (ptr b3 0))]) ⟨lk rfl f0, lk rfl f1, lk rfl f2, lk rfl f3, lk rfl f4, lk rfl f5, lk rfl f6, lk rfl f7, lk rfl f8, lk rfl f9, lk rfl f10, lk rfl f11, lk rfl f12, lk rfl f13, rfl, rfl, rfl, rfl, rfl, trivial⟩
   have hM := hM.pull (pre := [_])
   refine Zs (seg := [(vB (x10 ^^^ x26))]) (cs' := Flat.enc (p1.setIfInBounds ((0 : Int)).toNat (x10 ^^^ x26))) hE hM Za rfl rfl rfl ty5 rfl (ZT (v := p1) (x := x10 ^^^ x26) hi28.1) (Flat.cell (x10 ^^^ x26 : UInt8)) (ZI (v := p1) (x := x10 ^^^ x26) hi28.1) ?_; intro w a hM hE
   refine Zj ?_
   have ht31 := Option.some.inj hl6
   subst ht31
   refine Zl ?_
   have hM := hM.pull (pre := [_])
   exact ⟨hE.sub ⟨rfl, rfl, rfl, trivial⟩, hM⟩
 ·skip
  rintro a w ⟨hE, hM⟩
  refine wp_seq (Zc (Ze hE Za (dl rfl) rfl ?_)); intro a hE
  refine Zf ?_
  obtain ⟨j32, hl33, hF34⟩ := bind_some hF7
  refine ZW (fun a w => Env 41 a [(4, (ptr b1 0)), (6, (ptr b3 0))] ∧ M (Old w0) w0 w [raw b3 (Flat.enc (Vector.replicate 16 (0 : UInt8))), raw b1 (Flat.enc j32)]) ?_ ?_
  ·skip
   refine wp_block ?_
   refine ZM (fun (s35 : (Vector UInt8 16) × Int) a w => Env 41 a [(0, v0_1), (4, (ptr b1 0)), (6, (ptr b3 0)), (7, (vI s35.2))] ∧ M (Old w0) w0 w [raw b3 (Flat.enc (Vector.replicate 16 (0 : UInt8))), raw b1 (Flat.enc s35.1)]) hl33 ⟨hE.sub ⟨rfl, rfl, rfl, rfl, trivial⟩, hM⟩ ?_
   rintro s35 a w ⟨hE, hM⟩ o38 hs36 hx37
   unfold Yz at hs36
   refine wp_seq (Zc (Zd hE Za (dl rfl) rfl ?_)); intro a hE
   refine Zh hE Za (dl rfl) rfl rfl rfl ?_; intro a hE
   refine Zf ?_
   refine Zt hE rfl ?_ ?_
   ·intro hb39
    have hs36 := Zz hs36 hb39
    refine wp_skip (Zx (wp_seq (wp_block ?_)))
    obtain ⟨x42, e43, hs36⟩ := bind_some hs36
    have hi41 := Zi e43
    obtain ⟨x45, e46, hs36⟩ := bind_some hs36
    have hi44 := Zi e46
    obtain ⟨pb47, ds48, hv49, hx50, hA51, hB52⟩ := Uc hv0_1 -- ^
    obtain ⟨u53, u55, rfl, h54, h56⟩ := un_Gengine hx50 -- ^
    obtain ⟨x58, e59, hs36⟩ := bind_some hs36
    have hi57 := Zi e59
    obtain ⟨x61, e62, hs36⟩ := bind_some hs36
    have hi60 := Zi e62
    refine Ye (n := 41) (hd := [_, _, _, _, _, _, _, _, _, _, _, _, _, _]) (tl := [_]) YB rfl rfl [26, 27, 28, 29, 30, 31, 32, 33, 34, 35, 36, 37, 38, 39] (by decide) (fun w => M (Old w0) w0 w [raw b3 (Flat.enc (Vector.replicate 16 (0 : UInt8))), raw b1 (Flat.enc s35.1)]) (fun j => ([fun v _ => v = (vI s35.2), fun v _ => v = (ptr b1 (0 + (s35.2).toNat * 1)), fun v _ => v = (vB x42), fun v _ => v = v0_1, fun v _ => v = (vI s35.2), fun v _ => v = (vI (wr (s35.2 - 1))), fun v _ => v = (ptr b1 (0 + ((wr (s35.2 - 1))).toNat * 1)), fun v _ => v = (vB x45), fun v _ => v = (ptr pb47 0), fun v _ => v = (ptr pb47 (0 + 0)), fun v _ => v = (ptr pb47 (0 + 0 + ((bI x45)).toNat * 1)), fun v _ => v = (vB x58), fun v _ => v = (vB (x42 ^^^ x58)), fun v _ => v = (ptr b1 (0 + (s35.2).toNat * 1))] : List (Value → World → Prop)).getD j (fun _ _ => True)) (fun _ _ h hk => h.keep hk) (gup (Zg (Zg (Zg (Zg (Zg (Zg (Zg (Zg (Zg (Zg (Zg (Zg (Zg (Zg Ww))))))))))))))) hE hM.drew (ZH (Zb ?_ (Zb ?_ (Zb ?_ (Zb ?_ (Zb ?_ (Zb ?_ (Zb ?_ (Zb ?_ (Zb ?_ (Zb ?_ (Zb ?_ (Zb ?_ (Zb ?_ (Zb ?_ ZD))))))))))))))) ?_
    ·intro a w ux40 hE hM hp
     refine Zd hE Za (dl rfl) rfl ?_; intro a hE
     exact ⟨Kept.refl _ _, _, _, rfl, hE, rfl⟩
    ·intro a w ux40 hE hM hp
     have f0 : ux40 0 = (vI s35.2) := hp 0 _ rfl rfl
     refine Zm hE Za (dl rfl) rfl (lk rfl f0) Try.underlying39 ty5 hi41.1 ?_; intro a hE
     exact ⟨Kept.refl _ _, _, _, rfl, hE, rfl⟩
    ·intro a w ux40 hE hM hp
     have f1 : ux40 1 = (ptr b1 (0 + (s35.2).toNat * 1)) := hp 0 _ rfl rfl
     refine Zv (v := (vB x42)) hE Za (dl rfl) (lk rfl f1) ty5 rfl (At.vec (hM.rawAt (pre := [_])) hi41.2) ?_; intro a hE
     exact ⟨Kept.refl _ _, _, _, rfl, hE, rfl⟩
    ·intro a w ux40 hE hM hp
     refine Zd hE Za (dl rfl) rfl ?_; intro a hE
     exact ⟨Kept.refl _ _, _, _, rfl, hE, rfl⟩
    ·intro a w ux40 hE hM hp
     refine Zd hE Za (dl rfl) rfl ?_; intro a hE
     exact ⟨Kept.refl _ _, _, _, rfl, hE, rfl⟩
    ·intro a w ux40 hE hM hp
     have f4 : ux40 4 = (vI s35.2) := hp 0 _ rfl rfl
     refine Zh hE Za (dl rfl) (lk rfl f4) rfl rfl ?_; intro a hE
     exact ⟨Kept.refl _ _, _, _, rfl, hE, rfl⟩
    ·intro a w ux40 hE hM hp
     have f5 : ux40 5 = (vI (wr (s35.2 - 1))) := hp 0 _ rfl rfl
     refine Zm hE Za (dl rfl) rfl (lk rfl f5) Try.underlying39 ty5 hi44.1 ?_; intro a hE
     exact ⟨Kept.refl _ _, _, _, rfl, hE, rfl⟩
    ·intro a w ux40 hE hM hp
     have f6 : ux40 6 = (ptr b1 (0 + ((wr (s35.2 - 1))).toNat * 1)) := hp 0 _ rfl rfl
     refine Zv (v := (vB x45)) hE Za (dl rfl) (lk rfl f6) ty5 rfl (At.vec (hM.rawAt (pre := [_])) hi44.2) ?_; intro a hE
     exact ⟨Kept.refl _ _, _, _, rfl, hE, rfl⟩
    ·intro a w ux40 hE hM hp
     have f3 : ux40 3 = v0_1 := hp 0 _ rfl rfl
     refine XF hE Za (dl rfl) (lk (lk rfl f3) hv49) ?_; intro a hE
     exact ⟨Kept.refl _ _, _, _, rfl, hE, rfl⟩
    ·intro a w ux40 hE hM hp
     have f8 : ux40 8 = (ptr pb47 0) := hp 0 _ rfl rfl
     refine Zo hE Za (dl rfl) (lk rfl f8) (fd152_0) ?_; intro a hE
     exact ⟨Kept.refl _ _, _, _, rfl, hE, rfl⟩
    ·intro a w ux40 hE hM hp
     have f7 : ux40 7 = (vB x45) := hp 1 _ rfl rfl
     have f9 : ux40 9 = (ptr pb47 (0 + 0)) := hp 0 _ rfl rfl
     refine Zm hE Za (dl rfl) (lk rfl f9) (lk rfl f7) Try.underlying97 ty5 hi57.1 ?_; intro a hE
     exact ⟨Kept.refl _ _, _, _, rfl, hE, rfl⟩
    ·intro a w ux40 hE hM hp
     have f10 : ux40 10 = (ptr pb47 (0 + 0 + ((bI x45)).toNat * 1)) := hp 0 _ rfl rfl
     refine Zv (v := (vB x58)) hE Za (dl rfl) (lk rfl f10) ty5 rfl (At.vec (At.cat (pre := []) (hM.atk hA51 hB52) cl0) hi57.2) ?_; intro a hE
     exact ⟨Kept.refl _ _, _, _, rfl, hE, rfl⟩
    ·intro a w ux40 hE hM hp
     have f2 : ux40 2 = (vB x42) := hp 0 _ rfl rfl
     have f11 : ux40 11 = (vB x58) := hp 1 _ rfl rfl
     refine Zh hE Za (dl rfl) (lk rfl f2) (lk rfl f11) (Vn x42 x58) ?_; intro a hE
     exact ⟨Kept.refl _ _, _, _, rfl, hE, rfl⟩
    ·intro a w ux40 hE hM hp
     have f0 : ux40 0 = (vI s35.2) := hp 0 _ rfl rfl
     refine Zm hE Za (dl rfl) rfl (lk rfl f0) Try.underlying39 ty5 hi60.1 ?_; intro a hE
     exact ⟨Kept.refl _ _, _, _, rfl, hE, rfl⟩
    ·intro a w ux40 hE hM hg
     have f0 : ux40 0 = (vI s35.2) := hg 0 (by decide)
     have f1 : ux40 1 = (ptr b1 (0 + (s35.2).toNat * 1)) := hg 1 (by decide)
     have f2 : ux40 2 = (vB x42) := hg 2 (by decide)
     have f3 : ux40 3 = v0_1 := hg 3 (by decide)
     have f4 : ux40 4 = (vI s35.2) := hg 4 (by decide)
     have f5 : ux40 5 = (vI (wr (s35.2 - 1))) := hg 5 (by decide)
     have f6 : ux40 6 = (ptr b1 (0 + ((wr (s35.2 - 1))).toNat * 1)) := hg 6 (by decide)
     have f7 : ux40 7 = (vB x45) := hg 7 (by decide)
     have f8 : ux40 8 = (ptr pb47 0) := hg 8 (by decide)
     have f9 : ux40 9 = (ptr pb47 (0 + 0)) := hg 9 (by decide)
     have f10 : ux40 10 = (ptr pb47 (0 + 0 + ((bI x45)).toNat * 1)) := hg 10 (by decide)
     have f11 : ux40 11 = (vB x58) := hg 11 (by decide)
     have f12 : ux40 12 = (vB (x42 ^^^ x58)) := hg 12 (by decide)
     have f13 : ux40 13 = (ptr b1 (0 + (s35.2).toNat * 1)) := hg 13 (by decide)
     have hE := hE.sub (e' := [(26, (vI s35.2)), (27, (ptr b1 (0 + (s35.2).toNat * 1))), (28, (vB x42)), (29, v0_1), (30, (vI s35.2)), (31, (vI (wr (s35.2 - 1)))), (32, (ptr b1 (0 + ((wr (s35.2 - 1))).toNat * 1))), (33, (vB x45)), (34, (ptr pb47 0)), (35, (ptr pb47 (0 + 0))), (36, (ptr pb47 (0 + 0 + ((bI x45)).toNat * 1))), (37, (vB x58)), (38, (vB (x42 ^^^ x58))), (39, (ptr b1 (0 + (s35.2).toNat * 1))), (0, v0_1), (4, (ptr b1 0)), (6, (ptr b3 0)), (7, (vI s35.2)), (22, (vI s35.2)), (23, (vT (decide (s35.2 < 16))))]) ⟨lk rfl f0, lk rfl f1, lk rfl f2, lk rfl f3, lk rfl f4, lk rfl f5, lk rfl f6, lk rfl f7, lk rfl f8, lk rfl f9, lk rfl f10, lk rfl f11, lk rfl f12, lk rfl f13, rfl, rfl, rfl, rfl, rfl, rfl, trivial⟩
     have hM := hM.pull (pre := [_])
     refine Zs (seg := [(vB (x42 ^^^ x58))]) (cs' := Flat.enc (s35.1.setIfInBounds (s35.2).toNat (x42 ^^^ x58))) hE hM Za rfl rfl rfl ty5 rfl (ZT (v := s35.1) (x := x42 ^^^ x58) hi60.1) (Flat.cell (x42 ^^^ x58 : UInt8)) (ZI (v := s35.1) (x := x42 ^^^ x58) hi60.1) ?_; intro w a hM hE
     refine Zj (Yj (Zx (wp_region_lit (Zd hE Za (dl rfl) rfl ?_)))); intro a hE
     refine Zh hE Za (dl rfl) rfl rfl rfl ?_; intro a hE
     refine Ze hE Za (dl rfl) rfl ?_; intro a hE
     refine Zj (Zl ?_)
     have hM := hM.pull (pre := [_])
     exact ⟨_, (Option.some.inj hs36).symm, hE.sub ⟨rfl, rfl, rfl, rfl, trivial⟩, hM⟩
   ·intro hb39
    have hs36 := ZA hs36 hb39
    refine wp_exit (Zr (Zr (Yk ?_)))
    have ht63 := hx37 _ (Option.some.inj hs36).symm
    subst ht63
    refine Zl ?_
    exact ⟨hE.sub ⟨rfl, rfl, trivial⟩, hM⟩
  ·skip
   rintro a w ⟨hE, hM⟩
   refine Zx (Zc (Zp (cs := Flat.enc j32) hE Za (dl rfl) rfl ZP rfl (hM.rawAt (pre := [_])) (Flat.len _) ?_)); intro a hE
   refine Zs (seg := Flat.enc j32) (cs' := Flat.enc j32) hE hM Za rfl rfl rfl ZP (Flat.len _) (zle flq) (Flat.cell _) (Zq flq) ?_; intro w a hM hE
   refine Zf ?_
   have hr := Option.some.inj hF34
   subst hr
   have hq64 : YR Try.prog _ _ (.cell 6 39) _ := Z7 hE rfl ZP rfl (hM.rawAt (pre := [])) (Flat.len _) rfl
   have hM := M.fst (l := []) hM
   exact wp_ret (Zy hE rfl hq64 ⟨_, rfl, rfl, hM.kept⟩)
noncomputable def Y4 (p0 : (Ref Gengine)) (p2 : Int) (s10 : (Vector UInt8 16) × (List (Vector UInt8 16)) × Int) : Option (Fl ((Vector UInt8 16) × (List (Vector UInt8 16)) × Int) (List (Vector UInt8 16))) :=
 if (decide (s10.2.2 ≤ p2)) = true then ((Y8 p0 s10.1 s10.2.2).bind fun r17 => (app 16 s10.2.1 ([r17] : List (Vector UInt8 16))).bind fun l21 => some (Fl.nx (r17, (s10.2.1 ++ ([r17] : List (Vector UInt8 16))), wr (s10.2.2 + 1)))) else (some (Fl.ex s10.2.1))
noncomputable def X3 (p0 : (Ref Gengine)) (p1 : (Vector UInt8 16)) (p2 : Int) : Option ((List (Vector UInt8 16))) :=
 (ZG (Y4 p0 p2) (p1, ([p1] : List (Vector UInt8 16)), 1) : Option ((List (Vector UInt8 16)))).bind fun j5 => some j5
theorem c_impl_engine_keys (w0 : World) (p0 : (Ref Gengine)) (v0_1 : Value) (hv0_1 : Ro w0 p0 [v0_1]) (p1 : (Vector UInt8 16)) (p2 : Int) (r : (List (Vector UInt8 16))) (hF : X3 p0 p1 p2 = some r) :
  Calls Try.prog 130 [v0_1, (Value.agg (Flat.enc p1).toArray), (vI p2)].toArray w0 (fun en w' => ∃ v, en = .returned v ∧ (∃ (y1 : Value), v = y1 ∧ Fr w0 w' [osl NoB (r : List (Vector UInt8 16)) y1] ∧ Kept (Old w0) w0 w')) := by
 refine ZC (n := 25) Try.func130 rfl rfl (Nat.le_of_ble_eq_true rfl) rfl ?_
 intro a hE
 have hM := M.start w0
 unfold X3 at hF
 refine Zc (Z5 (cs := Flat.enc p1) hE hM Za (dl rfl) rfl rfl ?_); intro b1 w a hM hE
 refine Ze hE Za (dl rfl) rfl ?_; intro a hE
 refine Zf (Zc (Zp (cs := Flat.enc p1) hE Za (dl rfl) rfl ZP rfl (hM.rawAt (pre := [])) (Flat.len _) ?_)); intro a hE
 refine Xb (xs := [.tmp 9]) (l := ([p1] : List (Vector UInt8 16))) (vs := [(Value.agg (Flat.enc p1).toArray)]) hE hM Za (dl rfl) rfl rfl Try.underlying34 ZP rfl (by decide) rfl ?_; intro u3 w a hM hE
 refine Ze hE Za (dl rfl) rfl ?_; intro a hE
 refine Zf (wp_seq (Zc (Ze hE Za (dl rfl) rfl ?_))); intro a hE
 refine Zf ?_
 obtain ⟨j5, hl6, hF7⟩ := bind_some hF
 refine ZW (fun a w => ∃ (u8 : Value), Env 25 a [(7, u8)] ∧ M (Old w0) w0 w [osl NoB (j5 : List (Vector UInt8 16)) u8]) ?_ ?_
 ·skip
  refine wp_block ?_
  have hM := hM.pull (pre := [_])
  refine ZM (fun (s10 : (Vector UInt8 16) × (List (Vector UInt8 16)) × Int) a w => ∃ (u11 : Value), Env 25 a [(0, v0_1), (2, (vI p2)), (4, (ptr b1 0)), (7, u11), (8, (vI s10.2.2))] ∧ M (Old w0) w0 w [raw b1 (Flat.enc s10.1), osl NoB (s10.2.1 : List (Vector UInt8 16)) u11]) hl6 ⟨u3, hE.sub ⟨rfl, rfl, rfl, rfl, rfl, trivial⟩, hM⟩ ?_
  rintro s10 a w ⟨u11, hE, hM⟩ o15 hs13 hx14
  unfold Y4 at hs13
  refine wp_seq (Zc (Zd hE Za (dl rfl) rfl ?_)); intro a hE
  refine Zd hE Za (dl rfl) rfl ?_; intro a hE
  refine Zh hE Za (dl rfl) rfl rfl rfl ?_; intro a hE
  refine Zf ?_
  refine Zt hE rfl ?_ ?_
  ·intro hb16
   have hs13 := Zz hs13 hb16
   refine wp_skip (Zx (wp_seq (wp_block (Zc (Zd hE Za (dl rfl) rfl ?_))))); intro a hE
   refine Zp (cs := Flat.enc s10.1) hE Za (dl rfl) rfl ZP rfl (hM.rawAt (pre := [])) (Flat.len _) ?_; intro a hE
   refine Zd hE Za (dl rfl) rfl ?_; intro a hE
   obtain ⟨r17, e18, hs13⟩ := bind_some hs13
   refine Zw (vs := [v0_1, (Value.agg (Flat.enc s10.1).toArray), (vI s10.2.2)]) hE Za (dl rfl) rfl cb135 (c_impl_engine_nextKey _ p0 v0_1 (hM.rdo hv0_1) s10.1 s10.2.2 r17 e18) ?_
   rintro v w a ⟨rfl, hK⟩ hE
   have hM := hM.keep hK
   refine Zs (seg := Flat.enc r17) (cs' := Flat.enc r17) hE hM Za rfl rfl rfl ZP (Flat.len _) (zle flq) (Flat.cell _) (Zq flq) ?_; intro w a hM hE
   refine Zf (wp_region_lit (Zd hE Za (dl rfl) rfl ?_)); intro a hE
   refine Zp (cs := Flat.enc r17) hE Za (dl rfl) rfl ZP rfl (hM.rawAt (pre := [])) (Flat.len _) ?_; intro a hE
   refine Xb (xs := [.tmp 21]) (l := ([r17] : List (Vector UInt8 16))) (vs := [(Value.agg (Flat.enc r17).toArray)]) hE hM Za (dl rfl) rfl rfl Try.underlying34 ZP rfl (by decide) rfl ?_; intro u19 w a hM hE
   obtain ⟨l21, e22, hs13⟩ := bind_some hs13
   obtain ⟨e25, rfl⟩ := Wr e22
   have hM := hM.pull (pre := [_, _])
   refine Xv hE hM Za (dl rfl) rfl rfl (hM.sl (pre := [_]) noB) Try.underlying34 ZP rfl (by decide) e25 ?_; intro u23 w a hM hE
   refine Ze hE Za (dl rfl) rfl ?_; intro a hE
   refine Zj (Yj (Zx (wp_region_lit (Zd hE Za (dl rfl) rfl ?_)))); intro a hE
   refine Zh hE Za (dl rfl) rfl rfl rfl ?_; intro a hE
   refine Ze hE Za (dl rfl) rfl ?_; intro a hE
   refine Zj (Zl ?_)
   have hM := hM.pull (pre := [_, _])
   have hM := M.fst (l := [_, _]) hM
   exact ⟨_, (Option.some.inj hs13).symm, u23, hE.sub ⟨rfl, rfl, rfl, rfl, rfl, trivial⟩, hM⟩
  ·intro hb16
   have hs13 := ZA hs13 hb16
   refine wp_exit (Zr (Zr (Yk ?_)))
   have ht26 := hx14 _ (Option.some.inj hs13).symm
   subst ht26
   refine Zl ?_
   have hM := hM.pull (pre := [_])
   have hM := M.fst (l := [_]) hM
   exact ⟨u11, hE.sub ⟨rfl, trivial⟩, hM⟩
 ·skip
  rintro a w ⟨u8, hE, hM⟩
  refine Zx (Zc (Zd hE Za (dl rfl) rfl ?_)); intro a hE
  refine Ze hE Za (dl rfl) rfl ?_; intro a hE
  refine Zf ?_
  have hr := Option.some.inj hF7
  subst hr
  exact wp_ret (Zy hE rfl (Zu hE rfl) ⟨_, rfl, u8, rfl, hM.outF (Vr W0), hM.kept⟩)
noncomputable def Y1 (p0 : (Vector UInt8 16)) (p1 : (Vector UInt8 16)) (s12 : (Vector UInt8 16) × Int) : Option (Fl ((Vector UInt8 16) × Int) (Vector UInt8 16)) :=
 if (decide (s12.2 < 16)) = true then ((ZN p0 s12.2).bind fun x17 => (ZN p1 (bI x17)).bind fun x21 => (ZN s12.1 s12.2).bind fun x24 => some (Fl.nx ((s12.1.setIfInBounds (s12.2).toNat x21), wr (s12.2 + 1)))) else (some (Fl.ex s12.1))
noncomputable def X2 (p0 : (Vector UInt8 16)) (p1 : (Vector UInt8 16)) : Option ((Vector UInt8 16)) :=
 (ZG (Y1 p0 p1) ((Vector.replicate 16 (0 : UInt8)), 0) : Option ((Vector UInt8 16))).bind fun j9 => some j9
theorem c_impl_Places_move (w0 : World) (p0 : (Vector UInt8 16)) (p1 : (Vector UInt8 16)) (r : (Vector UInt8 16)) (hF : X2 p0 p1 = some r) :
  Calls Try.prog 133 [(Value.agg (Flat.enc p0).toArray), (Value.agg (Flat.enc p1).toArray)].toArray w0 (fun en w' => ∃ v, en = .returned v ∧ (v = (Value.agg (Flat.enc r).toArray) ∧ Kept (Old w0) w0 w')) := by
 refine ZC (n := 21) Try.func133 rfl rfl (Nat.le_of_ble_eq_true rfl) rfl ?_
 intro a hE
 have hM := M.start w0
 unfold X2 at hF
 refine Zc (Z5 (cs := Flat.enc p0) hE hM Za (dl rfl) rfl rfl ?_); intro b1 w a hM hE
 refine Z5 (cs := Flat.enc p1) hE hM Za (dl rfl) rfl rfl ?_; intro b3 w a hM hE
 refine ZO hE hM Za (dl rfl) ZP ?_; intro b5 w a hM hE
 refine Zf (Zc (Xm (parts := []) (vs := []) (cs := Flat.enc (Vector.replicate 16 (0 : UInt8))) hE Za (dl rfl) rfl rfl ZP rfl ty5 YO ?_)); intro a hE
 refine ZO hE hM Za (dl rfl) ZP ?_; intro b7 w a hM hE
 refine Zs (seg := Flat.enc (Vector.replicate 16 (0 : UInt8))) (cs' := Flat.enc (Vector.replicate 16 (0 : UInt8))) hE hM Za rfl rfl rfl ZP (Flat.len _) (zle flq) (Flat.cell _) (Zq flq) ?_; intro w a hM hE
 refine Zf (wp_seq (Zc (Zp (cs := Flat.enc p0) hE Za (dl rfl) rfl ty101 rfl (hM.rawAt (pre := [_, _, _])) (Flat.len _) ?_))); intro a hE
 refine Zd hE Za (dl rfl) rfl ?_; intro a hE
 refine Zf ?_
 obtain ⟨j9, hl10, hF11⟩ := bind_some hF
 refine ZW (fun a w => Env 21 a [(4, (ptr b5 0)), (5, (ptr b7 0))] ∧ M (Old w0) w0 w [raw b7 (Flat.enc j9), raw b5 (Flat.enc (Vector.replicate 16 (0 : UInt8)))]) ?_ ?_
 ·skip
  refine wp_block ?_
  have hM := hM.pull (pre := [_, _])
  have hM := hM.pull (pre := [_, _])
  have hM := hM.pull (pre := [_, _])
  have hM := M.fst (l := [_, _, _]) hM
  refine ZM (fun (s12 : (Vector UInt8 16) × Int) a w => Env 21 a [(3, (ptr b3 0)), (4, (ptr b5 0)), (5, (ptr b7 0)), (9, (Value.agg (Flat.enc p0).toArray)), (10, (vI s12.2))] ∧ M (Old w0) w0 w [raw b7 (Flat.enc s12.1), raw b5 (Flat.enc (Vector.replicate 16 (0 : UInt8))), raw b3 (Flat.enc p1)]) hl10 ⟨hE.sub ⟨rfl, rfl, rfl, rfl, rfl, trivial⟩, hM⟩ ?_
  rintro s12 a w ⟨hE, hM⟩ o15 hs13 hx14
  unfold Y1 at hs13
  refine Zc (Zh hE Za (dl rfl) rfl rfl rfl ?_); intro a hE
  refine Zf (wp_seq ?_)
  refine Zt hE rfl ?_ ?_
  ·intro hb16
   have hs13 := Zz hs13 hb16
   refine wp_skip (Zx (wp_seq (wp_block (Zc (Zd hE Za (dl rfl) rfl ?_))))); intro a hE
   obtain ⟨x17, e18, hs13⟩ := bind_some hs13
   have hi19 := Zi e18
   refine s_indexV hE Za (dl rfl) rfl rfl Try.underlying101 ty5 rfl rfl hi19 rfl ?_; intro a hE
   refine Ze hE Za (dl rfl) rfl ?_; intro a hE
   refine Ze hE Za (dl rfl) rfl ?_; intro a hE
   refine Zf (wp_region_lit (Zd hE Za (dl rfl) rfl ?_)); intro a hE
   refine Zd hE Za (dl rfl) rfl ?_; intro a hE
   obtain ⟨x21, e22, hs13⟩ := bind_some hs13
   have hi20 := Zi e22
   refine Zm hE Za (dl rfl) rfl rfl Try.underlying39 ty5 hi20.1 ?_; intro a hE
   refine Zv (v := (vB x21)) hE Za (dl rfl) rfl ty5 rfl (At.vec (hM.rawAt (pre := [_, _])) hi20.2) ?_; intro a hE
   obtain ⟨x24, e25, hs13⟩ := bind_some hs13
   have hi23 := Zi e25
   refine Zm hE Za (dl rfl) rfl rfl Try.underlying39 ty5 hi23.1 ?_; intro a hE
   refine Zs (seg := [(vB x21)]) (cs' := Flat.enc (s12.1.setIfInBounds (s12.2).toNat x21)) hE hM Za rfl rfl rfl ty5 rfl (ZT (v := s12.1) (x := x21) hi23.1) (Flat.cell (x21 : UInt8)) (ZI (v := s12.1) (x := x21) hi23.1) ?_; intro w a hM hE
   refine Zj (Yj (Zx (wp_region_lit (Zh hE Za (dl rfl) rfl rfl rfl ?_)))); intro a hE
   refine Zd hE Za (dl rfl) rfl ?_; intro a hE
   refine Zj (Zl ?_)
   exact ⟨_, (Option.some.inj hs13).symm, hE.sub ⟨rfl, rfl, rfl, rfl, rfl, trivial⟩, hM⟩
  ·intro hb16
   have hs13 := ZA hs13 hb16
   refine wp_exit (Zr (Zr (Yk ?_)))
   have ht26 := hx14 _ (Option.some.inj hs13).symm
   subst ht26
   refine Zl ?_
   have hM := hM.pull (pre := [_])
   have hM := hM.pull (pre := [_])
   have hM := M.fst (l := [_, _]) hM
   exact ⟨hE.sub ⟨rfl, rfl, trivial⟩, hM⟩
 ·skip
  rintro a w ⟨hE, hM⟩
  refine Zx (Zc (Zp (cs := Flat.enc j9) hE Za (dl rfl) rfl ZP rfl (hM.rawAt (pre := [])) (Flat.len _) ?_)); intro a hE
  have hM := hM.pull (pre := [_])
  refine Zs (seg := Flat.enc j9) (cs' := Flat.enc j9) hE hM Za rfl rfl rfl ZP (Flat.len _) (zle flq) (Flat.cell _) (Zq flq) ?_; intro w a hM hE
  refine Zf ?_
  have hr := Option.some.inj hF11
  subst hr
  have hq27 : YR Try.prog _ _ (.cell 4 39) _ := Z7 hE rfl ZP rfl (hM.rawAt (pre := [])) (Flat.len _) rfl
  have hM := M.fst (l := []) hM
  exact wp_ret (Zy hE rfl hq27 ⟨_, rfl, rfl, hM.kept⟩)
noncomputable def XD (p0 : (Ref (Vector (Vector (Vector UInt8 256) 4) 4))) (s4 : (Vector UInt8 16) × Int) (j9 : UInt8 × UInt8 × UInt8 × UInt8) (s29 : (Vector UInt8 16) × Int) : Option (Fl ((Vector UInt8 16) × Int) (Vector UInt8 16)) :=
 if (decide (s29.2 < 4)) = true then ((ZN p0.v s29.2).bind fun x42 => (ZN x42 (0 : Int)).bind fun x45 => (ZN x45 (bI j9.1)).bind fun x48 => (ZN p0.v s29.2).bind fun x57 => (ZN x57 (1 : Int)).bind fun x60 => (ZN x60 (bI j9.2.1)).bind fun x63 => (ZN p0.v s29.2).bind fun x72 => (ZN x72 (2 : Int)).bind fun x75 => (ZN x75 (bI j9.2.2.1)).bind fun x78 => (ZN p0.v s29.2).bind fun x87 => (ZN x87 (3 : Int)).bind fun x90 => (ZN x90 (bI j9.2.2.2)).bind fun x93 => (ZN s29.1 (wr (s4.2 + s29.2))).bind fun x95 => some (Fl.nx ((s29.1.setIfInBounds ((wr (s4.2 + s29.2))).toNat (((x48 ^^^ x63) ^^^ x78) ^^^ x93)), wr (s29.2 + 1)))) else (some (Fl.ex s29.1))
noncomputable def XA (p0 : (Ref (Vector (Vector (Vector UInt8 256) 4) 4))) (s4 : (Vector UInt8 16) × Int) : Option (Fl ((Vector UInt8 16) × Int) (Vector UInt8 16)) :=
 if (decide (s4.2 < (s4.1.toList.length : Int))) = true then (((ZN s4.1 s4.2).bind fun x13 => (ZN s4.1 (wr (s4.2 + 1))).bind fun x16 => (ZN s4.1 (wr (s4.2 + 2))).bind fun x19 => (ZN s4.1 (wr (s4.2 + 3))).bind fun x22 => some (x13, x16, x19, x22) : Option (UInt8 × UInt8 × UInt8 × UInt8)).bind fun j9 => (ZG (XD p0 s4 j9) (s4.1, 0) : Option ((Vector UInt8 16))).bind fun j26 => some (Fl.nx (j26, wr (s4.2 + 4)))) else (some (Fl.ex s4.1))
noncomputable def WR (p0 : (Ref (Vector (Vector (Vector UInt8 256) 4) 4))) (p1 : (Vector UInt8 16)) : Option ((Vector UInt8 16)) :=
 (ZG (XA p0) (p1, 0) : Option ((Vector UInt8 16))).bind fun j1 => some j1
theorem c_impl_mixer_mix (St : Nat → Prop) (W w0 : World) (its : List Item) (p0 : (Ref (Vector (Vector (Vector UInt8 256) 4) 4))) (v0_1 : Value) (hv0_1 : Rep.sat St W p0 [v0_1] []) (pb1 : Nat) (p1 : (Vector UInt8 16)) (hM : M St W w0 (raw pb1 (Flat.enc p1) :: its)) (r : (Vector UInt8 16)) (hF : WR p0 p1 = some r) :
  Calls Try.prog 134 [v0_1, (Value.slice (some ⟨pb1, 0, none⟩) 16 16)].toArray w0 (fun en w' => ∃ v, en = .returned v ∧ (v = (Value.tuple [].toArray) ∧ M St W w' (raw pb1 (Flat.enc r) :: its))) := by
 refine ZC (n := 79) Try.func134 rfl rfl (Nat.le_of_ble_eq_true rfl) rfl ?_
 intro a hE
 unfold WR at hF
 refine Zc (Ze hE Za (dl rfl) rfl ?_); intro a hE
 refine Zf ?_
 obtain ⟨j1, hl2, hF3⟩ := bind_some hF
 refine ZW (fun a w => Env 79 a [(1, (Value.slice (some ⟨pb1, 0, none⟩) 16 16))] ∧ M St W w (raw pb1 (Flat.enc j1) :: its)) ?_ ?_
 ·skip
  refine wp_block ?_
  refine ZM (fun (s4 : (Vector UInt8 16) × Int) a w => Env 79 a [(0, v0_1), (1, (Value.slice (some ⟨pb1, 0, none⟩) 16 16)), (4, (vI s4.2))] ∧ M St W w (raw pb1 (Flat.enc s4.1) :: its)) hl2 ⟨hE.sub ⟨rfl, rfl, rfl, trivial⟩, hM⟩ ?_
  rintro s4 a w ⟨hE, hM⟩ o7 hs5 hx6
  unfold XA at hs5
  refine wp_seq (Zc (Zd hE Za (dl rfl) rfl ?_)); intro a hE
  refine Zd hE Za (dl rfl) rfl ?_; intro a hE
  refine Z8 hE Za (dl rfl) rfl Try.underlying50 (raw_full (hM.rawAt (pre := []))) ?_; intro a hE
  refine Zh hE Za (dl rfl) rfl rfl rfl ?_; intro a hE
  refine Zf ?_
  refine Zt hE rfl ?_ ?_
  ·intro hb8
   have hs5 := Zz hs5 hb8
   refine wp_skip (Zx (wp_seq (wp_block ?_)))
   obtain ⟨j9, hl10, hF11⟩ := bind_some hs5
   refine ZS (fun a w => Env 79 a [(0, v0_1), (1, (Value.slice (some ⟨pb1, 0, none⟩) 16 16)), (4, (vI s4.2)), (5, (vB j9.1)), (6, (vB j9.2.1)), (7, (vB j9.2.2.1)), (8, (vB j9.2.2.2))] ∧ M St W w (raw pb1 (Flat.enc s4.1) :: its)) ?_ ?_
   ·skip
    obtain ⟨x13, e14, hl10⟩ := bind_some hl10
    have hi15 := Zi e14
    obtain ⟨x16, e17, hl10⟩ := bind_some hl10
    have hi18 := Zi e17
    obtain ⟨x19, e20, hl10⟩ := bind_some hl10
    have hi21 := Zi e20
    obtain ⟨x22, e23, hl10⟩ := bind_some hl10
    have hi24 := Zi e23
    refine Ye (n := 79) (hd := [_, _, _, _, _, _, _, _, _, _, _, _, _, _, _, _, _, _, _, _, _, _, _]) (tl := []) YB rfl rfl [16, 17, 18, 19, 20, 21, 22, 23, 24, 25, 26, 27, 28, 29, 30, 31, 32, 33, 34, 5, 6, 7, 8] (by decide) (fun w => M St W w (raw pb1 (Flat.enc s4.1) :: its)) (fun j => ([fun v _ => v = (Value.slice (some ⟨pb1, 0, none⟩) 16 16), fun v _ => v = (vI s4.2), fun v _ => v = (ptr pb1 (0 + (s4.2).toNat * 1)), fun v _ => v = (vB x13), fun v _ => v = (Value.slice (some ⟨pb1, 0, none⟩) 16 16), fun v _ => v = (vI s4.2), fun v _ => v = (vI (wr (s4.2 + 1))), fun v _ => v = (ptr pb1 (0 + ((wr (s4.2 + 1))).toNat * 1)), fun v _ => v = (vB x16), fun v _ => v = (Value.slice (some ⟨pb1, 0, none⟩) 16 16), fun v _ => v = (vI s4.2), fun v _ => v = (vI (wr (s4.2 + 2))), fun v _ => v = (ptr pb1 (0 + ((wr (s4.2 + 2))).toNat * 1)), fun v _ => v = (vB x19), fun v _ => v = (Value.slice (some ⟨pb1, 0, none⟩) 16 16), fun v _ => v = (vI s4.2), fun v _ => v = (vI (wr (s4.2 + 3))), fun v _ => v = (ptr pb1 (0 + ((wr (s4.2 + 3))).toNat * 1)), fun v _ => v = (vB x22), fun v _ => v = (vB x13), fun v _ => v = (vB x16), fun v _ => v = (vB x19), fun v _ => v = (vB x22)] : List (Value → World → Prop)).getD j (fun _ _ => True)) (fun _ _ h hk => h.keep hk) (gup (Zg (Zg (Zg (Zg (Zg (Zg (Zg (Zg (Zg (Zg (Zg (Zg (Zg (Zg (Zg (Zg (Zg (Zg (Zg (Zg (Zg (Zg (Zg Ww)))))))))))))))))))))))) hE hM.drew (ZH (Zb ?_ (Zb ?_ (Zb ?_ (Zb ?_ (Zb ?_ (Zb ?_ (Zb ?_ (Zb ?_ (Zb ?_ (Zb ?_ (Zb ?_ (Zb ?_ (Zb ?_ (Zb ?_ (Zb ?_ (Zb ?_ (Zb ?_ (Zb ?_ (Zb ?_ (Zb ?_ (Zb ?_ (Zb ?_ (Zb ?_ ZD)))))))))))))))))))))))) ?_
    ·intro a w ux12 hE hM hp
     refine Zd hE Za (dl rfl) rfl ?_; intro a hE
     exact ⟨Kept.refl _ _, _, _, rfl, hE, rfl⟩
    ·intro a w ux12 hE hM hp
     refine Zd hE Za (dl rfl) rfl ?_; intro a hE
     exact ⟨Kept.refl _ _, _, _, rfl, hE, rfl⟩
    ·intro a w ux12 hE hM hp
     have f0 : ux12 0 = (Value.slice (some ⟨pb1, 0, none⟩) 16 16) := hp 0 _ rfl rfl
     have f1 : ux12 1 = (vI s4.2) := hp 1 _ rfl rfl
     refine s_indexFull hE Za (dl rfl) (lk rfl f0) (lk rfl f1) Try.underlying50 ty5 hi15.1 ?_; intro a hE
     exact ⟨Kept.refl _ _, _, _, rfl, hE, rfl⟩
    ·intro a w ux12 hE hM hp
     have f2 : ux12 2 = (ptr pb1 (0 + (s4.2).toNat * 1)) := hp 0 _ rfl rfl
     refine Zv (v := (vB x13)) hE Za (dl rfl) (lk rfl f2) ty5 rfl (At.vec (hM.rawAt (pre := [])) hi15.2) ?_; intro a hE
     exact ⟨Kept.refl _ _, _, _, rfl, hE, rfl⟩
    ·intro a w ux12 hE hM hp
     refine Zd hE Za (dl rfl) rfl ?_; intro a hE
     exact ⟨Kept.refl _ _, _, _, rfl, hE, rfl⟩
    ·intro a w ux12 hE hM hp
     refine Zd hE Za (dl rfl) rfl ?_; intro a hE
     exact ⟨Kept.refl _ _, _, _, rfl, hE, rfl⟩
    ·intro a w ux12 hE hM hp
     have f5 : ux12 5 = (vI s4.2) := hp 0 _ rfl rfl
     refine Zh hE Za (dl rfl) (lk rfl f5) rfl rfl ?_; intro a hE
     exact ⟨Kept.refl _ _, _, _, rfl, hE, rfl⟩
    ·intro a w ux12 hE hM hp
     have f4 : ux12 4 = (Value.slice (some ⟨pb1, 0, none⟩) 16 16) := hp 0 _ rfl rfl
     have f6 : ux12 6 = (vI (wr (s4.2 + 1))) := hp 1 _ rfl rfl
     refine s_indexFull hE Za (dl rfl) (lk rfl f4) (lk rfl f6) Try.underlying50 ty5 hi18.1 ?_; intro a hE
     exact ⟨Kept.refl _ _, _, _, rfl, hE, rfl⟩
    ·intro a w ux12 hE hM hp
     have f7 : ux12 7 = (ptr pb1 (0 + ((wr (s4.2 + 1))).toNat * 1)) := hp 0 _ rfl rfl
     refine Zv (v := (vB x16)) hE Za (dl rfl) (lk rfl f7) ty5 rfl (At.vec (hM.rawAt (pre := [])) hi18.2) ?_; intro a hE
     exact ⟨Kept.refl _ _, _, _, rfl, hE, rfl⟩
    ·intro a w ux12 hE hM hp
     refine Zd hE Za (dl rfl) rfl ?_; intro a hE
     exact ⟨Kept.refl _ _, _, _, rfl, hE, rfl⟩
    ·intro a w ux12 hE hM hp
     refine Zd hE Za (dl rfl) rfl ?_; intro a hE
     exact ⟨Kept.refl _ _, _, _, rfl, hE, rfl⟩
    ·intro a w ux12 hE hM hp
     have f10 : ux12 10 = (vI s4.2) := hp 0 _ rfl rfl
     refine Zh hE Za (dl rfl) (lk rfl f10) rfl rfl ?_; intro a hE
     exact ⟨Kept.refl _ _, _, _, rfl, hE, rfl⟩
    ·intro a w ux12 hE hM hp
     have f9 : ux12 9 = (Value.slice (some ⟨pb1, 0, none⟩) 16 16) := hp 0 _ rfl rfl
     have f11 : ux12 11 = (vI (wr (s4.2 + 2))) := hp 1 _ rfl rfl
     refine s_indexFull hE Za (dl rfl) (lk rfl f9) (lk rfl f11) Try.underlying50 ty5 hi21.1 ?_; intro a hE
     exact ⟨Kept.refl _ _, _, _, rfl, hE, rfl⟩
    ·intro a w ux12 hE hM hp
     have f12 : ux12 12 = (ptr pb1 (0 + ((wr (s4.2 + 2))).toNat * 1)) := hp 0 _ rfl rfl
     refine Zv (v := (vB x19)) hE Za (dl rfl) (lk rfl f12) ty5 rfl (At.vec (hM.rawAt (pre := [])) hi21.2) ?_; intro a hE
     exact ⟨Kept.refl _ _, _, _, rfl, hE, rfl⟩
    ·intro a w ux12 hE hM hp
     refine Zd hE Za (dl rfl) rfl ?_; intro a hE
     exact ⟨Kept.refl _ _, _, _, rfl, hE, rfl⟩
    ·intro a w ux12 hE hM hp
     refine Zd hE Za (dl rfl) rfl ?_; intro a hE
     exact ⟨Kept.refl _ _, _, _, rfl, hE, rfl⟩
    ·intro a w ux12 hE hM hp
     have f15 : ux12 15 = (vI s4.2) := hp 0 _ rfl rfl
     refine Zh hE Za (dl rfl) (lk rfl f15) rfl rfl ?_; intro a hE
     exact ⟨Kept.refl _ _, _, _, rfl, hE, rfl⟩
    ·intro a w ux12 hE hM hp
     have f14 : ux12 14 = (Value.slice (some ⟨pb1, 0, none⟩) 16 16) := hp 0 _ rfl rfl
     have f16 : ux12 16 = (vI (wr (s4.2 + 3))) := hp 1 _ rfl rfl
     refine s_indexFull hE Za (dl rfl) (lk rfl f14) (lk rfl f16) Try.underlying50 ty5 hi24.1 ?_; intro a hE
     exact ⟨Kept.refl _ _, _, _, rfl, hE, rfl⟩
    ·intro a w ux12 hE hM hp
     have f17 : ux12 17 = (ptr pb1 (0 + ((wr (s4.2 + 3))).toNat * 1)) := hp 0 _ rfl rfl
     refine Zv (v := (vB x22)) hE Za (dl rfl) (lk rfl f17) ty5 rfl (At.vec (hM.rawAt (pre := [])) hi24.2) ?_; intro a hE
     exact ⟨Kept.refl _ _, _, _, rfl, hE, rfl⟩
    ·intro a w ux12 hE hM hp
     have f3 : ux12 3 = (vB x13) := hp 0 _ rfl rfl
     refine Ze hE Za (dl rfl) (lk rfl f3) ?_; intro a hE
     exact ⟨Kept.refl _ _, _, _, rfl, hE, rfl⟩
    ·intro a w ux12 hE hM hp
     have f8 : ux12 8 = (vB x16) := hp 0 _ rfl rfl
     refine Ze hE Za (dl rfl) (lk rfl f8) ?_; intro a hE
     exact ⟨Kept.refl _ _, _, _, rfl, hE, rfl⟩
    ·intro a w ux12 hE hM hp
     have f13 : ux12 13 = (vB x19) := hp 0 _ rfl rfl
     refine Ze hE Za (dl rfl) (lk rfl f13) ?_; intro a hE
     exact ⟨Kept.refl _ _, _, _, rfl, hE, rfl⟩
    ·intro a w ux12 hE hM hp
     have f18 : ux12 18 = (vB x22) := hp 0 _ rfl rfl
     refine Ze hE Za (dl rfl) (lk rfl f18) ?_; intro a hE
     exact ⟨Kept.refl _ _, _, _, rfl, hE, rfl⟩
    ·intro a w ux12 hE hM hg
     have f0 : ux12 0 = (Value.slice (some ⟨pb1, 0, none⟩) 16 16) := hg 0 (by decide)
     have f1 : ux12 1 = (vI s4.2) := hg 1 (by decide)
     have f2 : ux12 2 = (ptr pb1 (0 + (s4.2).toNat * 1)) := hg 2 (by decide)
     have f3 : ux12 3 = (vB x13) := hg 3 (by decide)
     have f4 : ux12 4 = (Value.slice (some ⟨pb1, 0, none⟩) 16 16) := hg 4 (by decide)
     have f5 : ux12 5 = (vI s4.2) := hg 5 (by decide)
     have f6 : ux12 6 = (vI (wr (s4.2 + 1))) := hg 6 (by decide)
     have f7 : ux12 7 = (ptr pb1 (0 + ((wr (s4.2 + 1))).toNat * 1)) := hg 7 (by decide)
     have f8 : ux12 8 = (vB x16) := hg 8 (by decide)
     have f9 : ux12 9 = (Value.slice (some ⟨pb1, 0, none⟩) 16 16) := hg 9 (by decide)
     have f10 : ux12 10 = (vI s4.2) := hg 10 (by decide)
     have f11 : ux12 11 = (vI (wr (s4.2 + 2))) := hg 11 (by decide)
     have f12 : ux12 12 = (ptr pb1 (0 + ((wr (s4.2 + 2))).toNat * 1)) := hg 12 (by decide)
     have f13 : ux12 13 = (vB x19) := hg 13 (by decide)
     have f14 : ux12 14 = (Value.slice (some ⟨pb1, 0, none⟩) 16 16) := hg 14 (by decide)
     have f15 : ux12 15 = (vI s4.2) := hg 15 (by decide)
     have f16 : ux12 16 = (vI (wr (s4.2 + 3))) := hg 16 (by decide)
     have f17 : ux12 17 = (ptr pb1 (0 + ((wr (s4.2 + 3))).toNat * 1)) := hg 17 (by decide)
     have f18 : ux12 18 = (vB x22) := hg 18 (by decide)
     have f19 : ux12 19 = (vB x13) := hg 19 (by decide)
     have f20 : ux12 20 = (vB x16) := hg 20 (by decide)
     have f21 : ux12 21 = (vB x19) := hg 21 (by decide)
     have f22 : ux12 22 = (vB x22) := hg 22 (by decide)
     have hE := hE.sub (e' := [(16, (Value.slice (some ⟨pb1, 0, none⟩) 16 16)), (17, (vI s4.2)), (18, (ptr pb1 (0 + (s4.2).toNat * 1))), (19, (vB x13)), (20, (Value.slice (some ⟨pb1, 0, none⟩) 16 16)), (21, (vI s4.2)), (22, (vI (wr (s4.2 + 1)))), (23, (ptr pb1 (0 + ((wr (s4.2 + 1))).toNat * 1))), (24, (vB x16)), (25, (Value.slice (some ⟨pb1, 0, none⟩) 16 16)), (26, (vI s4.2)), (27, (vI (wr (s4.2 + 2)))), (28, (ptr pb1 (0 + ((wr (s4.2 + 2))).toNat * 1))), (29, (vB x19)), (30, (Value.slice (some ⟨pb1, 0, none⟩) 16 16)), (31, (vI s4.2)), (32, (vI (wr (s4.2 + 3)))), (33, (ptr pb1 (0 + ((wr (s4.2 + 3))).toNat * 1))), (34, (vB x22)), (5, (vB x13)), (6, (vB x16)), (7, (vB x19)), (8, (vB x22)), (0, v0_1), (1, (Value.slice (some ⟨pb1, 0, none⟩) 16 16)), (4, (vI s4.2)), (10, (vI s4.2)), (11, (Value.slice (some ⟨pb1, 0, none⟩) 16 16)), (12, (vI (s4.1.toList.length : Int))), (13, (vT (decide (s4.2 < (s4.1.toList.length : Int)))))]) ⟨lk rfl f0, lk rfl f1, lk rfl f2, lk rfl f3, lk rfl f4, lk rfl f5, lk rfl f6, lk rfl f7, lk rfl f8, lk rfl f9, lk rfl f10, lk rfl f11, lk rfl f12, lk rfl f13, lk rfl f14, lk rfl f15, lk rfl f16, lk rfl f17, lk rfl f18, lk rfl f19, lk rfl f20, lk rfl f21, lk rfl f22, rfl, rfl, rfl, rfl, rfl, rfl, rfl, trivial⟩
     refine Zj ?_
     have ht25 := Option.some.inj hl10
     subst ht25
     refine Zl ?_
     exact ⟨hE.sub ⟨rfl, rfl, rfl, rfl, rfl, rfl, rfl, trivial⟩, hM⟩
   ·skip
    rintro a w ⟨hE, hM⟩
    refine Zc (Zd hE Za (dl rfl) rfl ?_); intro a hE
    refine Zf ?_
    obtain ⟨j26, hl27, hF28⟩ := bind_some hF11
    refine ZW (fun a w => Env 79 a [(0, v0_1), (1, (Value.slice (some ⟨pb1, 0, none⟩) 16 16)), (4, (vI s4.2))] ∧ M St W w (raw pb1 (Flat.enc j26) :: its)) ?_ ?_
    ·skip
     refine wp_block ?_
     refine ZM (fun (s29 : (Vector UInt8 16) × Int) a w => Env 79 a [(0, v0_1), (1, (Value.slice (some ⟨pb1, 0, none⟩) 16 16)), (4, (vI s4.2)), (5, (vB j9.1)), (6, (vB j9.2.1)), (7, (vB j9.2.2.1)), (8, (vB j9.2.2.2)), (35, (vI s29.2))] ∧ M St W w (raw pb1 (Flat.enc s29.1) :: its)) hl27 ⟨hE.sub ⟨rfl, rfl, rfl, rfl, rfl, rfl, rfl, rfl, trivial⟩, hM⟩ ?_
     rintro s29 a w ⟨hE, hM⟩ o32 hs30 hx31
     unfold XD at hs30
     refine Zc (Zh hE Za (dl rfl) rfl rfl rfl ?_); intro a hE
     refine Zf (wp_seq ?_)
     refine Zt hE rfl ?_ ?_
     ·intro hb33
      have hs30 := Zz hs30 hb33
      refine wp_skip (Zx (wp_seq (wp_block (Zc (Zd hE Za (dl rfl) rfl ?_))))); intro a hE
      refine Ze hE Za (dl rfl) rfl ?_; intro a hE
      refine Zf ?_
      obtain ⟨pb35, ds36, hv37, hx38, hA39, hB40⟩ := Uc hv0_1 -- ^
      obtain ⟨rfl, _⟩ := sat_flat.1 hx38 -- ^
      obtain ⟨x42, e43, hs30⟩ := bind_some hs30
      have hi41 := Zi e43
      obtain ⟨x45, e46, hs30⟩ := bind_some hs30
      have hi44 := Zi e46
      obtain ⟨x48, e49, hs30⟩ := bind_some hs30
      have hi47 := Zi e49
      obtain ⟨pb50, ds51, hv52, hx53, hA54, hB55⟩ := Uc hv0_1 -- ^
      obtain ⟨rfl, _⟩ := sat_flat.1 hx53 -- ^
      obtain ⟨x57, e58, hs30⟩ := bind_some hs30
      have hi56 := Zi e58
      obtain ⟨x60, e61, hs30⟩ := bind_some hs30
      have hi59 := Zi e61
      obtain ⟨x63, e64, hs30⟩ := bind_some hs30
      have hi62 := Zi e64
      obtain ⟨pb65, ds66, hv67, hx68, hA69, hB70⟩ := Uc hv0_1 -- ^
      obtain ⟨rfl, _⟩ := sat_flat.1 hx68 -- ^
      obtain ⟨x72, e73, hs30⟩ := bind_some hs30
      have hi71 := Zi e73
      obtain ⟨x75, e76, hs30⟩ := bind_some hs30
      have hi74 := Zi e76
      obtain ⟨x78, e79, hs30⟩ := bind_some hs30
      have hi77 := Zi e79
      obtain ⟨pb80, ds81, hv82, hx83, hA84, hB85⟩ := Uc hv0_1 -- ^
      obtain ⟨rfl, _⟩ := sat_flat.1 hx83 -- ^
      obtain ⟨x87, e88, hs30⟩ := bind_some hs30
      have hi86 := Zi e88
      obtain ⟨x90, e91, hs30⟩ := bind_some hs30
      have hi89 := Zi e91
      obtain ⟨x93, e94, hs30⟩ := bind_some hs30
      have hi92 := Zi e94
      obtain ⟨x95, e96, hs30⟩ := bind_some hs30
      have hi97 := Zi e96
      refine Ye (n := 79) (hd := [_, _, _, _, _, _, _, _, _, _, _, _, _, _, _, _, _, _, _, _, _, _, _, _, _, _, _, _, _, _, _, _, _, _, _, _, _, _, _, _]) (tl := [_]) YB rfl rfl [38, 39, 40, 41, 42, 43, 44, 45, 46, 47, 48, 49, 50, 51, 52, 53, 54, 55, 56, 57, 58, 59, 60, 61, 62, 63, 64, 65, 66, 67, 68, 69, 70, 71, 72, 73, 74, 75, 76, 77] (by decide) (fun w => M St W w (raw pb1 (Flat.enc s29.1) :: its)) (fun j => ([fun v _ => v = (Value.slice (some ⟨pb1, 0, none⟩) 16 16), fun v _ => v = (vI s4.2), fun v _ => v = (vI s29.2), fun v _ => v = (vI (wr (s4.2 + s29.2))), fun v _ => v = v0_1, fun v _ => v = (vI s29.2), fun v _ => v = (vB j9.1), fun v _ => v = (ptr pb35 0), fun v _ => v = (ptr pb35 (0 + (s29.2).toNat * 1024)), fun v _ => v = (ptr pb35 (0 + (s29.2).toNat * 1024 + ((0 : Int)).toNat * 256)), fun v _ => v = (ptr pb35 (0 + (s29.2).toNat * 1024 + ((0 : Int)).toNat * 256 + ((bI j9.1)).toNat * 1)), fun v _ => v = (vB x48), fun v _ => v = v0_1, fun v _ => v = (vI s29.2), fun v _ => v = (vB j9.2.1), fun v _ => v = (ptr pb50 0), fun v _ => v = (ptr pb50 (0 + (s29.2).toNat * 1024)), fun v _ => v = (ptr pb50 (0 + (s29.2).toNat * 1024 + ((1 : Int)).toNat * 256)), fun v _ => v = (ptr pb50 (0 + (s29.2).toNat * 1024 + ((1 : Int)).toNat * 256 + ((bI j9.2.1)).toNat * 1)), fun v _ => v = (vB x63), fun v _ => v = (vB (x48 ^^^ x63)), fun v _ => v = v0_1, fun v _ => v = (vI s29.2), fun v _ => v = (vB j9.2.2.1), fun v _ => v = (ptr pb65 0), fun v _ => v = (ptr pb65 (0 + (s29.2).toNat * 1024)), fun v _ => v = (ptr pb65 (0 + (s29.2).toNat * 1024 + ((2 : Int)).toNat * 256)), fun v _ => v = (ptr pb65 (0 + (s29.2).toNat * 1024 + ((2 : Int)).toNat * 256 + ((bI j9.2.2.1)).toNat * 1)), fun v _ => v = (vB x78), fun v _ => v = (vB ((x48 ^^^ x63) ^^^ x78)), fun v _ => v = v0_1, fun v _ => v = (vI s29.2), fun v _ => v = (vB j9.2.2.2), fun v _ => v = (ptr pb80 0), fun v _ => v = (ptr pb80 (0 + (s29.2).toNat * 1024)), fun v _ => v = (ptr pb80 (0 + (s29.2).toNat * 1024 + ((3 : Int)).toNat * 256)), fun v _ => v = (ptr pb80 (0 + (s29.2).toNat * 1024 + ((3 : Int)).toNat * 256 + ((bI j9.2.2.2)).toNat * 1)), fun v _ => v = (vB x93), fun v _ => v = (vB (((x48 ^^^ x63) ^^^ x78) ^^^ x93)), fun v _ => v = (ptr pb1 (0 + ((wr (s4.2 + s29.2))).toNat * 1))] : List (Value → World → Prop)).getD j (fun _ _ => True)) (fun _ _ h hk => h.keep hk) (gup (Zg (Zg (Zg (Zg (Zg (Zg (Zg (Zg (Zg (Zg (Zg (Zg (Zg (Zg (Zg (Zg (Zg (Zg (Zg (Zg (Zg (Zg (Zg (Zg (Zg (Zg (Zg (Zg (Zg (Zg (Zg (Zg (Zg (Zg (Zg (Zg (Zg (Zg (Zg (Zg Ww))))))))))))))))))))))))))))))))))))))))) hE hM.drew (ZH (Zb ?_ (Zb ?_ (Zb ?_ (Zb ?_ (Zb ?_ (Zb ?_ (Zb ?_ (Zb ?_ (Zb ?_ (Zb ?_ (Zb ?_ (Zb ?_ (Zb ?_ (Zb ?_ (Zb ?_ (Zb ?_ (Zb ?_ (Zb ?_ (Zb ?_ (Zb ?_ (Zb ?_ (Zb ?_ (Zb ?_ (Zb ?_ (Zb ?_ (Zb ?_ (Zb ?_ (Zb ?_ (Zb ?_ (Zb ?_ (Zb ?_ (Zb ?_ (Zb ?_ (Zb ?_ (Zb ?_ (Zb ?_ (Zb ?_ (Zb ?_ (Zb ?_ (Zb ?_ ZD))))))))))))))))))))))))))))))))))))))))) ?_
      ·intro a w ux34 hE hM hp
       refine Zd hE Za (dl rfl) rfl ?_; intro a hE
       exact ⟨Kept.refl _ _, _, _, rfl, hE, rfl⟩
      ·intro a w ux34 hE hM hp
       refine Zd hE Za (dl rfl) rfl ?_; intro a hE
       exact ⟨Kept.refl _ _, _, _, rfl, hE, rfl⟩
      ·intro a w ux34 hE hM hp
       refine Zd hE Za (dl rfl) rfl ?_; intro a hE
       exact ⟨Kept.refl _ _, _, _, rfl, hE, rfl⟩
      ·intro a w ux34 hE hM hp
       have f1 : ux34 1 = (vI s4.2) := hp 0 _ rfl rfl
       have f2 : ux34 2 = (vI s29.2) := hp 1 _ rfl rfl
       refine Zh hE Za (dl rfl) (lk rfl f1) (lk rfl f2) rfl ?_; intro a hE
       exact ⟨Kept.refl _ _, _, _, rfl, hE, rfl⟩
      ·intro a w ux34 hE hM hp
       refine Zd hE Za (dl rfl) rfl ?_; intro a hE
       exact ⟨Kept.refl _ _, _, _, rfl, hE, rfl⟩
      ·intro a w ux34 hE hM hp
       refine Zd hE Za (dl rfl) rfl ?_; intro a hE
       exact ⟨Kept.refl _ _, _, _, rfl, hE, rfl⟩
      ·intro a w ux34 hE hM hp
       refine Zd hE Za (dl rfl) rfl ?_; intro a hE
       exact ⟨Kept.refl _ _, _, _, rfl, hE, rfl⟩
      ·intro a w ux34 hE hM hp
       have f4 : ux34 4 = v0_1 := hp 0 _ rfl rfl
       refine XF hE Za (dl rfl) (lk (lk rfl f4) hv37) ?_; intro a hE
       exact ⟨Kept.refl _ _, _, _, rfl, hE, rfl⟩
      ·intro a w ux34 hE hM hp
       have f5 : ux34 5 = (vI s29.2) := hp 1 _ rfl rfl
       have f7 : ux34 7 = (ptr pb35 0) := hp 0 _ rfl rfl
       refine Zm hE Za (dl rfl) (lk rfl f7) (lk rfl f5) Try.underlying168 ty166 hi41.1 ?_; intro a hE
       exact ⟨Kept.refl _ _, _, _, rfl, hE, rfl⟩
      ·intro a w ux34 hE hM hp
       have f8 : ux34 8 = (ptr pb35 (0 + (s29.2).toNat * 1024)) := hp 0 _ rfl rfl
       refine Zm hE Za (dl rfl) (lk rfl f8) rfl Try.underlying166 ty96 hi44.1 ?_; intro a hE
       exact ⟨Kept.refl _ _, _, _, rfl, hE, rfl⟩
      ·intro a w ux34 hE hM hp
       have f6 : ux34 6 = (vB j9.1) := hp 1 _ rfl rfl
       have f9 : ux34 9 = (ptr pb35 (0 + (s29.2).toNat * 1024 + ((0 : Int)).toNat * 256)) := hp 0 _ rfl rfl
       refine Zm hE Za (dl rfl) (lk rfl f9) (lk rfl f6) Try.underlying96 ty5 hi47.1 ?_; intro a hE
       exact ⟨Kept.refl _ _, _, _, rfl, hE, rfl⟩
      ·intro a w ux34 hE hM hp
       have f10 : ux34 10 = (ptr pb35 (0 + (s29.2).toNat * 1024 + ((0 : Int)).toNat * 256 + ((bI j9.1)).toNat * 1)) := hp 0 _ rfl rfl
       refine Zv (v := (vB x48)) hE Za (dl rfl) (lk rfl f10) ty5 rfl (At.vec (At.vec (At.vec (hM.atk hA39 hB40) hi41.2) hi44.2) hi47.2) ?_; intro a hE
       exact ⟨Kept.refl _ _, _, _, rfl, hE, rfl⟩
      ·intro a w ux34 hE hM hp
       refine Zd hE Za (dl rfl) rfl ?_; intro a hE
       exact ⟨Kept.refl _ _, _, _, rfl, hE, rfl⟩
      ·intro a w ux34 hE hM hp
       refine Zd hE Za (dl rfl) rfl ?_; intro a hE
       exact ⟨Kept.refl _ _, _, _, rfl, hE, rfl⟩
      ·intro a w ux34 hE hM hp
       refine Zd hE Za (dl rfl) rfl ?_; intro a hE
       exact ⟨Kept.refl _ _, _, _, rfl, hE, rfl⟩
      ·intro a w ux34 hE hM hp
       have f12 : ux34 12 = v0_1 := hp 0 _ rfl rfl
       refine XF hE Za (dl rfl) (lk (lk rfl f12) hv52) ?_; intro a hE
       exact ⟨Kept.refl _ _, _, _, rfl, hE, rfl⟩
      ·intro a w ux34 hE hM hp
       have f13 : ux34 13 = (vI s29.2) := hp 1 _ rfl rfl
       have f15 : ux34 15 = (ptr pb50 0) := hp 0 _ rfl rfl
       refine Zm hE Za (dl rfl) (lk rfl f15) (lk rfl f13) Try.underlying168 ty166 hi56.1 ?_; intro a hE
       exact ⟨Kept.refl _ _, _, _, rfl, hE, rfl⟩
      ·intro a w ux34 hE hM hp
       have f16 : ux34 16 = (ptr pb50 (0 + (s29.2).toNat * 1024)) := hp 0 _ rfl rfl
       refine Zm hE Za (dl rfl) (lk rfl f16) rfl Try.underlying166 ty96 hi59.1 ?_; intro a hE
       exact ⟨Kept.refl _ _, _, _, rfl, hE, rfl⟩
      ·intro a w ux34 hE hM hp
       have f14 : ux34 14 = (vB j9.2.1) := hp 1 _ rfl rfl
       have f17 : ux34 17 = (ptr pb50 (0 + (s29.2).toNat * 1024 + ((1 : Int)).toNat * 256)) := hp 0 _ rfl rfl
       refine Zm hE Za (dl rfl) (lk rfl f17) (lk rfl f14) Try.underlying96 ty5 hi62.1 ?_; intro a hE
       exact ⟨Kept.refl _ _, _, _, rfl, hE, rfl⟩
      ·intro a w ux34 hE hM hp
       have f18 : ux34 18 = (ptr pb50 (0 + (s29.2).toNat * 1024 + ((1 : Int)).toNat * 256 + ((bI j9.2.1)).toNat * 1)) := hp 0 _ rfl rfl
       refine Zv (v := (vB x63)) hE Za (dl rfl) (lk rfl f18) ty5 rfl (At.vec (At.vec (At.vec (hM.atk hA54 hB55) hi56.2) hi59.2) hi62.2) ?_; intro a hE
       exact ⟨Kept.refl _ _, _, _, rfl, hE, rfl⟩
      ·intro a w ux34 hE hM hp
       have f11 : ux34 11 = (vB x48) := hp 0 _ rfl rfl
       have f19 : ux34 19 = (vB x63) := hp 1 _ rfl rfl
       refine Zh hE Za (dl rfl) (lk rfl f11) (lk rfl f19) (Vn x48 x63) ?_; intro a hE
       exact ⟨Kept.refl _ _, _, _, rfl, hE, rfl⟩
      ·intro a w ux34 hE hM hp
       refine Zd hE Za (dl rfl) rfl ?_; intro a hE
       exact ⟨Kept.refl _ _, _, _, rfl, hE, rfl⟩
      ·intro a w ux34 hE hM hp
       refine Zd hE Za (dl rfl) rfl ?_; intro a hE
       exact ⟨Kept.refl _ _, _, _, rfl, hE, rfl⟩
      ·intro a w ux34 hE hM hp
       refine Zd hE Za (dl rfl) rfl ?_; intro a hE
       exact ⟨Kept.refl _ _, _, _, rfl, hE, rfl⟩
      ·intro a w ux34 hE hM hp
       have f21 : ux34 21 = v0_1 := hp 0 _ rfl rfl
       refine XF hE Za (dl rfl) (lk (lk rfl f21) hv67) ?_; intro a hE
       exact ⟨Kept.refl _ _, _, _, rfl, hE, rfl⟩
      ·intro a w ux34 hE hM hp
       have f22 : ux34 22 = (vI s29.2) := hp 1 _ rfl rfl
       have f24 : ux34 24 = (ptr pb65 0) := hp 0 _ rfl rfl
       refine Zm hE Za (dl rfl) (lk rfl f24) (lk rfl f22) Try.underlying168 ty166 hi71.1 ?_; intro a hE
       exact ⟨Kept.refl _ _, _, _, rfl, hE, rfl⟩
      ·intro a w ux34 hE hM hp
       have f25 : ux34 25 = (ptr pb65 (0 + (s29.2).toNat * 1024)) := hp 0 _ rfl rfl
       refine Zm hE Za (dl rfl) (lk rfl f25) rfl Try.underlying166 ty96 hi74.1 ?_; intro a hE
       exact ⟨Kept.refl _ _, _, _, rfl, hE, rfl⟩
      ·intro a w ux34 hE hM hp
       have f23 : ux34 23 = (vB j9.2.2.1) := hp 1 _ rfl rfl
       have f26 : ux34 26 = (ptr pb65 (0 + (s29.2).toNat * 1024 + ((2 : Int)).toNat * 256)) := hp 0 _ rfl rfl
       refine Zm hE Za (dl rfl) (lk rfl f26) (lk rfl f23) Try.underlying96 ty5 hi77.1 ?_; intro a hE
       exact ⟨Kept.refl _ _, _, _, rfl, hE, rfl⟩
      ·intro a w ux34 hE hM hp
       have f27 : ux34 27 = (ptr pb65 (0 + (s29.2).toNat * 1024 + ((2 : Int)).toNat * 256 + ((bI j9.2.2.1)).toNat * 1)) := hp 0 _ rfl rfl
       refine Zv (v := (vB x78)) hE Za (dl rfl) (lk rfl f27) ty5 rfl (At.vec (At.vec (At.vec (hM.atk hA69 hB70) hi71.2) hi74.2) hi77.2) ?_; intro a hE
       exact ⟨Kept.refl _ _, _, _, rfl, hE, rfl⟩
      ·intro a w ux34 hE hM hp
       have f20 : ux34 20 = (vB (x48 ^^^ x63)) := hp 0 _ rfl rfl
       have f28 : ux34 28 = (vB x78) := hp 1 _ rfl rfl
       refine Zh hE Za (dl rfl) (lk rfl f20) (lk rfl f28) (Vn (x48 ^^^ x63) x78) ?_; intro a hE
       exact ⟨Kept.refl _ _, _, _, rfl, hE, rfl⟩
      ·intro a w ux34 hE hM hp
       refine Zd hE Za (dl rfl) rfl ?_; intro a hE
       exact ⟨Kept.refl _ _, _, _, rfl, hE, rfl⟩
      ·intro a w ux34 hE hM hp
       refine Zd hE Za (dl rfl) rfl ?_; intro a hE
       exact ⟨Kept.refl _ _, _, _, rfl, hE, rfl⟩
      ·intro a w ux34 hE hM hp
       refine Zd hE Za (dl rfl) rfl ?_; intro a hE
       exact ⟨Kept.refl _ _, _, _, rfl, hE, rfl⟩
      ·intro a w ux34 hE hM hp
       have f30 : ux34 30 = v0_1 := hp 0 _ rfl rfl
       refine XF hE Za (dl rfl) (lk (lk rfl f30) hv82) ?_; intro a hE
       exact ⟨Kept.refl _ _, _, _, rfl, hE, rfl⟩
      ·intro a w ux34 hE hM hp
       have f31 : ux34 31 = (vI s29.2) := hp 1 _ rfl rfl
       have f33 : ux34 33 = (ptr pb80 0) := hp 0 _ rfl rfl
       refine Zm hE Za (dl rfl) (lk rfl f33) (lk rfl f31) Try.underlying168 ty166 hi86.1 ?_; intro a hE
       exact ⟨Kept.refl _ _, _, _, rfl, hE, rfl⟩
      ·intro a w ux34 hE hM hp
       have f34 : ux34 34 = (ptr pb80 (0 + (s29.2).toNat * 1024)) := hp 0 _ rfl rfl
       refine Zm hE Za (dl rfl) (lk rfl f34) rfl Try.underlying166 ty96 hi89.1 ?_; intro a hE
       exact ⟨Kept.refl _ _, _, _, rfl, hE, rfl⟩
      ·intro a w ux34 hE hM hp
       have f32 : ux34 32 = (vB j9.2.2.2) := hp 1 _ rfl rfl
       have f35 : ux34 35 = (ptr pb80 (0 + (s29.2).toNat * 1024 + ((3 : Int)).toNat * 256)) := hp 0 _ rfl rfl
       refine Zm hE Za (dl rfl) (lk rfl f35) (lk rfl f32) Try.underlying96 ty5 hi92.1 ?_; intro a hE
       exact ⟨Kept.refl _ _, _, _, rfl, hE, rfl⟩
      ·intro a w ux34 hE hM hp
       have f36 : ux34 36 = (ptr pb80 (0 + (s29.2).toNat * 1024 + ((3 : Int)).toNat * 256 + ((bI j9.2.2.2)).toNat * 1)) := hp 0 _ rfl rfl
       refine Zv (v := (vB x93)) hE Za (dl rfl) (lk rfl f36) ty5 rfl (At.vec (At.vec (At.vec (hM.atk hA84 hB85) hi86.2) hi89.2) hi92.2) ?_; intro a hE
       exact ⟨Kept.refl _ _, _, _, rfl, hE, rfl⟩
      ·intro a w ux34 hE hM hp
       have f29 : ux34 29 = (vB ((x48 ^^^ x63) ^^^ x78)) := hp 0 _ rfl rfl
       have f37 : ux34 37 = (vB x93) := hp 1 _ rfl rfl
       refine Zh hE Za (dl rfl) (lk rfl f29) (lk rfl f37) (Vn ((x48 ^^^ x63) ^^^ x78) x93) ?_; intro a hE
       exact ⟨Kept.refl _ _, _, _, rfl, hE, rfl⟩
      ·intro a w ux34 hE hM hp
       have f0 : ux34 0 = (Value.slice (some ⟨pb1, 0, none⟩) 16 16) := hp 0 _ rfl rfl
       have f3 : ux34 3 = (vI (wr (s4.2 + s29.2))) := hp 1 _ rfl rfl
       refine s_indexFull hE Za (dl rfl) (lk rfl f0) (lk rfl f3) Try.underlying50 ty5 hi97.1 ?_; intro a hE
       exact ⟨Kept.refl _ _, _, _, rfl, hE, rfl⟩
      ·intro a w ux34 hE hM hg
       have f0 : ux34 0 = (Value.slice (some ⟨pb1, 0, none⟩) 16 16) := hg 0 (by decide)
       have f1 : ux34 1 = (vI s4.2) := hg 1 (by decide)
       have f2 : ux34 2 = (vI s29.2) := hg 2 (by decide)
       have f3 : ux34 3 = (vI (wr (s4.2 + s29.2))) := hg 3 (by decide)
       have f4 : ux34 4 = v0_1 := hg 4 (by decide)
       have f5 : ux34 5 = (vI s29.2) := hg 5 (by decide)
       have f6 : ux34 6 = (vB j9.1) := hg 6 (by decide)
       have f7 : ux34 7 = (ptr pb35 0) := hg 7 (by decide)
       have f8 : ux34 8 = (ptr pb35 (0 + (s29.2).toNat * 1024)) := hg 8 (by decide)
       have f9 : ux34 9 = (ptr pb35 (0 + (s29.2).toNat * 1024 + ((0 : Int)).toNat * 256)) := hg 9 (by decide)
       have f10 : ux34 10 = (ptr pb35 (0 + (s29.2).toNat * 1024 + ((0 : Int)).toNat * 256 + ((bI j9.1)).toNat * 1)) := hg 10 (by decide)
       have f11 : ux34 11 = (vB x48) := hg 11 (by decide)
       have f12 : ux34 12 = v0_1 := hg 12 (by decide)
       have f13 : ux34 13 = (vI s29.2) := hg 13 (by decide)
       have f14 : ux34 14 = (vB j9.2.1) := hg 14 (by decide)
       have f15 : ux34 15 = (ptr pb50 0) := hg 15 (by decide)
       have f16 : ux34 16 = (ptr pb50 (0 + (s29.2).toNat * 1024)) := hg 16 (by decide)
       have f17 : ux34 17 = (ptr pb50 (0 + (s29.2).toNat * 1024 + ((1 : Int)).toNat * 256)) := hg 17 (by decide)
       have f18 : ux34 18 = (ptr pb50 (0 + (s29.2).toNat * 1024 + ((1 : Int)).toNat * 256 + ((bI j9.2.1)).toNat * 1)) := hg 18 (by decide)
       have f19 : ux34 19 = (vB x63) := hg 19 (by decide)
       have f20 : ux34 20 = (vB (x48 ^^^ x63)) := hg 20 (by decide)
       have f21 : ux34 21 = v0_1 := hg 21 (by decide)
       have f22 : ux34 22 = (vI s29.2) := hg 22 (by decide)
       have f23 : ux34 23 = (vB j9.2.2.1) := hg 23 (by decide)
       have f24 : ux34 24 = (ptr pb65 0) := hg 24 (by decide)
       have f25 : ux34 25 = (ptr pb65 (0 + (s29.2).toNat * 1024)) := hg 25 (by decide)
       have f26 : ux34 26 = (ptr pb65 (0 + (s29.2).toNat * 1024 + ((2 : Int)).toNat * 256)) := hg 26 (by decide)
       have f27 : ux34 27 = (ptr pb65 (0 + (s29.2).toNat * 1024 + ((2 : Int)).toNat * 256 + ((bI j9.2.2.1)).toNat * 1)) := hg 27 (by decide)
       have f28 : ux34 28 = (vB x78) := hg 28 (by decide)
       have f29 : ux34 29 = (vB ((x48 ^^^ x63) ^^^ x78)) := hg 29 (by decide)
       have f30 : ux34 30 = v0_1 := hg 30 (by decide)
       have f31 : ux34 31 = (vI s29.2) := hg 31 (by decide)
       have f32 : ux34 32 = (vB j9.2.2.2) := hg 32 (by decide)
       have f33 : ux34 33 = (ptr pb80 0) := hg 33 (by decide)
       have f34 : ux34 34 = (ptr pb80 (0 + (s29.2).toNat * 1024)) := hg 34 (by decide)
       have f35 : ux34 35 = (ptr pb80 (0 + (s29.2).toNat * 1024 + ((3 : Int)).toNat * 256)) := hg 35 (by decide)
       have f36 : ux34 36 = (ptr pb80 (0 + (s29.2).toNat * 1024 + ((3 : Int)).toNat * 256 + ((bI j9.2.2.2)).toNat * 1)) := hg 36 (by decide)
       have f37 : ux34 37 = (vB x93) := hg 37 (by decide)
       have f38 : ux34 38 = (vB (((x48 ^^^ x63) ^^^ x78) ^^^ x93)) := hg 38 (by decide)
       have f39 : ux34 39 = (ptr pb1 (0 + ((wr (s4.2 + s29.2))).toNat * 1)) := hg 39 (by decide)
       have hE := hE.sub (e' := [(38, (Value.slice (some ⟨pb1, 0, none⟩) 16 16)), (39, (vI s4.2)), (40, (vI s29.2)), (41, (vI (wr (s4.2 + s29.2)))), (42, v0_1), (43, (vI s29.2)), (44, (vB j9.1)), (45, (ptr pb35 0)), (46, (ptr pb35 (0 + (s29.2).toNat * 1024))), (47, (ptr pb35 (0 + (s29.2).toNat * 1024 + ((0 : Int)).toNat * 256))), (48, (ptr pb35 (0 + (s29.2).toNat * 1024 + ((0 : Int)).toNat * 256 + ((bI j9.1)).toNat * 1))), (49, (vB x48)), (50, v0_1), (51, (vI s29.2)), (52, (vB j9.2.1)), (53, (ptr pb50 0)), (54, (ptr pb50 (0 + (s29.2).toNat * 1024))), (55, (ptr pb50 (0 + (s29.2).toNat * 1024 + ((1 : Int)).toNat * 256))), (56, (ptr pb50 (0 + (s29.2).toNat * 1024 + ((1 : Int)).toNat * 256 + ((bI j9.2.1)).toNat * 1))), (57, (vB x63)), (58, (vB (x48 ^^^ x63))), (59, v0_1), (60, (vI s29.2)), (61, (vB j9.2.2.1)), (62, (ptr pb65 0)), (63, (ptr pb65 (0 + (s29.2).toNat * 1024))), (64, (ptr pb65 (0 + (s29.2).toNat * 1024 + ((2 : Int)).toNat * 256))), (65, (ptr pb65 (0 + (s29.2).toNat * 1024 + ((2 : Int)).toNat * 256 + ((bI j9.2.2.1)).toNat * 1))), (66, (vB x78)), (67, (vB ((x48 ^^^ x63) ^^^ x78))), (68, v0_1), (69, (vI s29.2)), (70, (vB j9.2.2.2)), (71, (ptr pb80 0)), (72, (ptr pb80 (0 + (s29.2).toNat * 1024))), (73, (ptr pb80 (0 + (s29.2).toNat * 1024 + ((3 : Int)).toNat * 256))), (74, (ptr pb80 (0 + (s29.2).toNat * 1024 + ((3 : Int)).toNat * 256 + ((bI j9.2.2.2)).toNat * 1))), (75, (vB x93)), (76, (vB (((x48 ^^^ x63) ^^^ x78) ^^^ x93))), (77, (ptr pb1 (0 + ((wr (s4.2 + s29.2))).toNat * 1))), (0, v0_1), (1, (Value.slice (some ⟨pb1, 0, none⟩) 16 16)), (4, (vI s4.2)), (5, (vB j9.1)), (6, (vB j9.2.1)), (7, (vB j9.2.2.1)), (8, (vB j9.2.2.2)), (9, (vI s29.2)), (35, (vI s29.2)), (36, (vT (decide (s29.2 < 4)))), (37, (vI s29.2))]) ⟨lk rfl f0, lk rfl f1, lk rfl f2, lk rfl f3, lk rfl f4, lk rfl f5, lk rfl f6, lk rfl f7, lk rfl f8, lk rfl f9, lk rfl f10, lk rfl f11, lk rfl f12, lk rfl f13, lk rfl f14, lk rfl f15, lk rfl f16, lk rfl f17, lk rfl f18, lk rfl f19, lk rfl f20, lk rfl f21, lk rfl f22, lk rfl f23, lk rfl f24, lk rfl f25, lk rfl f26, lk rfl f27, lk rfl f28, lk rfl f29, lk rfl f30, lk rfl f31, lk rfl f32, lk rfl f33, lk rfl f34, lk rfl f35, lk rfl f36, lk rfl f37, lk rfl f38, lk rfl f39, rfl, rfl, rfl, rfl, rfl, rfl, rfl, rfl, rfl, rfl, rfl, trivial⟩
       refine Zs (seg := [(vB (((x48 ^^^ x63) ^^^ x78) ^^^ x93))]) (cs' := Flat.enc (s29.1.setIfInBounds ((wr (s4.2 + s29.2))).toNat (((x48 ^^^ x63) ^^^ x78) ^^^ x93))) hE hM Za rfl rfl rfl ty5 rfl (ZT (v := s29.1) (x := ((x48 ^^^ x63) ^^^ x78) ^^^ x93) hi97.1) (Flat.cell (((x48 ^^^ x63) ^^^ x78) ^^^ x93 : UInt8)) (ZI (v := s29.1) (x := ((x48 ^^^ x63) ^^^ x78) ^^^ x93) hi97.1) ?_; intro w a hM hE
       refine Zj (Yj (Zx (wp_region_lit (Zh hE Za (dl rfl) rfl rfl rfl ?_)))); intro a hE
       refine Zd hE Za (dl rfl) rfl ?_; intro a hE
       refine Zj (Zl ?_)
       exact ⟨_, (Option.some.inj hs30).symm, hE.sub ⟨rfl, rfl, rfl, rfl, rfl, rfl, rfl, rfl, trivial⟩, hM⟩
     ·intro hb33
      have hs30 := ZA hs30 hb33
      refine wp_exit (Zr (Zr (Yk ?_)))
      have ht98 := hx31 _ (Option.some.inj hs30).symm
      subst ht98
      refine Zl ?_
      exact ⟨hE.sub ⟨rfl, rfl, rfl, trivial⟩, hM⟩
    ·skip
     rintro a w ⟨hE, hM⟩
     refine Yj (Zx (wp_region_lit (Zd hE Za (dl rfl) rfl ?_))); intro a hE
     refine Zh hE Za (dl rfl) rfl rfl rfl ?_; intro a hE
     refine Ze hE Za (dl rfl) rfl ?_; intro a hE
     refine Zj (Zl ?_)
     exact ⟨_, (Option.some.inj hF28).symm, hE.sub ⟨rfl, rfl, rfl, trivial⟩, hM⟩
  ·intro hb8
   have hs5 := ZA hs5 hb8
   refine wp_exit (Zr (Zr (Yk ?_)))
   have ht99 := hx6 _ (Option.some.inj hs5).symm
   subst ht99
   refine Zl ?_
   exact ⟨hE.sub ⟨rfl, trivial⟩, hM⟩
 ·skip
  rintro a w ⟨hE, hM⟩
  have hr := Option.some.inj hF3
  subst hr
  exact k_ret0n hE (by rfl) ⟨_, rfl, rfl, hM⟩
noncomputable def Yf (p0 : (Ref Gengine)) (s18 : (Vector UInt8 16) × Int) (s29 : (Vector UInt8 16) × Int) : Option (Fl ((Vector UInt8 16) × Int) (Vector UInt8 16)) :=
 if (decide (s29.2 < 16)) = true then ((ZN s18.1 s29.2).bind fun x34 => (ZN p0.v.box (bI x34)).bind fun x48 => (ZN s29.1 s29.2).bind fun x51 => some (Fl.nx ((s29.1.setIfInBounds (s29.2).toNat x48), wr (s29.2 + 1)))) else (some (Fl.ex s29.1))
noncomputable def Yg (p0 : (Ref Gengine)) (p1 : (List (Vector UInt8 16))) (s18 : (Vector UInt8 16) × Int) : Option (Fl ((Vector UInt8 16) × Int) (Vector UInt8 16)) :=
 if (decide (s18.2 < (p1.length : Int))) = true then (((ZG (Yf p0 s18) (s18.1, 0) : Option ((Vector UInt8 16))).bind fun j26 => ((X2 p0.v.places j26).bind fun r68 => some r68 : Option ((Vector UInt8 16))).bind fun j54 => (if (decide (s18.2 < (wr ((p1.length : Int) - 1)))) = true then ((slc j54.toList (0 : Int) (16 : Int)).bind fun l86 => (WR p0.v.mixer j54).bind fun r89 => some r89) else (some j54) : Option ((Vector UInt8 16))).bind fun j71 => (idx p1 s18.2).bind fun x94 => (Yl j71 x94).bind fun r97 => some r97 : Option ((Vector UInt8 16))).bind fun j23 => some (Fl.nx (j23, wr (s18.2 + 1)))) else (some (Fl.ex s18.1))
noncomputable def Yu (p0 : (Ref Gengine)) (p1 : (List (Vector UInt8 16))) (p2 : (Vector UInt8 16)) : Option ((Vector UInt8 16)) :=
 ((idx p1 (0 : Int)).bind fun x9 => (Yl p2 x9).bind fun r12 => some r12 : Option ((Vector UInt8 16))).bind fun j5 => (ZG (Yg p0 p1) (j5, 1) : Option ((Vector UInt8 16))).bind fun j15 => some j15
end Go.Proofs.Ytifdeoikcebbjaa
