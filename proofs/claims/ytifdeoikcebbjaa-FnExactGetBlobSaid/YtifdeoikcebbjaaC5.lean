/- The walk of what the law reaches: contracts of functions. -/
import Derived.Test.YtifdeoikcebbjaaC4
set_option linter.unusedVariables false
set_option linter.unusedSimpArgs false
set_option maxRecDepth 20000
set_option maxHeartbeats 400000
namespace Go.Proofs.Ytifdeoikcebbjaa
open Go
theorem c_laws_FnExactGetBlob (w0 : World) (p0 : GBlobs) (v0_1 : Value) (hv0_1 : Ro w0 p0.Keys [v0_1]) (v0_2 : Value) (hv0_2 : Ro w0 p0.Data [v0_2]) (v0_3 : Value) (hv0_3 : Ro w0 p0.Counts [v0_3]) (p1 : (Vector UInt8 32)) (r : Bool) (hF : Wb p0 p1 = some r) :
  Calls Try.prog 5 [(Value.agg (cat [[v0_1], [v0_2], [v0_3]]).toArray), (Value.agg (Flat.enc p1).toArray)].toArray w0 (fun en w' => ∃ v, en = .returned v ∧ (v = (vT r) ∧ Kept (Old w0) w0 w')) := by
 refine ZC (n := 104) Try.func5 rfl rfl (Nat.le_of_ble_eq_true rfl) rfl ?_
 intro a hE
 have hM := M.start w0
 unfold Wb at hF
 refine Zc (Z5 (cs := cat [[v0_1], [v0_2], [v0_3]]) hE hM Za (dl rfl) rfl rfl ?_); intro b1 w a hM hE
 refine Z5 (cs := Flat.enc p1) hE hM Za (dl rfl) rfl rfl ?_; intro b3 w a hM hE
 refine Ze hE Za (dl rfl) rfl ?_; intro a hE
 refine Zf (Zc (Ze hE Za (dl rfl) rfl ?_)); intro a hE
 refine Zf (Zc (Zp (cs := cat [[v0_1], [v0_2], [v0_3]]) hE Za (dl rfl) rfl ty48 rfl (hM.rawAt (pre := [_])) (ZR (cl1 (n := 1) (m := 2) rfl (cl1 (n := 1) (m := 1) rfl (cl1 (n := 1) (m := 0) rfl cl0)))) ?_)); intro a hE
 refine Zd hE Za (dl rfl) rfl ?_; intro a hE
 obtain ⟨r5, e6, hF⟩ := bind_some hF
 refine Zw (vs := [(Value.agg (cat [[v0_1], [v0_2], [v0_3]]).toArray), (vI 1048576)]) hE Za (dl rfl) rfl cb18 (c_laws_szBlobs _ p0 v0_1 (hM.rdo hv0_1) v0_2 (hM.rdo hv0_2) v0_3 (hM.rdo hv0_3) 1048576 r5 e6) ?_
 rintro v w a ⟨rfl, hK⟩ hE
 have hM := hM.keep hK
 refine Ze hE Za (dl rfl) rfl ?_; intro a hE
 refine Zf (wp_seq (Zc (Zd hE Za (dl rfl) rfl ?_))); intro a hE
 refine Zh hE Za (dl rfl) rfl rfl rfl ?_; intro a hE
 refine Zf ?_
 refine Zt hE rfl ?_ ?_
 ·intro hb7
  have hF := Zz hF hb7
  refine Zc (Ze hE Za (dl rfl) rfl ?_); intro a hE
  refine Zf ?_
  have hr := Option.some.inj hF
  subst hr
  have hM := M.fst (l := []) hM
  exact wp_ret (ZL (Zy hE rfl (Zu hE rfl) ⟨_, rfl, rfl, hM.kept⟩))
 ·intro hb7
  have hF := ZA hF hb7
  refine wp_skip (Zx ?_)
  obtain ⟨j8, hl9, hF10⟩ := bind_some hF
  refine ZS (fun a w => ∃ (u11 : Value), Env 104 a [(2, (ptr b1 0)), (3, (ptr b3 0)), (6, u11), (7, (vI j8.2))] ∧ M (Old w0) w0 w [raw b3 (Flat.enc p1), raw b1 (cat [[v0_1], [v0_2], [v0_3]]), osl NoB (j8.1 : List UInt8) u11]) ?_ ?_
  ·skip
   obtain ⟨r14, e15, hl9⟩ := bind_some hl9
   obtain ⟨r20, e21, hl9⟩ := bind_some hl9
   obtain ⟨r22, e23, hl9⟩ := bind_some hl9
   refine Wz (n := 104) (hd := [_, _, _, _, _, _, _, _, _]) (tl := [_]) YB rfl rfl [22, 23, 24, 25, 26, 21, 27, 28, 6] (by decide) (fun D u w => M (Old w0) w0 w ([raw b3 (Flat.enc p1), raw b1 (cat [[v0_1], [v0_2], [v0_3]])] ++ qL ([mkO 1 (fun v => own NoB r14 (Value.cells v).toList), mkO 4 (fun v => osl NoB (r22.1 : List UInt8) (Z4 v 0))] : Mk) D u) ∧ GOk ([([], fun us v => v = (Value.agg (cat [[v0_1], [v0_2], [v0_3]]).toArray)), ([], fun us v => ∃ cs, v = .agg cs), ([], fun us v => v = (Value.agg (Flat.enc p1).toArray)), ([], fun us v => v = (Value.agg (Flat.enc r20).toArray)), ([], fun us v => v = (Value.tuple [(Z4 v 0), (vI r22.2)].toArray)), ([4], fun us v => v = (Value.tuple [(Z4 (us.getD 0 undef) 0), (vI r22.2)].toArray)), ([4], fun us v => v = (Z4 (us.getD 0 undef) 0)), ([], fun us v => v = (vI r22.2)), ([4], fun us v => v = (Z4 (us.getD 0 undef) 0))] : Gs) D u) hE (fun u => ⟨M.qE (M.qE (M.q0 hM.drew u) emO) emO, gok0⟩) (ZH (Zb ?_ (Zb ?_ (Zb ?_ (Zb ?_ (Zb ?_ (Zb ?_ (Zb ?_ (Zb ?_ (Zb ?_ ZD)))))))))) ?_
   ·intro a w ux13 D hE hI hD hdc hp
    have hM0 := hI.1
    have hM := hI.1
    refine Zp (cs := cat [[v0_1], [v0_2], [v0_3]]) hE Za (dl rfl) rfl ty48 rfl (hM.rawAt (pre := [_])) (ZR (cl1 (n := 1) (m := 2) rfl (cl1 (n := 1) (m := 1) rfl (cl1 (n := 1) (m := 0) rfl cl0)))) ?_; intro a hE
    exact ⟨_, _, rfl, hE, M.qKeep hM0 rfl, hI.2.put hD rfl ZF rfl⟩
   ·intro a w ux13 D hE hI hD hdc hp
    have d0 : D 0 = true := hp 0 _ rfl rfl
    have g0 := hI.2 0 d0 _ rfl
    have f0 : ux13 0 = (Value.agg (cat [[v0_1], [v0_2], [v0_3]]).toArray) := g0.2
    have hM0 := hI.1
    have hM := hI.1
    refine Zw (vs := [(Value.agg (cat [[v0_1], [v0_2], [v0_3]]).toArray)]) hE Za (dl rfl) (Z0 (ZZ (lk rfl f0) Xh)) cb20 (UB _ p0 v0_1 (hM.rdo hv0_1) v0_2 (hM.rdo hv0_2) v0_3 (hM.rdo hv0_3) r14 e15) ?_
    rintro _ w a ⟨u16, u17, u18, rfl, hFr, hK⟩ hE
    have hM := hM0.add hK hFr
    have hM := hM.pull (pre := [_, _])
    have hM := hM.pull (pre := [_, _])
    have hM := hM.pull (pre := [_, _])
    have hM := hM.packL (m := [osl NoB (r14.Keys : List (Vector UInt8 32)) u16, osl NoB (r14.Data : List (List UInt8)) u17, osl NoB (r14.Counts : List Int) u18]) (it := own NoB r14 (cat [[u16], [u17], [u18]])) (Xg noB) (fun fp h => by obtain ⟨_, _, rfl, _, s1, _, _, rfl, _, s2, _, _, rfl, _, s3, rfl⟩ := h; exact pk_GBlobs (XH.sat s1) (XH.sat s2) (XH.sat s3) (by simp))
    exact ⟨_, _, rfl, hE, M.qFill (mk1 := []) (mk2 := [_]) (f := (fun v => own NoB r14 (Value.cells v).toList)) hM rfl hD, hI.2.put hD rfl ZF ⟨_, rfl⟩⟩
   ·intro a w ux13 D hE hI hD hdc hp
    have hM0 := hI.1
    have hM := hI.1
    refine Zp (cs := Flat.enc p1) hE Za (dl rfl) rfl ty24 rfl (hM.rawAt (pre := [])) (Flat.len _) ?_; intro a hE
    exact ⟨_, _, rfl, hE, M.qKeep hM0 rfl, hI.2.put hD rfl ZF rfl⟩
   ·intro a w ux13 D hE hI hD hdc hp
    have d2 : D 2 = true := hp 0 _ rfl rfl
    have g2 := hI.2 2 d2 _ rfl
    have f2 : ux13 2 = (Value.agg (Flat.enc p1).toArray) := g2.2
    have hM0 := hI.1
    refine Zw (vs := [(Value.agg (Flat.enc p1).toArray)]) hE Za (dl rfl) (Z0 (ZZ (lk rfl f2) Xh)) cb21 (Uf _ p1 r20 e21) ?_
    rintro v w a ⟨rfl, hK⟩ hE
    exact ⟨_, _, rfl, hE, M.qKeep (hM0.keep hK) rfl, hI.2.put hD rfl ZF rfl⟩
   ·intro a w ux13 D hE hI hD hdc hp
    have d1 : D 1 = true := hp 0 _ rfl rfl
    have g1 := hI.2 1 d1 _ rfl
    have d3 : D 3 = true := hp 1 _ rfl rfl
    have g3 := hI.2 3 d3 _ rfl
    have f3 : ux13 3 = (Value.agg (Flat.enc r20).toArray) := g3.2
    have hM0 := hI.1
    have hM := hI.1
    have hM := hM.sure (pre := [_, _]) d1
    obtain ⟨q1_0_1, q1_0_2, q1_0_3, hcz, hq1_0_1, hq1_0_2, hq1_0_3⟩ := un_GBlobs (hM.ro (pre := [_, _]) noB)
    obtain ⟨cz, hvz⟩ := (hI.2 1 (by assumption) _ rfl).2
    have qK19 : (ux13 1) = (Value.agg (cat [[q1_0_1], [q1_0_2], [q1_0_3]]).toArray) := by rw [hvz] at hcz ⊢; exact congrArg Value.agg (toList_eq hcz)
    refine Zw (vs := [(Value.agg (cat [[q1_0_1], [q1_0_2], [q1_0_3]]).toArray), (Value.agg (Flat.enc r20).toArray)]) hE Za (dl rfl) (Z0 (ZZ (lk rfl qK19) (ZZ (lk rfl f3) Xh))) cb19 (c_spec_GetBlob _ r14 q1_0_1 hq1_0_1 q1_0_2 hq1_0_2 q1_0_3 hq1_0_3 r20 r22 e23) ?_
    rintro _ w a ⟨u24, rfl, hFr, hK⟩ hE
    have hM := hM0.add hK hFr
    exact ⟨_, _, rfl, hE, M.qFill (mk1 := [_]) (mk2 := []) (f := (fun v => osl NoB (r22.1 : List UInt8) (Z4 v 0))) hM rfl hD, hI.2.put hD rfl ZF rfl⟩
   ·intro a w ux13 D hE hI hD hdc hp
    have d4 : D 4 = true := hp 0 _ rfl rfl
    have g4 := hI.2 4 d4 _ rfl
    have f4 : ux13 4 = (Value.tuple [(Z4 (ux13 4) 0), (vI r22.2)].toArray) := g4.2
    have hM0 := hI.1
    refine Zd hE Za (dl rfl) (lk rfl f4) ?_; intro a hE
    exact ⟨_, _, rfl, hE, M.qKeep hM0 rfl, hI.2.put hD rfl (allC d4 ZF) rfl⟩
   ·intro a w ux13 D hE hI hD hdc hp
    have d5 : D 5 = true := hp 0 _ rfl rfl
    have g5 := hI.2 5 d5 _ rfl
    have d4 : D 4 = true := g5.1 4 (show 4 ∈ [4] by decide)
    have f5 : ux13 5 = (Value.tuple [(Z4 (ux13 4) 0), (vI r22.2)].toArray) := g5.2
    have hM0 := hI.1
    refine XC hE Za (dl rfl) (lk rfl f5) rfl ?_; intro a hE
    exact ⟨_, _, rfl, hE, M.qKeep hM0 rfl, hI.2.put hD rfl (allC d4 ZF) rfl⟩
   ·intro a w ux13 D hE hI hD hdc hp
    have d5 : D 5 = true := hp 0 _ rfl rfl
    have g5 := hI.2 5 d5 _ rfl
    have d4 : D 4 = true := g5.1 4 (show 4 ∈ [4] by decide)
    have f5 : ux13 5 = (Value.tuple [(Z4 (ux13 4) 0), (vI r22.2)].toArray) := g5.2
    have hM0 := hI.1
    refine XC hE Za (dl rfl) (lk rfl f5) rfl ?_; intro a hE
    exact ⟨_, _, rfl, hE, M.qKeep hM0 rfl, hI.2.put hD rfl ZF rfl⟩
   ·intro a w ux13 D hE hI hD hdc hp
    have d6 : D 6 = true := hp 0 _ rfl rfl
    have g6 := hI.2 6 d6 _ rfl
    have d4 : D 4 = true := g6.1 4 (show 4 ∈ [4] by decide)
    have f6 : ux13 6 = (Z4 (ux13 4) 0) := g6.2
    have hM0 := hI.1
    refine Ze hE Za (dl rfl) (lk rfl f6) ?_; intro a hE
    exact ⟨_, _, rfl, hE, M.qKeep hM0 rfl, hI.2.put hD rfl (allC d4 ZF) rfl⟩
   ·intro a w ux13 D hE hI hall
    have hM := hI.1
    have d0 : D 0 = true := hall 0 (by decide)
    have d1 : D 1 = true := hall 1 (by decide)
    have d2 : D 2 = true := hall 2 (by decide)
    have d3 : D 3 = true := hall 3 (by decide)
    have d4 : D 4 = true := hall 4 (by decide)
    have d5 : D 5 = true := hall 5 (by decide)
    have d6 : D 6 = true := hall 6 (by decide)
    have d7 : D 7 = true := hall 7 (by decide)
    have d8 : D 8 = true := hall 8 (by decide)
    have f0 : ux13 0 = (Value.agg (cat [[v0_1], [v0_2], [v0_3]]).toArray) := (hI.2 0 d0 _ rfl).2
    have f2 : ux13 2 = (Value.agg (Flat.enc p1).toArray) := (hI.2 2 d2 _ rfl).2
    have f3 : ux13 3 = (Value.agg (Flat.enc r20).toArray) := (hI.2 3 d3 _ rfl).2
    have f4 : ux13 4 = (Value.tuple [(Z4 (ux13 4) 0), (vI r22.2)].toArray) := (hI.2 4 d4 _ rfl).2
    have f5 : ux13 5 = (Value.tuple [(Z4 (ux13 4) 0), (vI r22.2)].toArray) := (hI.2 5 d5 _ rfl).2
    have f6 : ux13 6 = (Z4 (ux13 4) 0) := (hI.2 6 d6 _ rfl).2
    have f7 : ux13 7 = (vI r22.2) := (hI.2 7 d7 _ rfl).2
    have f8 : ux13 8 = (Z4 (ux13 4) 0) := (hI.2 8 d8 _ rfl).2
    have hM := hM.sure (pre := [_, _]) d1
    have hM := hM.sure (pre := [_, _, _]) d4
    obtain ⟨q1_0_1, q1_0_2, q1_0_3, hcz, _, _, _⟩ := un_GBlobs (hM.ro (pre := [_, _]) noB)
    obtain ⟨cz, hvz⟩ := (hI.2 1 d1 _ rfl).2
    have qK19 : (ux13 1) = (Value.agg (cat [[q1_0_1], [q1_0_2], [q1_0_3]]).toArray) := by rw [hvz] at hcz ⊢; exact congrArg Value.agg (toList_eq hcz)
    have hM := hM.pull (pre := [_, _])
    rw [qK19] at hM
    have hM := hM.unpackL (m := [own NoB (r14.Keys : (List (Vector UInt8 32))) [q1_0_1], own NoB (r14.Data : (List (List UInt8))) [q1_0_2], own NoB (r14.Counts : (List Int)) [q1_0_3]]) (fun fp h => by obtain ⟨_, _, _, rfl, s1, s2, s3⟩ := unc_GBlobs h; exact (Xa.cons (Xg noB) s1 (Xa.cons (Xg noB) s2 (Xa.one (Xg noB) s3))))
    simp only [List.cons_append, List.nil_append] at hM
    have hE := hE.sub (e' := [(22, (Value.agg (cat [[v0_1], [v0_2], [v0_3]]).toArray)), (23, (Value.agg (cat [[q1_0_1], [q1_0_2], [q1_0_3]]).toArray)), (24, (Value.agg (Flat.enc p1).toArray)), (25, (Value.agg (Flat.enc r20).toArray)), (27, (Z4 (ux13 4) 0)), (28, (vI r22.2)), (6, (Z4 (ux13 4) 0)), (0, (Value.agg (cat [[v0_1], [v0_2], [v0_3]]).toArray)), (1, (Value.agg (Flat.enc p1).toArray)), (2, (ptr b1 0)), (3, (ptr b3 0)), (4, (vT false)), (5, (vI r5)), (16, (Value.agg (cat [[v0_1], [v0_2], [v0_3]]).toArray)), (17, (vI 1048576)), (18, (vI r5)), (19, (vI r5)), (20, (vT (decide (r5 < 0))))]) ⟨lk rfl f0, lk rfl qK19, lk rfl f2, lk rfl f3, lk rfl f6, lk rfl f7, lk rfl f8, rfl, rfl, rfl, rfl, rfl, rfl, rfl, rfl, rfl, rfl, rfl, trivial⟩
    refine Ze hE Za (dl rfl) rfl ?_; intro a hE
    refine Zj ?_
    have ht28 := Option.some.inj hl9
    subst ht28
    refine Zl ?_
    have hM := hM.pull (pre := [_, _, _, _, _])
    have hM := hM.pull (pre := [_, _, _, _, _])
    have hM := hM.pull (pre := [_, _, _, _, _])
    have hM := M.fst (l := [_, _, _]) hM
    exact ⟨(Z4 (ux13 4) 0), hE.sub ⟨rfl, rfl, rfl, rfl, trivial⟩, hM⟩
  ·skip
   rintro a w ⟨u11, hE, hM⟩
   refine Zc (Zp (cs := cat [[v0_1], [v0_2], [v0_3]]) hE Za (dl rfl) rfl ty48 rfl (hM.rawAt (pre := [_])) (ZR (cl1 (n := 1) (m := 2) rfl (cl1 (n := 1) (m := 1) rfl (cl1 (n := 1) (m := 0) rfl cl0)))) ?_); intro a hE
   obtain ⟨r29, e30, hF10⟩ := bind_some hF10
   refine Zw (vs := [(Value.agg (cat [[v0_1], [v0_2], [v0_3]]).toArray)]) hE Za (dl rfl) rfl cb20 (UB _ p0 v0_1 (hM.rdo hv0_1) v0_2 (hM.rdo hv0_2) v0_3 (hM.rdo hv0_3) r29 e30) ?_
   rintro v w a ⟨u31, u32, u33, rfl, hFr, hK⟩ hE
   have hM := hM.add hK hFr
   refine ZO hE hM Za (dl rfl) ty55 ?_; intro b34 w a hM hE
   refine Zs (seg := cat [[u31], [u32], [u33]]) (cs' := cat [[u31], [u32], [u33]]) hE hM Za rfl rfl rfl ty55 (ZR (cl1 (n := 1) (m := 2) rfl (cl1 (n := 1) (m := 1) rfl (cl1 (n := 1) (m := 0) rfl cl0)))) (Nat.le_of_eq ((Nat.zero_add _).trans (Eq.trans (ZR (cl1 (n := 1) (m := 2) rfl (cl1 (n := 1) (m := 1) rfl (cl1 (n := 1) (m := 0) rfl cl0)))) (Eq.symm (ZR (cl1 (n := 1) (m := 2) rfl (cl1 (n := 1) (m := 1) rfl (cl1 (n := 1) (m := 0) rfl cl0)))))))) (cat_cell (cc1 (Rep.cell (hM.sl (pre := [_]) noB)) (cc1 (Rep.cell (hM.sl (pre := [_, _]) noB)) (cc1 (Rep.cell (hM.sl (pre := [_, _, _]) noB)) cc0)))) (Zq (Eq.trans (ZR (cl1 (n := 1) (m := 2) rfl (cl1 (n := 1) (m := 1) rfl (cl1 (n := 1) (m := 0) rfl cl0)))) (Eq.symm (ZR (cl1 (n := 1) (m := 2) rfl (cl1 (n := 1) (m := 1) rfl (cl1 (n := 1) (m := 0) rfl cl0))))))) ?_; intro w a hM hE
   refine Zf ?_
   obtain ⟨j36, hl37, hF38⟩ := bind_some hF10
   refine ZS (fun a w => ∃ (u39 : Value), Env 104 a [(2, (ptr b1 0)), (3, (ptr b3 0)), (6, u11), (7, (vI j8.2)), (8, (ptr b34 0)), (9, u39), (10, (vI j36.1))] ∧ M (Old w0) w0 w [raw b34 (cat [[u31], [u32], [u33]]), osl NoB (r29.Keys : List (Vector UInt8 32)) u31, osl NoB (r29.Data : List (List UInt8)) u32, osl NoB (r29.Counts : List Int) u33, raw b3 (Flat.enc p1), raw b1 (cat [[v0_1], [v0_2], [v0_3]]), osl NoB (j8.1 : List UInt8) u11, osl NoB (j36.2 : List UInt8) u39]) ?_ ?_
   ·skip
    obtain ⟨r42, e43, hl37⟩ := bind_some hl37
    obtain ⟨r44, e45, hl37⟩ := bind_some hl37
    refine Wz (n := 104) (hd := [_, _, _, _, _, _, _, _]) (tl := [_]) YB rfl rfl [32, 33, 34, 35, 31, 36, 37, 9] (by decide) (fun D u w => M (Old w0) w0 w ([raw b34 (cat [[u31], [u32], [u33]]), osl NoB (r29.Keys : List (Vector UInt8 32)) u31, osl NoB (r29.Data : List (List UInt8)) u32, osl NoB (r29.Counts : List Int) u33, raw b3 (Flat.enc p1), raw b1 (cat [[v0_1], [v0_2], [v0_3]]), osl NoB (j8.1 : List UInt8) u11] ++ qL ([mkO 3 (fun v => osl NoB (r44.1 : List UInt8) (Z4 v 0))] : Mk) D u) ∧ GOk ([([], fun us v => v = (Value.agg (cat [[u31], [u32], [u33]]).toArray)), ([], fun us v => v = (Value.agg (Flat.enc p1).toArray)), ([], fun us v => v = (Value.agg (Flat.enc r42).toArray)), ([], fun us v => v = (Value.tuple [(Z4 v 0), (vI r44.2)].toArray)), ([3], fun us v => v = (Value.tuple [(Z4 (us.getD 0 undef) 0), (vI r44.2)].toArray)), ([3], fun us v => v = (Z4 (us.getD 0 undef) 0)), ([], fun us v => v = (vI r44.2)), ([3], fun us v => v = (Z4 (us.getD 0 undef) 0))] : Gs) D u) hE (fun u => ⟨M.qE (M.q0 hM.drew u) emO, gok0⟩) (ZH (Zb ?_ (Zb ?_ (Zb ?_ (Zb ?_ (Zb ?_ (Zb ?_ (Zb ?_ (Zb ?_ ZD))))))))) ?_
    ·intro a w ux41 D hE hI hD hdc hp
     have hM0 := hI.1
     have hM := hI.1
     refine Zp (cs := cat [[u31], [u32], [u33]]) hE Za (dl rfl) rfl ty55 rfl (hM.rawAt (pre := [])) (ZR (cl1 (n := 1) (m := 2) rfl (cl1 (n := 1) (m := 1) rfl (cl1 (n := 1) (m := 0) rfl cl0)))) ?_; intro a hE
     exact ⟨_, _, rfl, hE, M.qKeep hM0 rfl, hI.2.put hD rfl ZF rfl⟩
    ·intro a w ux41 D hE hI hD hdc hp
     have hM0 := hI.1
     have hM := hI.1
     refine Zp (cs := Flat.enc p1) hE Za (dl rfl) rfl ty24 rfl (hM.rawAt (pre := [_, _, _, _])) (Flat.len _) ?_; intro a hE
     exact ⟨_, _, rfl, hE, M.qKeep hM0 rfl, hI.2.put hD rfl ZF rfl⟩
    ·intro a w ux41 D hE hI hD hdc hp
     have d1 : D 1 = true := hp 0 _ rfl rfl
     have g1 := hI.2 1 d1 _ rfl
     have f1 : ux41 1 = (Value.agg (Flat.enc p1).toArray) := g1.2
     have hM0 := hI.1
     refine Zw (vs := [(Value.agg (Flat.enc p1).toArray)]) hE Za (dl rfl) (Z0 (ZZ (lk rfl f1) Xh)) cb21 (Uf _ p1 r42 e43) ?_
     rintro v w a ⟨rfl, hK⟩ hE
     exact ⟨_, _, rfl, hE, M.qKeep (hM0.keep hK) rfl, hI.2.put hD rfl ZF rfl⟩
    ·intro a w ux41 D hE hI hD hdc hp
     have d0 : D 0 = true := hp 0 _ rfl rfl
     have g0 := hI.2 0 d0 _ rfl
     have f0 : ux41 0 = (Value.agg (cat [[u31], [u32], [u33]]).toArray) := g0.2
     have d2 : D 2 = true := hp 1 _ rfl rfl
     have g2 := hI.2 2 d2 _ rfl
     have f2 : ux41 2 = (Value.agg (Flat.enc r42).toArray) := g2.2
     have hM0 := hI.1
     have hM := hI.1
     refine Zw (vs := [(Value.agg (cat [[u31], [u32], [u33]]).toArray), (Value.agg (Flat.enc r42).toArray)]) hE Za (dl rfl) (Z0 (ZZ (lk rfl f0) (ZZ (lk rfl f2) Xh))) cb22 (c_impl_GetBlob _ r29 u31 (hM.sl (pre := [_]) noB) u32 (hM.sl (pre := [_, _]) noB) u33 (hM.sl (pre := [_, _, _]) noB) r42 r44 e45) ?_
     rintro _ w a ⟨u46, rfl, hFr, hK⟩ hE
     have hM := hM0.add hK hFr
     exact ⟨_, _, rfl, hE, M.qFill (mk1 := []) (mk2 := []) (f := (fun v => osl NoB (r44.1 : List UInt8) (Z4 v 0))) hM rfl hD, hI.2.put hD rfl ZF rfl⟩
    ·intro a w ux41 D hE hI hD hdc hp
     have d3 : D 3 = true := hp 0 _ rfl rfl
     have g3 := hI.2 3 d3 _ rfl
     have f3 : ux41 3 = (Value.tuple [(Z4 (ux41 3) 0), (vI r44.2)].toArray) := g3.2
     have hM0 := hI.1
     refine Zd hE Za (dl rfl) (lk rfl f3) ?_; intro a hE
     exact ⟨_, _, rfl, hE, M.qKeep hM0 rfl, hI.2.put hD rfl (allC d3 ZF) rfl⟩
    ·intro a w ux41 D hE hI hD hdc hp
     have d4 : D 4 = true := hp 0 _ rfl rfl
     have g4 := hI.2 4 d4 _ rfl
     have d3 : D 3 = true := g4.1 3 (show 3 ∈ [3] by decide)
     have f4 : ux41 4 = (Value.tuple [(Z4 (ux41 3) 0), (vI r44.2)].toArray) := g4.2
     have hM0 := hI.1
     refine XC hE Za (dl rfl) (lk rfl f4) rfl ?_; intro a hE
     exact ⟨_, _, rfl, hE, M.qKeep hM0 rfl, hI.2.put hD rfl (allC d3 ZF) rfl⟩
    ·intro a w ux41 D hE hI hD hdc hp
     have d4 : D 4 = true := hp 0 _ rfl rfl
     have g4 := hI.2 4 d4 _ rfl
     have d3 : D 3 = true := g4.1 3 (show 3 ∈ [3] by decide)
     have f4 : ux41 4 = (Value.tuple [(Z4 (ux41 3) 0), (vI r44.2)].toArray) := g4.2
     have hM0 := hI.1
     refine XC hE Za (dl rfl) (lk rfl f4) rfl ?_; intro a hE
     exact ⟨_, _, rfl, hE, M.qKeep hM0 rfl, hI.2.put hD rfl ZF rfl⟩
    ·intro a w ux41 D hE hI hD hdc hp
     have d5 : D 5 = true := hp 0 _ rfl rfl
     have g5 := hI.2 5 d5 _ rfl
     have d3 : D 3 = true := g5.1 3 (show 3 ∈ [3] by decide)
     have f5 : ux41 5 = (Z4 (ux41 3) 0) := g5.2
     have hM0 := hI.1
     refine Ze hE Za (dl rfl) (lk rfl f5) ?_; intro a hE
     exact ⟨_, _, rfl, hE, M.qKeep hM0 rfl, hI.2.put hD rfl (allC d3 ZF) rfl⟩
    ·intro a w ux41 D hE hI hall
     have hM := hI.1
     have d0 : D 0 = true := hall 0 (by decide)
     have d1 : D 1 = true := hall 1 (by decide)
     have d2 : D 2 = true := hall 2 (by decide)
     have d3 : D 3 = true := hall 3 (by decide)
     have d4 : D 4 = true := hall 4 (by decide)
     have d5 : D 5 = true := hall 5 (by decide)
     have d6 : D 6 = true := hall 6 (by decide)
     have d7 : D 7 = true := hall 7 (by decide)
     have f0 : ux41 0 = (Value.agg (cat [[u31], [u32], [u33]]).toArray) := (hI.2 0 d0 _ rfl).2
     have f1 : ux41 1 = (Value.agg (Flat.enc p1).toArray) := (hI.2 1 d1 _ rfl).2
     have f2 : ux41 2 = (Value.agg (Flat.enc r42).toArray) := (hI.2 2 d2 _ rfl).2
     have f3 : ux41 3 = (Value.tuple [(Z4 (ux41 3) 0), (vI r44.2)].toArray) := (hI.2 3 d3 _ rfl).2
     have f4 : ux41 4 = (Value.tuple [(Z4 (ux41 3) 0), (vI r44.2)].toArray) := (hI.2 4 d4 _ rfl).2
     have f5 : ux41 5 = (Z4 (ux41 3) 0) := (hI.2 5 d5 _ rfl).2
     have f6 : ux41 6 = (vI r44.2) := (hI.2 6 d6 _ rfl).2
     have f7 : ux41 7 = (Z4 (ux41 3) 0) := (hI.2 7 d7 _ rfl).2
     have hM := hM.sure (pre := [_, _, _, _, _, _, _]) d3
     have hE := hE.sub (e' := [(32, (Value.agg (cat [[u31], [u32], [u33]]).toArray)), (33, (Value.agg (Flat.enc p1).toArray)), (34, (Value.agg (Flat.enc r42).toArray)), (36, (Z4 (ux41 3) 0)), (37, (vI r44.2)), (9, (Z4 (ux41 3) 0)), (2, (ptr b1 0)), (3, (ptr b3 0)), (6, u11), (7, (vI j8.2)), (8, (ptr b34 0)), (29, (Value.agg (cat [[v0_1], [v0_2], [v0_3]]).toArray)), (30, (Value.agg (cat [[u31], [u32], [u33]]).toArray))]) ⟨lk rfl f0, lk rfl f1, lk rfl f2, lk rfl f5, lk rfl f6, lk rfl f7, rfl, rfl, rfl, rfl, rfl, rfl, rfl, trivial⟩
     refine Ze hE Za (dl rfl) rfl ?_; intro a hE
     refine Zj ?_
     have ht47 := Option.some.inj hl37
     subst ht47
     refine Zl ?_
     exact ⟨(Z4 (ux41 3) 0), hE.sub ⟨rfl, rfl, rfl, rfl, rfl, rfl, rfl, trivial⟩, hM⟩
   ·skip
    rintro a w ⟨u39, hE, hM⟩
    refine wp_seq ?_
    obtain ⟨j48, hl49, hF50⟩ := bind_some hF38
    refine ZS (fun a w => Env 104 a [(2, (ptr b1 0)), (3, (ptr b3 0)), (6, u11), (7, (vI j8.2)), (8, (ptr b34 0)), (9, u39), (10, (vI j36.1)), (46, (vT j48))] ∧ M (Old w0) w0 w [raw b34 (cat [[u31], [u32], [u33]]), osl NoB (r29.Keys : List (Vector UInt8 32)) u31, osl NoB (r29.Data : List (List UInt8)) u32, osl NoB (r29.Counts : List Int) u33, raw b3 (Flat.enc p1), raw b1 (cat [[v0_1], [v0_2], [v0_3]]), osl NoB (j8.1 : List UInt8) u11, osl NoB (j36.2 : List UInt8) u39]) ?_ ?_
    ·skip
     refine wp_region_lit (Zd hE Za (dl rfl) rfl ?_); intro a hE
     refine Zd hE Za (dl rfl) rfl ?_; intro a hE
     obtain ⟨r51, e52, hl49⟩ := bind_some hl49
     refine Zw (vs := [u39, u11]) hE Za (dl rfl) rfl cb23 (UH _ j36.2 u39 (hM.sl (pre := [_, _, _, _, _, _, _]) noB) j8.1 u11 (hM.sl (pre := [_, _, _, _, _, _]) noB) r51 e52) ?_
     rintro v w a ⟨rfl, hK⟩ hE
     have hM := hM.keep hK
     refine Un hE Za (dl rfl) rfl ?_; intro a hE
     refine Zd hE Za (dl rfl) rfl ?_; intro a hE
     refine WV (!r51) (fun hb53 => ?_) (fun hb53 => ?_)
     ·have hl49 := Zz hl49 hb53
      refine Zn hE rfl (lkb rfl hb53) rfl (by decide) ?_; intro a hE
      refine Zn hE rfl (lkb rfl hb53) rfl (by decide) ?_; intro a hE
      refine Zn hE rfl (lkb rfl hb53) rfl (by decide) ?_; intro a hE
      refine Yn hE Za (dl rfl) (lkb rfl hb53) rfl ?_; intro a hE
      refine Zj ?_
      have ht54 := Option.some.inj hl49
      subst ht54
      refine Zl ?_
      exact ⟨hE.sub ⟨rfl, rfl, rfl, rfl, rfl, rfl, rfl, rfl, trivial⟩, hM⟩
     ·have hl49 := ZA hl49 hb53
      refine Zd hE (Zk hE rfl (lkb rfl hb53)) (by decide) rfl ?_; intro a hE
      refine Zd hE (Zk hE rfl (lkb rfl hb53)) (by decide) rfl ?_; intro a hE
      refine Zh hE (Zk hE rfl (lkb rfl hb53)) (by decide) rfl rfl rfl ?_; intro a hE
      refine YQ hE Za (dl rfl) (lkb rfl hb53) rfl ?_; intro a hE
      refine Zj ?_
      have ht55 := Option.some.inj hl49
      subst ht55
      refine Zl ?_
      exact ⟨hE.sub ⟨rfl, rfl, rfl, rfl, rfl, rfl, rfl, rfl, trivial⟩, hM⟩
    ·skip
     rintro a w ⟨hE, hM⟩
     refine Zt hE rfl ?_ ?_
     ·intro hb56
      have hF50 := Zz hF50 hb56
      refine Zc (Ze hE Za (dl rfl) rfl ?_); intro a hE
      refine Zf ?_
      have hr := Option.some.inj hF50
      subst hr
      have hM := M.fst (l := []) hM
      exact wp_ret (ZL (Zy hE rfl (Zu hE rfl) ⟨_, rfl, rfl, hM.kept⟩))
     ·intro hb56
      have hF50 := ZA hF50 hb56
      refine wp_skip (Zx (wp_seq ?_))
      obtain ⟨j57, hl58, hF59⟩ := bind_some hF50
      refine ZS (fun a w => Env 104 a [(2, (ptr b1 0)), (3, (ptr b3 0)), (6, u11), (7, (vI j8.2)), (8, (ptr b34 0)), (9, u39), (10, (vI j36.1)), (51, (vT j57))] ∧ M (Old w0) w0 w [raw b34 (cat [[u31], [u32], [u33]]), osl NoB (r29.Keys : List (Vector UInt8 32)) u31, osl NoB (r29.Data : List (List UInt8)) u32, osl NoB (r29.Counts : List Int) u33, raw b3 (Flat.enc p1), raw b1 (cat [[v0_1], [v0_2], [v0_3]]), osl NoB (j8.1 : List UInt8) u11, osl NoB (j36.2 : List UInt8) u39]) ?_ ?_
      ·skip
       obtain ⟨r61, e62, hl58⟩ := bind_some hl58
       refine c_draw2 (n := 104) (hd := [_, _, _]) (tl := [_, _]) (its := [raw b34 (cat [[u31], [u32], [u33]]), osl NoB (r29.Keys : List (Vector UInt8 32)) u31, osl NoB (r29.Data : List (List UInt8)) u32, osl NoB (r29.Counts : List Int) u33, raw b3 (Flat.enc p1), raw b1 (cat [[v0_1], [v0_2], [v0_3]]), osl NoB (j8.1 : List UInt8) u11, osl NoB (j36.2 : List UInt8) u39]) YB rfl rfl [47, 48, 49] (by decide) [(2, fun v => own NoB r61 (Value.cells v).toList)] rfl (fun j => ([fun v => v = (Value.agg (cat [[u31], [u32], [u33]]).toArray), fun v => v = (Value.agg (cat [[v0_1], [v0_2], [v0_3]]).toArray), fun v => ∃ cs, v = .agg cs] : List (Value → Prop)).getD j (fun _ => True)) hE hM.drew (ZH (Zb ?_ (Zb ?_ (Zb ?_ ZD)))) ?_
       ·intro a w ux60 D hE hM hD hp
        have hM0 := hM
        have hM : M (Old w0) w0 w [raw b34 (cat [[u31], [u32], [u33]]), osl NoB (r29.Keys : List (Vector UInt8 32)) u31, osl NoB (r29.Data : List (List UInt8)) u32, osl NoB (r29.Counts : List Int) u33, raw b3 (Flat.enc p1), raw b1 (cat [[v0_1], [v0_2], [v0_3]]), osl NoB (j8.1 : List UInt8) u11, osl NoB (j36.2 : List UInt8) u39, opt (D 2) (own NoB r61 (Value.cells (ux60 2)).toList)] := hM
        refine Zp (cs := cat [[u31], [u32], [u33]]) hE Za (dl rfl) rfl ty55 rfl (hM.rawAt (pre := [])) (ZR (cl1 (n := 1) (m := 2) rfl (cl1 (n := 1) (m := 1) rfl (cl1 (n := 1) (m := 0) rfl cl0)))) ?_; intro a hE
        exact ⟨_, _, rfl, hE, rfl, hM0.optKeep rfl⟩
       ·intro a w ux60 D hE hM hD hp
        have hM0 := hM
        have hM : M (Old w0) w0 w [raw b34 (cat [[u31], [u32], [u33]]), osl NoB (r29.Keys : List (Vector UInt8 32)) u31, osl NoB (r29.Data : List (List UInt8)) u32, osl NoB (r29.Counts : List Int) u33, raw b3 (Flat.enc p1), raw b1 (cat [[v0_1], [v0_2], [v0_3]]), osl NoB (j8.1 : List UInt8) u11, osl NoB (j36.2 : List UInt8) u39, opt (D 2) (own NoB r61 (Value.cells (ux60 2)).toList)] := hM
        refine Zp (cs := cat [[v0_1], [v0_2], [v0_3]]) hE Za (dl rfl) rfl ty48 rfl (hM.rawAt (pre := [_, _, _, _, _])) (ZR (cl1 (n := 1) (m := 2) rfl (cl1 (n := 1) (m := 1) rfl (cl1 (n := 1) (m := 0) rfl cl0)))) ?_; intro a hE
        exact ⟨_, _, rfl, hE, rfl, hM0.optKeep rfl⟩
       ·intro a w ux60 D hE hM hD hp
        have f1 : ux60 1 = (Value.agg (cat [[v0_1], [v0_2], [v0_3]]).toArray) := (hp 0 _ rfl rfl).2
        have hM0 := hM
        have hM : M (Old w0) w0 w [raw b34 (cat [[u31], [u32], [u33]]), osl NoB (r29.Keys : List (Vector UInt8 32)) u31, osl NoB (r29.Data : List (List UInt8)) u32, osl NoB (r29.Counts : List Int) u33, raw b3 (Flat.enc p1), raw b1 (cat [[v0_1], [v0_2], [v0_3]]), osl NoB (j8.1 : List UInt8) u11, osl NoB (j36.2 : List UInt8) u39, opt (D 2) (own NoB r61 (Value.cells (ux60 2)).toList)] := hM
        refine Zw (vs := [(Value.agg (cat [[v0_1], [v0_2], [v0_3]]).toArray)]) hE Za (dl rfl) (Z0 (ZZ (lk rfl f1) Xh)) cb20 (UB _ p0 v0_1 (hM.rdo hv0_1) v0_2 (hM.rdo hv0_2) v0_3 (hM.rdo hv0_3) r61 e62) ?_
        rintro _ w a ⟨u63, u64, u65, rfl, hFr, hK⟩ hE
        have hM := hM0.add hK hFr
        have hM := hM.packL (m := [osl NoB (r61.Keys : List (Vector UInt8 32)) u63, osl NoB (r61.Data : List (List UInt8)) u64, osl NoB (r61.Counts : List Int) u65]) (it := own NoB r61 (cat [[u63], [u64], [u65]])) (Xg noB) (fun fp h => by obtain ⟨_, _, rfl, _, s1, _, _, rfl, _, s2, _, _, rfl, _, s3, rfl⟩ := h; exact pk_GBlobs (XH.sat s1) (XH.sat s2) (XH.sat s3) (by simp))
        exact ⟨_, _, rfl, hE, ⟨_, rfl⟩, M.optFill (mk1 := []) (mk2 := []) (f := (fun v => own NoB r61 (Value.cells v).toList)) hM rfl hD⟩
       ·intro a w ux60 hE hM hg
        have f0 : ux60 0 = (Value.agg (cat [[u31], [u32], [u33]]).toArray) := hg 0 (by decide)
        have f1 : ux60 1 = (Value.agg (cat [[v0_1], [v0_2], [v0_3]]).toArray) := hg 1 (by decide)
        have hM : M (Old w0) w0 w [raw b34 (cat [[u31], [u32], [u33]]), osl NoB (r29.Keys : List (Vector UInt8 32)) u31, osl NoB (r29.Data : List (List UInt8)) u32, osl NoB (r29.Counts : List Int) u33, raw b3 (Flat.enc p1), raw b1 (cat [[v0_1], [v0_2], [v0_3]]), osl NoB (j8.1 : List UInt8) u11, osl NoB (j36.2 : List UInt8) u39, own NoB r61 (Value.cells (ux60 2)).toList] := hM
        obtain ⟨q2_1, q2_2, q2_3, hcz, hq2_1, hq2_2, hq2_3⟩ := un_GBlobs (hM.ro (pre := [_, _, _, _, _, _, _, _]) noB)
        obtain ⟨cz, hvz⟩ := hg 2 (by decide)
        have f2 : ux60 2 = (Value.agg (cat [[q2_1], [q2_2], [q2_3]]).toArray) := by rw [hvz] at hcz ⊢; exact congrArg Value.agg (toList_eq hcz)
        have hM := hM.pull (pre := [_, _, _, _, _, _, _, _])
        rw [f2] at hM
        have hM := hM.unpackL (m := [own NoB (r61.Keys : (List (Vector UInt8 32))) [q2_1], own NoB (r61.Data : (List (List UInt8))) [q2_2], own NoB (r61.Counts : (List Int)) [q2_3]]) (fun fp h => by obtain ⟨_, _, _, rfl, s1, s2, s3⟩ := unc_GBlobs h; exact (Xa.cons (Xg noB) s1 (Xa.cons (Xg noB) s2 (Xa.one (Xg noB) s3))))
        simp only [List.cons_append, List.nil_append] at hM
        have hE := hE.sub (e' := [(47, (Value.agg (cat [[u31], [u32], [u33]]).toArray)), (48, (Value.agg (cat [[v0_1], [v0_2], [v0_3]]).toArray)), (49, (Value.agg (cat [[q2_1], [q2_2], [q2_3]]).toArray)), (2, (ptr b1 0)), (3, (ptr b3 0)), (6, u11), (7, (vI j8.2)), (8, (ptr b34 0)), (9, u39), (10, (vI j36.1)), (46, (vT j48))]) ⟨lk rfl f0, lk rfl f1, lk rfl f2, rfl, rfl, rfl, rfl, rfl, rfl, rfl, rfl, trivial⟩
        obtain ⟨r70, e71, hl58⟩ := bind_some hl58
        refine Zw (vs := [(Value.agg (cat [[u31], [u32], [u33]]).toArray), (Value.agg (cat [[q2_1], [q2_2], [q2_3]]).toArray)]) hE Za (dl rfl) rfl cb24 (c_laws_eqBlobs _ r29 u31 (hM.sl (pre := [_, _, _, _]) noB) u32 (hM.sl (pre := [_, _, _, _, _]) noB) u33 (hM.sl (pre := [_, _, _, _, _, _]) noB) r61 q2_1 (hM.ro (pre := []) noB) q2_2 (hM.ro (pre := [_]) noB) q2_3 (hM.ro (pre := [_, _]) noB) r70 e71) ?_
        rintro v w a ⟨rfl, hK⟩ hE
        have hM := hM.keep hK
        refine Un hE Za (dl rfl) rfl ?_; intro a hE
        refine Zj ?_
        have ht72 := Option.some.inj hl58
        subst ht72
        refine Zl ?_
        have hM := hM.pull (pre := [_, _, _, _, _, _, _, _, _, _])
        have hM := hM.pull (pre := [_, _, _, _, _, _, _, _, _, _])
        have hM := hM.pull (pre := [_, _, _, _, _, _, _, _, _, _])
        have hM := hM.pull (pre := [_, _, _, _, _, _, _, _, _, _])
        have hM := hM.pull (pre := [_, _, _, _, _, _, _, _, _, _])
        have hM := hM.pull (pre := [_, _, _, _, _, _, _, _, _, _])
        have hM := hM.pull (pre := [_, _, _, _, _, _, _, _, _, _])
        have hM := hM.pull (pre := [_, _, _, _, _, _, _, _, _, _])
        have hM := M.fst (l := [_, _, _, _, _, _, _, _]) hM
        exact ⟨hE.sub ⟨rfl, rfl, rfl, rfl, rfl, rfl, rfl, rfl, trivial⟩, hM⟩
      ·skip
       rintro a w ⟨hE, hM⟩
       refine Zt hE rfl ?_ ?_
       ·intro hb73
        have hF59 := Zz hF59 hb73
        refine Zc (Ze hE Za (dl rfl) rfl ?_); intro a hE
        refine Zf ?_
        have hr := Option.some.inj hF59
        subst hr
        have hM := M.fst (l := []) hM
        exact wp_ret (ZL (Zy hE rfl (Zu hE rfl) ⟨_, rfl, rfl, hM.kept⟩))
       ·intro hb73
        have hF59 := ZA hF59 hb73
        refine wp_skip (Zx (Zc (Ze hE Za (dl rfl) rfl ?_))); intro a hE
        refine Zf (Zc (Zp (cs := cat [[u31], [u32], [u33]]) hE Za (dl rfl) rfl ty55 rfl (hM.rawAt (pre := [])) (ZR (cl1 (n := 1) (m := 2) rfl (cl1 (n := 1) (m := 1) rfl (cl1 (n := 1) (m := 0) rfl cl0)))) ?_)); intro a hE
        refine Zd hE Za (dl rfl) rfl ?_; intro a hE
        have hM := hM.pull (pre := [_])
        have hM := hM.toOwn noB
        have hM := hM.pull (pre := [_, _])
        have hM := hM.toOwn noB
        have hM := hM.pull (pre := [_, _, _])
        have hM := hM.toOwn noB
        have hM := hM.pull (pre := [_])
        have hM := hM.pull (pre := [_, _])
        obtain ⟨r74, e75, hF59⟩ := bind_some hF59
        refine Zw (vs := [(Value.agg (cat [[u31], [u32], [u33]]).toArray), (vI 1)]) hE Za (dl rfl) rfl cb25 (c_laws_markBlobs _ _ _ _ r29 u31 u32 u33 1 hM r74 e75) ?_
        rintro v w a ⟨rfl, hM⟩ hE
        refine Ze hE Za (dl rfl) rfl ?_; intro a hE
        refine Zf (wp_seq ?_)
        obtain ⟨j76, hl77, hF78⟩ := bind_some hF59
        refine ZS (fun a w => Env 104 a [(2, (ptr b1 0)), (3, (ptr b3 0)), (6, u11), (7, (vI j8.2)), (9, u39), (67, (vT j76))] ∧ M (Old w0) w0 w [raw b3 (Flat.enc p1), raw b1 (cat [[v0_1], [v0_2], [v0_3]]), osl NoB (j8.1 : List UInt8) u11, osl NoB (j36.2 : List UInt8) u39]) ?_ ?_
        ·skip
         refine wp_region_lit (Zd hE Za (dl rfl) rfl ?_); intro a hE
         refine Zh hE Za (dl rfl) rfl rfl rfl ?_; intro a hE
         refine Zd hE Za (dl rfl) rfl ?_; intro a hE
         refine WV (decide (r74.2 < 0)) (fun hb79 => ?_) (fun hb79 => ?_)
         ·have hl77 := Zz hl77 hb79
          refine Zn hE rfl (lkb rfl hb79) rfl (by decide) ?_; intro a hE
          refine Zn hE rfl (lkb rfl hb79) rfl (by decide) ?_; intro a hE
          refine Zn hE rfl (lkb rfl hb79) rfl (by decide) ?_; intro a hE
          refine Zn hE rfl (lkb rfl hb79) rfl (by decide) ?_; intro a hE
          refine Yn hE Za (dl rfl) (lkb rfl hb79) rfl ?_; intro a hE
          refine Zd hE Za (dl rfl) rfl ?_; intro a hE
          refine Zn hE rfl rfl rfl (by decide) ?_; intro a hE
          refine Zn hE rfl rfl rfl (by decide) ?_; intro a hE
          refine Zn hE rfl rfl rfl (by decide) ?_; intro a hE
          refine Yn hE Za (dl rfl) rfl rfl ?_; intro a hE
          refine Zj ?_
          have ht80 := Option.some.inj hl77
          subst ht80
          refine Zl ?_
          have hM := hM.pull (pre := [_, _, _, _, _, _, _])
          have hM := hM.pull (pre := [_, _, _, _, _, _, _])
          have hM := hM.pull (pre := [_, _, _, _, _, _, _])
          have hM := hM.pull (pre := [_, _, _, _, _, _, _])
          have hM := M.fst (l := [_, _, _, _]) hM
          exact ⟨hE.sub ⟨rfl, rfl, rfl, rfl, rfl, rfl, trivial⟩, hM⟩
         ·have hl77 := ZA hl77 hb79
          refine Zd hE (Zk hE rfl (lkb rfl hb79)) (by decide) rfl ?_; intro a hE
          refine Zd hE (Zk hE rfl (lkb rfl hb79)) (by decide) rfl ?_; intro a hE
          obtain ⟨r81, e82, hl77⟩ := bind_some hl77
          refine Zw (vs := [u39, u11]) hE (Zk hE rfl (lkb rfl hb79)) (by decide) rfl cb23 (UH _ j36.2 u39 (hM.sl (pre := [_, _, _, _, _, _, _]) noB) j8.1 u11 (hM.sl (pre := [_, _, _, _, _, _]) noB) r81 e82) ?_
          rintro v w a ⟨rfl, hK⟩ hE
          have hM := hM.keep hK
          refine Un hE (Zk hE rfl (lkb rfl hb79)) (by decide) rfl ?_; intro a hE
          refine YQ hE Za (dl rfl) (lkb rfl hb79) rfl ?_; intro a hE
          refine Zd hE Za (dl rfl) rfl ?_; intro a hE
          refine WV (!r81) (fun hb83 => ?_) (fun hb83 => ?_)
          ·have hl77 := Zz hl77 hb83
           refine Zn hE rfl (lkb rfl hb83) rfl (by decide) ?_; intro a hE
           refine Zn hE rfl (lkb rfl hb83) rfl (by decide) ?_; intro a hE
           refine Zn hE rfl (lkb rfl hb83) rfl (by decide) ?_; intro a hE
           refine Yn hE Za (dl rfl) (lkb rfl hb83) rfl ?_; intro a hE
           refine Zj ?_
           have ht84 := Option.some.inj hl77
           subst ht84
           refine Zl ?_
           have hM := hM.pull (pre := [_, _, _, _, _, _, _])
           have hM := hM.pull (pre := [_, _, _, _, _, _, _])
           have hM := hM.pull (pre := [_, _, _, _, _, _, _])
           have hM := hM.pull (pre := [_, _, _, _, _, _, _])
           have hM := M.fst (l := [_, _, _, _]) hM
           exact ⟨hE.sub ⟨rfl, rfl, rfl, rfl, rfl, rfl, trivial⟩, hM⟩
          ·have hl77 := ZA hl77 hb83
           refine Zd hE (Zk hE rfl (lkb rfl hb83)) (by decide) rfl ?_; intro a hE
           refine Zd hE (Zk hE rfl (lkb rfl hb83)) (by decide) rfl ?_; intro a hE
           refine Zh hE (Zk hE rfl (lkb rfl hb83)) (by decide) rfl rfl rfl ?_; intro a hE
           refine YQ hE Za (dl rfl) (lkb rfl hb83) rfl ?_; intro a hE
           refine Zj ?_
           have ht85 := Option.some.inj hl77
           subst ht85
           refine Zl ?_
           have hM := hM.pull (pre := [_, _, _, _, _, _, _])
           have hM := hM.pull (pre := [_, _, _, _, _, _, _])
           have hM := hM.pull (pre := [_, _, _, _, _, _, _])
           have hM := hM.pull (pre := [_, _, _, _, _, _, _])
           have hM := M.fst (l := [_, _, _, _]) hM
           exact ⟨hE.sub ⟨rfl, rfl, rfl, rfl, rfl, rfl, trivial⟩, hM⟩
        ·skip
         rintro a w ⟨hE, hM⟩
         refine Zt hE rfl ?_ ?_
         ·intro hb86
          have hF78 := Zz hF78 hb86
          refine Zc (Ze hE Za (dl rfl) rfl ?_); intro a hE
          refine Zf ?_
          have hr := Option.some.inj hF78
          subst hr
          have hM := M.fst (l := []) hM
          exact wp_ret (ZL (Zy hE rfl (Zu hE rfl) ⟨_, rfl, rfl, hM.kept⟩))
         ·intro hb86
          have hF78 := ZA hF78 hb86
          refine wp_skip (Zx (Zc (Ze hE Za (dl rfl) rfl ?_))); intro a hE
          refine Zf (Zc (Zd hE Za (dl rfl) rfl ?_)); intro a hE
          refine Zd hE Za (dl rfl) rfl ?_; intro a hE
          have hM := hM.pull (pre := [_, _, _])
          have hM := hM.toOwn noB
          obtain ⟨r87, e88, hF78⟩ := bind_some hF78
          refine Zw (vs := [u39, (vI 1)]) hE Za (dl rfl) rfl cb26 (c_laws_markByteS _ _ _ _ j36.2 u39 1 hM r87 e88) ?_
          rintro v w a ⟨rfl, hM⟩ hE
          refine Ze hE Za (dl rfl) rfl ?_; intro a hE
          refine Zf (Zc (Ze hE Za (dl rfl) rfl ?_)); intro a hE
          refine Zf (Zc (Zd hE Za (dl rfl) rfl ?_)); intro a hE
          refine Zd hE Za (dl rfl) rfl ?_; intro a hE
          obtain ⟨r89, e90, hF78⟩ := bind_some hF78
          refine Zw (vs := [u39, (vI 1)]) hE Za (dl rfl) rfl cb27 (c_laws_heldByteS _ r87.1 u39 (hM.ro (pre := []) noB) 1 r89 e90) ?_
          rintro v w a ⟨rfl, hK⟩ hE
          have hM := hM.keep hK
          refine Ze hE Za (dl rfl) rfl ?_; intro a hE
          refine Zf (wp_seq (Zc (Zd hE Za (dl rfl) rfl ?_))); intro a hE
          refine Zh hE Za (dl rfl) rfl rfl rfl ?_; intro a hE
          refine Zf ?_
          refine Zt hE rfl ?_ ?_
          ·intro hb91
           have hF78 := Zz hF78 hb91
           refine Zc (Ze hE Za (dl rfl) rfl ?_); intro a hE
           refine Zf ?_
           have hr := Option.some.inj hF78
           subst hr
           have hM := M.fst (l := []) hM
           exact wp_ret (ZL (Zy hE rfl (Zu hE rfl) ⟨_, rfl, rfl, hM.kept⟩))
          ·intro hb91
           have hF78 := ZA hF78 hb91
           refine wp_skip (Zx (wp_seq (Zc (Zd hE Za (dl rfl) rfl ?_)))); intro a hE
           refine Zd hE Za (dl rfl) rfl ?_; intro a hE
           refine Zh hE Za (dl rfl) rfl rfl rfl ?_; intro a hE
           refine Zf ?_
           refine Zt hE rfl ?_ ?_
           ·intro hb92
            have hF78 := Zz hF78 hb92
            refine Zc (Ze hE Za (dl rfl) rfl ?_); intro a hE
            refine Zf ?_
            have hr := Option.some.inj hF78
            subst hr
            have hM := M.fst (l := []) hM
            exact wp_ret (ZL (Zy hE rfl (Zu hE rfl) ⟨_, rfl, rfl, hM.kept⟩))
           ·intro hb92
            have hF78 := ZA hF78 hb92
            refine wp_skip (Zx ?_)
            obtain ⟨j93, hl94, hF95⟩ := bind_some hF78
            refine ZS (fun a w => ∃ (u96 : Value), Env 104 a [(6, u11), (7, (vI j8.2)), (9, u39), (12, (vI r87.2)), (14, u96), (15, (vI j93.2))] ∧ M (Old w0) w0 w [own NoB (r87.1 : (List UInt8)) [u39], osl NoB (j8.1 : List UInt8) u11, osl NoB (j93.1 : List UInt8) u96]) ?_ ?_
            ·skip
             obtain ⟨r99, e100, hl94⟩ := bind_some hl94
             obtain ⟨r105, e106, hl94⟩ := bind_some hl94
             obtain ⟨r107, e108, hl94⟩ := bind_some hl94
             refine Wz (n := 104) (hd := [_, _, _, _, _, _, _, _, _]) (tl := [_]) YB rfl rfl [80, 81, 82, 83, 84, 79, 85, 86, 14] (by decide) (fun D u w => M (Old w0) w0 w ([own NoB (r87.1 : (List UInt8)) [u39], raw b3 (Flat.enc p1), raw b1 (cat [[v0_1], [v0_2], [v0_3]]), osl NoB (j8.1 : List UInt8) u11] ++ qL ([mkO 1 (fun v => own NoB r99 (Value.cells v).toList), mkO 4 (fun v => osl NoB (r107.1 : List UInt8) (Z4 v 0))] : Mk) D u) ∧ GOk ([([], fun us v => v = (Value.agg (cat [[v0_1], [v0_2], [v0_3]]).toArray)), ([], fun us v => ∃ cs, v = .agg cs), ([], fun us v => v = (Value.agg (Flat.enc p1).toArray)), ([], fun us v => v = (Value.agg (Flat.enc r105).toArray)), ([], fun us v => v = (Value.tuple [(Z4 v 0), (vI r107.2)].toArray)), ([4], fun us v => v = (Value.tuple [(Z4 (us.getD 0 undef) 0), (vI r107.2)].toArray)), ([4], fun us v => v = (Z4 (us.getD 0 undef) 0)), ([], fun us v => v = (vI r107.2)), ([4], fun us v => v = (Z4 (us.getD 0 undef) 0))] : Gs) D u) hE (fun u => ⟨M.qE (M.qE (M.q0 hM.drew u) emO) emO, gok0⟩) (ZH (Zb ?_ (Zb ?_ (Zb ?_ (Zb ?_ (Zb ?_ (Zb ?_ (Zb ?_ (Zb ?_ (Zb ?_ ZD)))))))))) ?_
             ·intro a w ux98 D hE hI hD hdc hp
              have hM0 := hI.1
              have hM := hI.1
              refine Zp (cs := cat [[v0_1], [v0_2], [v0_3]]) hE Za (dl rfl) rfl ty48 rfl (hM.rawAt (pre := [_, _])) (ZR (cl1 (n := 1) (m := 2) rfl (cl1 (n := 1) (m := 1) rfl (cl1 (n := 1) (m := 0) rfl cl0)))) ?_; intro a hE
              exact ⟨_, _, rfl, hE, M.qKeep hM0 rfl, hI.2.put hD rfl ZF rfl⟩
             ·intro a w ux98 D hE hI hD hdc hp
              have d0 : D 0 = true := hp 0 _ rfl rfl
              have g0 := hI.2 0 d0 _ rfl
              have f0 : ux98 0 = (Value.agg (cat [[v0_1], [v0_2], [v0_3]]).toArray) := g0.2
              have hM0 := hI.1
              have hM := hI.1
              refine Zw (vs := [(Value.agg (cat [[v0_1], [v0_2], [v0_3]]).toArray)]) hE Za (dl rfl) (Z0 (ZZ (lk rfl f0) Xh)) cb20 (UB _ p0 v0_1 (hM.rdo hv0_1) v0_2 (hM.rdo hv0_2) v0_3 (hM.rdo hv0_3) r99 e100) ?_
              rintro _ w a ⟨u101, u102, u103, rfl, hFr, hK⟩ hE
              have hM := hM0.add hK hFr
              have hM := hM.pull (pre := [_, _])
              have hM := hM.pull (pre := [_, _])
              have hM := hM.pull (pre := [_, _])
              have hM := hM.packL (m := [osl NoB (r99.Keys : List (Vector UInt8 32)) u101, osl NoB (r99.Data : List (List UInt8)) u102, osl NoB (r99.Counts : List Int) u103]) (it := own NoB r99 (cat [[u101], [u102], [u103]])) (Xg noB) (fun fp h => by obtain ⟨_, _, rfl, _, s1, _, _, rfl, _, s2, _, _, rfl, _, s3, rfl⟩ := h; exact pk_GBlobs (XH.sat s1) (XH.sat s2) (XH.sat s3) (by simp))
              exact ⟨_, _, rfl, hE, M.qFill (mk1 := []) (mk2 := [_]) (f := (fun v => own NoB r99 (Value.cells v).toList)) hM rfl hD, hI.2.put hD rfl ZF ⟨_, rfl⟩⟩
             ·intro a w ux98 D hE hI hD hdc hp
              have hM0 := hI.1
              have hM := hI.1
              refine Zp (cs := Flat.enc p1) hE Za (dl rfl) rfl ty24 rfl (hM.rawAt (pre := [_])) (Flat.len _) ?_; intro a hE
              exact ⟨_, _, rfl, hE, M.qKeep hM0 rfl, hI.2.put hD rfl ZF rfl⟩
             ·intro a w ux98 D hE hI hD hdc hp
              have d2 : D 2 = true := hp 0 _ rfl rfl
              have g2 := hI.2 2 d2 _ rfl
              have f2 : ux98 2 = (Value.agg (Flat.enc p1).toArray) := g2.2
              have hM0 := hI.1
              refine Zw (vs := [(Value.agg (Flat.enc p1).toArray)]) hE Za (dl rfl) (Z0 (ZZ (lk rfl f2) Xh)) cb21 (Uf _ p1 r105 e106) ?_
              rintro v w a ⟨rfl, hK⟩ hE
              exact ⟨_, _, rfl, hE, M.qKeep (hM0.keep hK) rfl, hI.2.put hD rfl ZF rfl⟩
             ·intro a w ux98 D hE hI hD hdc hp
              have d1 : D 1 = true := hp 0 _ rfl rfl
              have g1 := hI.2 1 d1 _ rfl
              have d3 : D 3 = true := hp 1 _ rfl rfl
              have g3 := hI.2 3 d3 _ rfl
              have f3 : ux98 3 = (Value.agg (Flat.enc r105).toArray) := g3.2
              have hM0 := hI.1
              have hM := hI.1
              have hM := hM.sure (pre := [_, _, _, _]) d1
              obtain ⟨q1_0_1, q1_0_2, q1_0_3, hcz, hq1_0_1, hq1_0_2, hq1_0_3⟩ := un_GBlobs (hM.ro (pre := [_, _, _, _]) noB)
              obtain ⟨cz, hvz⟩ := (hI.2 1 (by assumption) _ rfl).2
              have qK104 : (ux98 1) = (Value.agg (cat [[q1_0_1], [q1_0_2], [q1_0_3]]).toArray) := by rw [hvz] at hcz ⊢; exact congrArg Value.agg (toList_eq hcz)
              refine Zw (vs := [(Value.agg (cat [[q1_0_1], [q1_0_2], [q1_0_3]]).toArray), (Value.agg (Flat.enc r105).toArray)]) hE Za (dl rfl) (Z0 (ZZ (lk rfl qK104) (ZZ (lk rfl f3) Xh))) cb22 (c_impl_GetBlob _ r99 q1_0_1 hq1_0_1 q1_0_2 hq1_0_2 q1_0_3 hq1_0_3 r105 r107 e108) ?_
              rintro _ w a ⟨u109, rfl, hFr, hK⟩ hE
              have hM := hM0.add hK hFr
              exact ⟨_, _, rfl, hE, M.qFill (mk1 := [_]) (mk2 := []) (f := (fun v => osl NoB (r107.1 : List UInt8) (Z4 v 0))) hM rfl hD, hI.2.put hD rfl ZF rfl⟩
             ·intro a w ux98 D hE hI hD hdc hp
              have d4 : D 4 = true := hp 0 _ rfl rfl
              have g4 := hI.2 4 d4 _ rfl
              have f4 : ux98 4 = (Value.tuple [(Z4 (ux98 4) 0), (vI r107.2)].toArray) := g4.2
              have hM0 := hI.1
              refine Zd hE Za (dl rfl) (lk rfl f4) ?_; intro a hE
              exact ⟨_, _, rfl, hE, M.qKeep hM0 rfl, hI.2.put hD rfl (allC d4 ZF) rfl⟩
             ·intro a w ux98 D hE hI hD hdc hp
              have d5 : D 5 = true := hp 0 _ rfl rfl
              have g5 := hI.2 5 d5 _ rfl
              have d4 : D 4 = true := g5.1 4 (show 4 ∈ [4] by decide)
              have f5 : ux98 5 = (Value.tuple [(Z4 (ux98 4) 0), (vI r107.2)].toArray) := g5.2
              have hM0 := hI.1
              refine XC hE Za (dl rfl) (lk rfl f5) rfl ?_; intro a hE
              exact ⟨_, _, rfl, hE, M.qKeep hM0 rfl, hI.2.put hD rfl (allC d4 ZF) rfl⟩
             ·intro a w ux98 D hE hI hD hdc hp
              have d5 : D 5 = true := hp 0 _ rfl rfl
              have g5 := hI.2 5 d5 _ rfl
              have d4 : D 4 = true := g5.1 4 (show 4 ∈ [4] by decide)
              have f5 : ux98 5 = (Value.tuple [(Z4 (ux98 4) 0), (vI r107.2)].toArray) := g5.2
              have hM0 := hI.1
              refine XC hE Za (dl rfl) (lk rfl f5) rfl ?_; intro a hE
              exact ⟨_, _, rfl, hE, M.qKeep hM0 rfl, hI.2.put hD rfl ZF rfl⟩
             ·intro a w ux98 D hE hI hD hdc hp
              have d6 : D 6 = true := hp 0 _ rfl rfl
              have g6 := hI.2 6 d6 _ rfl
              have d4 : D 4 = true := g6.1 4 (show 4 ∈ [4] by decide)
              have f6 : ux98 6 = (Z4 (ux98 4) 0) := g6.2
              have hM0 := hI.1
              refine Ze hE Za (dl rfl) (lk rfl f6) ?_; intro a hE
              exact ⟨_, _, rfl, hE, M.qKeep hM0 rfl, hI.2.put hD rfl (allC d4 ZF) rfl⟩
             ·intro a w ux98 D hE hI hall
              have hM := hI.1
              have d0 : D 0 = true := hall 0 (by decide)
              have d1 : D 1 = true := hall 1 (by decide)
              have d2 : D 2 = true := hall 2 (by decide)
              have d3 : D 3 = true := hall 3 (by decide)
              have d4 : D 4 = true := hall 4 (by decide)
              have d5 : D 5 = true := hall 5 (by decide)
              have d6 : D 6 = true := hall 6 (by decide)
              have d7 : D 7 = true := hall 7 (by decide)
              have d8 : D 8 = true := hall 8 (by decide)
              have f0 : ux98 0 = (Value.agg (cat [[v0_1], [v0_2], [v0_3]]).toArray) := (hI.2 0 d0 _ rfl).2
              have f2 : ux98 2 = (Value.agg (Flat.enc p1).toArray) := (hI.2 2 d2 _ rfl).2
              have f3 : ux98 3 = (Value.agg (Flat.enc r105).toArray) := (hI.2 3 d3 _ rfl).2
              have f4 : ux98 4 = (Value.tuple [(Z4 (ux98 4) 0), (vI r107.2)].toArray) := (hI.2 4 d4 _ rfl).2
              have f5 : ux98 5 = (Value.tuple [(Z4 (ux98 4) 0), (vI r107.2)].toArray) := (hI.2 5 d5 _ rfl).2
              have f6 : ux98 6 = (Z4 (ux98 4) 0) := (hI.2 6 d6 _ rfl).2
              have f7 : ux98 7 = (vI r107.2) := (hI.2 7 d7 _ rfl).2
              have f8 : ux98 8 = (Z4 (ux98 4) 0) := (hI.2 8 d8 _ rfl).2
              have hM := hM.sure (pre := [_, _, _, _]) d1
              have hM := hM.sure (pre := [_, _, _, _, _]) d4
              obtain ⟨q1_0_1, q1_0_2, q1_0_3, hcz, _, _, _⟩ := un_GBlobs (hM.ro (pre := [_, _, _, _]) noB)
              obtain ⟨cz, hvz⟩ := (hI.2 1 d1 _ rfl).2
              have qK104 : (ux98 1) = (Value.agg (cat [[q1_0_1], [q1_0_2], [q1_0_3]]).toArray) := by rw [hvz] at hcz ⊢; exact congrArg Value.agg (toList_eq hcz)
              have hM := hM.pull (pre := [_, _, _, _])
              rw [qK104] at hM
              have hM := hM.unpackL (m := [own NoB (r99.Keys : (List (Vector UInt8 32))) [q1_0_1], own NoB (r99.Data : (List (List UInt8))) [q1_0_2], own NoB (r99.Counts : (List Int)) [q1_0_3]]) (fun fp h => by obtain ⟨_, _, _, rfl, s1, s2, s3⟩ := unc_GBlobs h; exact (Xa.cons (Xg noB) s1 (Xa.cons (Xg noB) s2 (Xa.one (Xg noB) s3))))
              simp only [List.cons_append, List.nil_append] at hM
              have hE := hE.sub (e' := [(80, (Value.agg (cat [[v0_1], [v0_2], [v0_3]]).toArray)), (81, (Value.agg (cat [[q1_0_1], [q1_0_2], [q1_0_3]]).toArray)), (82, (Value.agg (Flat.enc p1).toArray)), (83, (Value.agg (Flat.enc r105).toArray)), (85, (Z4 (ux98 4) 0)), (86, (vI r107.2)), (14, (Z4 (ux98 4) 0)), (2, (ptr b1 0)), (3, (ptr b3 0)), (6, u11), (7, (vI j8.2)), (9, u39), (12, (vI r87.2)), (13, (vI r89)), (67, (vT j76)), (68, u39), (69, (vI 1)), (70, (vI r87.2)), (71, u39), (72, (vI 1)), (73, (vI r89)), (74, (vI r89)), (75, (vT (decide (r89 < 0)))), (76, (vI r89)), (77, (vI r87.2)), (78, (vT (r89 != r87.2)))]) ⟨lk rfl f0, lk rfl qK104, lk rfl f2, lk rfl f3, lk rfl f6, lk rfl f7, lk rfl f8, rfl, rfl, rfl, rfl, rfl, rfl, rfl, rfl, rfl, rfl, rfl, rfl, rfl, rfl, rfl, rfl, rfl, rfl, rfl, trivial⟩
              refine Ze hE Za (dl rfl) rfl ?_; intro a hE
              refine Zj ?_
              have ht113 := Option.some.inj hl94
              subst ht113
              refine Zl ?_
              have hM := hM.pull (pre := [_, _, _, _, _, _, _])
              have hM := hM.pull (pre := [_, _, _, _, _, _, _])
              have hM := hM.pull (pre := [_, _, _, _, _])
              have hM := M.fst (l := [_, _, _]) hM
              exact ⟨(Z4 (ux98 4) 0), hE.sub ⟨rfl, rfl, rfl, rfl, rfl, rfl, trivial⟩, hM⟩
            ·skip
             rintro a w ⟨u96, hE, hM⟩
             refine wp_seq ?_
             obtain ⟨j114, hl115, hF116⟩ := bind_some hF95
             refine ZS (fun a w => Env 104 a [(9, u39), (12, (vI r87.2)), (95, (vT j114))] ∧ M (Old w0) w0 w [own NoB (r87.1 : (List UInt8)) [u39]]) ?_ ?_
             ·skip
              refine wp_region_lit (Zd hE Za (dl rfl) rfl ?_); intro a hE
              refine Zd hE Za (dl rfl) rfl ?_; intro a hE
              obtain ⟨r117, e118, hl115⟩ := bind_some hl115
              refine Zw (vs := [u96, u11]) hE Za (dl rfl) rfl cb23 (UH _ j93.1 u96 (hM.sl (pre := [_, _]) noB) j8.1 u11 (hM.sl (pre := [_]) noB) r117 e118) ?_
              rintro v w a ⟨rfl, hK⟩ hE
              have hM := hM.keep hK
              refine Un hE Za (dl rfl) rfl ?_; intro a hE
              refine Zd hE Za (dl rfl) rfl ?_; intro a hE
              refine WV (!r117) (fun hb119 => ?_) (fun hb119 => ?_)
              ·have hl115 := Zz hl115 hb119
               refine Zn hE rfl (lkb rfl hb119) rfl (by decide) ?_; intro a hE
               refine Zn hE rfl (lkb rfl hb119) rfl (by decide) ?_; intro a hE
               refine Zn hE rfl (lkb rfl hb119) rfl (by decide) ?_; intro a hE
               refine Yn hE Za (dl rfl) (lkb rfl hb119) rfl ?_; intro a hE
               refine Zj ?_
               have ht120 := Option.some.inj hl115
               subst ht120
               refine Zl ?_
               have hM := M.fst (l := [_]) hM
               exact ⟨hE.sub ⟨rfl, rfl, rfl, trivial⟩, hM⟩
              ·have hl115 := ZA hl115 hb119
               refine Zd hE (Zk hE rfl (lkb rfl hb119)) (by decide) rfl ?_; intro a hE
               refine Zd hE (Zk hE rfl (lkb rfl hb119)) (by decide) rfl ?_; intro a hE
               refine Zh hE (Zk hE rfl (lkb rfl hb119)) (by decide) rfl rfl rfl ?_; intro a hE
               refine YQ hE Za (dl rfl) (lkb rfl hb119) rfl ?_; intro a hE
               refine Zj ?_
               have ht121 := Option.some.inj hl115
               subst ht121
               refine Zl ?_
               have hM := M.fst (l := [_]) hM
               exact ⟨hE.sub ⟨rfl, rfl, rfl, trivial⟩, hM⟩
             ·skip
              rintro a w ⟨hE, hM⟩
              refine Zt hE rfl ?_ ?_
              ·intro hb122
               have hF116 := Zz hF116 hb122
               refine Zc (Ze hE Za (dl rfl) rfl ?_); intro a hE
               refine Zf ?_
               have hr := Option.some.inj hF116
               subst hr
               have hM := M.fst (l := []) hM
               exact wp_ret (ZL (Zy hE rfl (Zu hE rfl) ⟨_, rfl, rfl, hM.kept⟩))
              ·intro hb122
               have hF116 := ZA hF116 hb122
               refine wp_skip (Zx (Zc (Ze hE Za (dl rfl) rfl ?_))); intro a hE
               refine Zf (Zc (Zd hE Za (dl rfl) rfl ?_)); intro a hE
               refine Zd hE Za (dl rfl) rfl ?_; intro a hE
               obtain ⟨r123, e124, hF116⟩ := bind_some hF116
               refine Zw (vs := [u39, (vI 1)]) hE Za (dl rfl) rfl cb27 (c_laws_heldByteS _ r87.1 u39 (hM.ro (pre := []) noB) 1 r123 e124) ?_
               rintro v w a ⟨rfl, hK⟩ hE
               have hM := hM.keep hK
               refine Ze hE Za (dl rfl) rfl ?_; intro a hE
               refine Zf (wp_seq (Zc (Zd hE Za (dl rfl) rfl ?_))); intro a hE
               refine Zh hE Za (dl rfl) rfl rfl rfl ?_; intro a hE
               refine Zf ?_
               refine Zt hE rfl ?_ ?_
               ·intro hb125
                have hF116 := Zz hF116 hb125
                refine Zc (Ze hE Za (dl rfl) rfl ?_); intro a hE
                refine Zf ?_
                have hr := Option.some.inj hF116
                subst hr
                have hM := M.fst (l := []) hM
                exact wp_ret (ZL (Zy hE rfl (Zu hE rfl) ⟨_, rfl, rfl, hM.kept⟩))
               ·intro hb125
                have hF116 := ZA hF116 hb125
                refine wp_skip (Zx (wp_seq (Zc (Zd hE Za (dl rfl) rfl ?_)))); intro a hE
                refine Zd hE Za (dl rfl) rfl ?_; intro a hE
                refine Zh hE Za (dl rfl) rfl rfl rfl ?_; intro a hE
                refine Zf ?_
                refine Zt hE rfl ?_ ?_
                ·intro hb126
                 have hF116 := Zz hF116 hb126
                 refine Zc (Ze hE Za (dl rfl) rfl ?_); intro a hE
                 refine Zf ?_
                 have hr := Option.some.inj hF116
                 subst hr
                 have hM := M.fst (l := []) hM
                 exact wp_ret (ZL (Zy hE rfl (Zu hE rfl) ⟨_, rfl, rfl, hM.kept⟩))
                ·intro hb126
                 have hF116 := ZA hF116 hb126
                 refine wp_skip (Zx (Zc (Ze hE Za (dl rfl) rfl ?_))); intro a hE
                 refine Zf ?_
                 have hr := Option.some.inj hF116
                 subst hr
                 have hM := M.fst (l := []) hM
                 exact wp_ret (Zy hE rfl (Zu hE rfl) ⟨_, rfl, rfl, hM.kept⟩)
end Go.Proofs.Ytifdeoikcebbjaa
