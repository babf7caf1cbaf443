/- The walk of what the law reaches: contracts of functions. -/
import Derived.Test.YtifdeoikcebbjaaGreatC3
set_option linter.unusedVariables false
set_option linter.unusedSimpArgs false
set_option maxRecDepth 20000
set_option maxHeartbeats 400000
namespace Go.Proofs.YtifdeoikcebbjaaGreat
open Go
open Flat (enc)
theorem Qt (w0 : World) (p0 : (Ref Gengine)) (v0_1 : Value) (hv0_1 : Ro w0 p0 [v0_1]) (p1 : (Vector UInt8 16)) (p2 : (List (List UInt8))) (v2_1 : Value) (hv2_1 : Ro w0 p2 [v2_1]) (r : (Vector UInt8 32)) (hF : X8 p0 p1 p2 = some r) :
  Calls Tryz.prog 140 [v0_1, (Value.agg (enc p1).toArray), v2_1].toArray w0 (fun en w' => ∃ v, en = .returned v ∧ (v = (Value.agg (enc r).toArray) ∧ Kept (Old w0) w0 w')) := by
 refine ZD (n := 21) Tryz.func140 rfl rfl (Nat.le_of_ble_eq_true rfl) rfl ?_
 intro a hE
 have hM := M.start w0
 unfold X8 at hF
 refine Zc (ZX (cs := enc p1) hE hM Za ld rfl rfl fun b1 w a hM hE => ZI hE hM Za ld Yu fun b3 w a hM hE => Zf (Zc (Zd hE Za ld rfl fun a hE => Zm (cs := enc p1) hE Za ld rfl ZH rfl (hM.rawAt (pre := [_])) (Flat.len _) ?_))); intro a hE
 obtain ⟨r5, e6, hF⟩ := bind_some hF
 refine Zs hE Za ld rfl ki (TL _ p1 90 r5 e6) ?_
 rintro u7 w a ⟨_, rfl, hFr, hK⟩ hE
 have hM := hM.add hK hFr
 refine Zd hE Za ld rfl ?_; intro a hE
 obtain ⟨r8, e9, hF⟩ := bind_some hF
 refine Zs hE Za ld rfl jX (WQ _ p2 v2_1 (hM.rdo hv2_1) r8 e9) ?_
 rintro u10 w a ⟨_, rfl, hFr, hK⟩ hE
 have hM := hM.add hK hFr
 refine Qj (xs := [.tmp 10, .tmp 12]) (vs := [u7, u10]) hE hM Za ld rfl rfl Tryz.underlying42 Ua (by decide) (Uy (Xb (hM.sl (pre := [_]) noB)) (Uy (Xb (hM.sl (pre := []) noB)) Bn)) ?_; intro b11 w a hM hE
 obtain ⟨r13, e14, hF⟩ := bind_some hF
 refine Zs hE Za ld rfl cb99 (T1 _ p0 v0_1 (hM.rdo hv0_1) ([r5, r8] : (List (List UInt8))) (Value.slice (some ⟨b11, 0, none⟩) 2 2) (BD (hM.rawAt (pre := [])) (hM.rawLt (pre := [])) ⟨(hM.sl (pre := [_, _]) noB), (hM.sl (pre := [_]) noB), trivial⟩ rfl) r13 e14) ?_
 rintro v w a ⟨rfl, hK⟩ hE
 have hM := hM.keep hK
 refine ZI hE hM Za ld Yu fun b15 w a hM hE => Zt (seg := enc r13) (cs' := enc r13) hE hM Za rfl rfl rfl Yu (Flat.len _) (zle flq) (Flat.cell _) (Zo flq) fun w a hM hE => Zf ?_
 obtain ⟨j17, hl18, hF19⟩ := bind_some hF
 refine ZU (fun a w => Env 21 a [(6, (ptr b3 0))] ∧ M (Old w0) w0 w [raw b3 (enc j17)]) ?_ ?_
 ·skip
  obtain ⟨r21, e22, hl18⟩ := bind_some hl18
  obtain ⟨l24, e25, hl18⟩ := bind_some hl18
  have hb26 := TY e25 -- ^
  refine VX (n := 21) (hd := [_, _, _, _, _]) (tl := [_, _]) YN rfl rfl [15, 16, 17, 18, 19] (by decide) (fun D u w => M (Old w0) w0 w ([raw b15 (enc r13), raw b11 [u7, u10], osl NoB (r8 : List UInt8) u10, osl NoB (r5 : List UInt8) u7, raw b3 (enc (Vector.replicate 32 (0 : UInt8))), raw b1 (enc p1)] ++ qL ([mkO 2 (fun v => osl NoB (r21 : List UInt8) v), mkL 4 [2] 2 (fun us => [(us.getD 0 undef), (ZT (.slice (some ⟨b15, 0, none⟩) 32 32) ((0 : Int)).toNat ((32 : Int)).toNat 1)])] : Mk) D u) ∧ GOk ([([], fun us v => v = v0_1), ([], fun us v => v = (Value.agg (enc p1).toArray)), ([], fun us v => True), ([], fun us v => v = (ZT (.slice (some ⟨b15, 0, none⟩) 32 32) ((0 : Int)).toNat ((32 : Int)).toNat 1)), ([2], fun us v => True)] : Gs) D u) hE (fun u => ⟨M.qE (M.qE (M.q0 hM.drew u) emL) emO, Jj⟩) (ZL (Zb ?_ (Zb ?_ (Zb ?_ (Zb ?_ (Zb ?_ ZF)))))) ?_
  ·intro a w ux20 D hE hI hD hdc hp
   have hM0 := hI.1
   exact Zd hE Za ld rfl fun a hE => ⟨_, _, rfl, hE, M.qKeep hM0 rfl, hI.2.put hD rfl ZP rfl⟩
  ·intro a w ux20 D hE hI hD hdc hp
   have hM0 := hI.1
   have hM := hI.1
   exact Zm (cs := enc p1) hE Za ld rfl ZH rfl (hM.rawAt (pre := [_, _, _, _, _])) (Flat.len _) fun a hE => ⟨_, _, rfl, hE, M.qKeep hM0 rfl, hI.2.put hD rfl ZP rfl⟩
  ·intro a w ux20 D hE hI hD hdc hp
   have d1 : D 1 = true := hp 0 _ rfl rfl
   have g1 := hI.2 1 d1 _ rfl
   have f1 : ux20 1 = (Value.agg (enc p1).toArray) := g1.2
   have hsL : D 4 = false := Bool.eq_false_iff.2 fun hx => Bool.noConfusion (hD.symm.trans (hdc 4 _ _ rfl (List.mem_of_getElem? (i := 0) rfl) rfl hx))
   have hM0 := hI.1
   have hM := hI.1
   refine Zs hE Za ld (ZY (ZS (lk rfl f1) (ZS rfl YT))) ki (TL _ p1 165 r21 e22) ?_
   rintro _ w a ⟨_, rfl, hFr, hK⟩ hE
   have hM := hM0.add hK hFr
   have hM := M.litOff (its := _ :: [raw b15 (enc r13), raw b11 [u7, u10], osl NoB (r8 : List UInt8) u10, osl NoB (r5 : List UInt8) u7, raw b3 (enc (Vector.replicate 32 (0 : UInt8))), raw b1 (enc p1)]) (mk := ([mkO 2 (fun v => osl NoB (r21 : List UInt8) v)] : Mk)) (i := 4) (ds := [2]) (m := 2) (f := (fun us => [(us.getD 0 undef), (ZT (.slice (some ⟨b15, 0, none⟩) 32 32) ((0 : Int)).toNat ((32 : Int)).toNat 1)])) hM hsL
   exact ⟨_, _, rfl, hE, (M.litOn (its := [raw b15 (enc r13), raw b11 [u7, u10], osl NoB (r8 : List UInt8) u10, osl NoB (r5 : List UInt8) u7, raw b3 (enc (Vector.replicate 32 (0 : UInt8))), raw b1 (enc p1)]) (mk := ([mkO 2 (fun v => osl NoB (r21 : List UInt8) v)] : Mk)) (i := 4) (ds := [2]) (m := 2) (f := (fun us => [(us.getD 0 undef), (ZT (.slice (some ⟨b15, 0, none⟩) 32 32) ((0 : Int)).toNat ((32 : Int)).toNat 1)])) (M.qFill (its := [raw b15 (enc r13), raw b11 [u7, u10], osl NoB (r8 : List UInt8) u10, osl NoB (r5 : List UInt8) u7, raw b3 (enc (Vector.replicate 32 (0 : UInt8))), raw b1 (enc p1)]) (mk1 := []) (mk2 := []) (f := (fun v => osl NoB (r21 : List UInt8) v)) hM rfl hD) hsL (by decide)), hI.2.put hD rfl ZP trivial⟩
  ·intro a w ux20 D hE hI hD hdc hp
   have hM0 := hI.1
   exact Vm (N := 32) hE Za ld rfl rfl rfl rfl rfl Tryz.underlying29 ty5 hb26 fun a hE => ⟨_, _, rfl, hE, M.qKeep hM0 rfl, hI.2.put hD rfl ZP rfl⟩
  ·intro a w ux20 D hE hI hD hdc hp
   have d2 : D 2 = true := hp 0 _ rfl rfl
   have g2 := hI.2 2 d2 _ rfl
   have d3 : D 3 = true := hp 1 _ rfl rfl
   have g3 := hI.2 3 d3 _ rfl
   have f3 : ux20 3 = (ZT (.slice (some ⟨b15, 0, none⟩) 32 32) ((0 : Int)).toNat ((32 : Int)).toNat 1) := g3.2
   have hM0 := hI.1
   have hM := hI.1
   have hM := hM.sure (pre := [_, _, _, _, _, _]) d2
   refine Qj (xs := [.tmp 17, .tmp 18]) (vs := [(ux20 2), (ZT (.slice (some ⟨b15, 0, none⟩) 32 32) ((0 : Int)).toNat ((32 : Int)).toNat 1)]) hE hM Za ld (ZY (ZS rfl (ZS (lk rfl f3) YT))) rfl Tryz.underlying42 Ua (by decide) (Uy (Xb (hM.sl (pre := [_, _, _, _, _, _]) noB)) (Uy (Xb (Xs (At.sat (hM.rawAt (pre := [])) (by simp) (by decide)) e25)) Bn)) ?_; intro b27 w a hM hE
   have hM := hM.unsure (pre := [_, _, _, _, _, _, _]) d2
   exact ⟨_, _, rfl, hE, M.litFill (its := [raw b15 (enc r13), raw b11 [u7, u10], osl NoB (r8 : List UInt8) u10, osl NoB (r5 : List UInt8) u7, raw b3 (enc (Vector.replicate 32 (0 : UInt8))), raw b1 (enc p1)]) (mk := ([mkO 2 (fun v => osl NoB (r21 : List UInt8) v)] : Mk)) (i := 4) (ds := [2]) (m := 2) (f := (fun us => [(us.getD 0 undef), (ZT (.slice (some ⟨b15, 0, none⟩) 32 32) ((0 : Int)).toNat ((32 : Int)).toNat 1)])) hM rfl hD (by decide), hI.2.put hD rfl (yu d2 ZP) trivial⟩
  ·intro a w ux20 D hE hI hall
   have hM := hI.1
   have d0 : D 0 = true := hall 0 (by decide)
   have d1 : D 1 = true := hall 1 (by decide)
   have d2 : D 2 = true := hall 2 (by decide)
   have d3 : D 3 = true := hall 3 (by decide)
   have d4 : D 4 = true := hall 4 (by decide)
   have f0 : ux20 0 = v0_1 := (hI.2 0 d0 _ rfl).2
   have f1 : ux20 1 = (Value.agg (enc p1).toArray) := (hI.2 1 d1 _ rfl).2
   have f3 : ux20 3 = (ZT (.slice (some ⟨b15, 0, none⟩) 32 32) ((0 : Int)).toNat ((32 : Int)).toNat 1) := (hI.2 3 d3 _ rfl).2
   have hM := hM.sure (pre := [_, _, _, _, _, _]) d2
   have hM := (hM.sure (pre := [_, _, _, _, _, _, _]) d4).pull
   obtain ⟨b29, f30, hM⟩ := M.litOpen hM
   have hE := hE.sub (e' := [(15, v0_1), (17, (ux20 2)), (19, (Value.slice (some ⟨b29, 0, none⟩) 2 2)), (0, v0_1), (1, (Value.agg (enc p1).toArray)), (2, v2_1), (4, (ptr b1 0)), (6, (ptr b3 0)), (7, (ptr b15 0)), (8, v0_1), (9, (Value.agg (enc p1).toArray)), (10, u7), (11, v2_1), (12, u10), (13, (Value.slice (some ⟨b11, 0, none⟩) 2 2)), (14, (Value.agg (enc r13).toArray))]) ⟨lk rfl f0, rfl, lk rfl f30, rfl, rfl, rfl, rfl, rfl, rfl, rfl, rfl, rfl, rfl, rfl, rfl, rfl, trivial⟩
   obtain ⟨r31, e32, hl18⟩ := bind_some hl18
   refine Zs hE Za ld rfl cb99 (T1 _ p0 v0_1 (hM.rdo hv0_1) ([r21, l24] : (List (List UInt8))) (Value.slice (some ⟨b29, 0, none⟩) 2 2) (BD (hM.rawAt (pre := [])) (hM.rawLt (pre := [])) ⟨(hM.sl (pre := [_, _, _, _, _, _, _]) noB), (Xs (At.sat (hM.rawAt (pre := [_])) (by simp) (by decide)) e25), trivial⟩ rfl) r31 e32) ?_
   rintro v w a ⟨rfl, hK⟩ hE
   have hM := hM.keep hK
   have hM := hM.pull (pre := [_, _, _, _, _])
   refine Zt (seg := enc r31) (cs' := enc r31) hE hM Za rfl rfl rfl Yu (Flat.len _) (zle flq) (Flat.cell _) (Zo flq) fun w a hM hE => Zi ?_
   have ht33 := Option.some.inj hl18
   subst ht33
   refine Zl ?_
   have hM := M.fst (l := [_]) hM
   exact ⟨hE.sub ⟨rfl, trivial⟩, hM⟩
 ·skip
  rintro a w ⟨hE, hM⟩
  have hr := Option.some.inj hF19
  subst hr
  have hq34 : YB Tryz.prog _ _ (.cell 6 29) _ := ZZ hE rfl Yu rfl (hM.rawAt (pre := [])) (Flat.len _) rfl
  have hM := M.fst (l := []) hM
  exact wp_ret (Zy hE rfl hq34 ⟨_, rfl, rfl, hM.kept⟩)
noncomputable def Wf (p0 : (Ref Gengine)) (p1 : GVault) (p2 : GRecord) : Option ((Vector UInt8 32)) :=
 (idx p1.Keys p2.Version).bind fun x7 => (Xc x7 129).bind fun r10 => (TP 16 r10).bind fun x13 => ((Y2 p2.Number 4).bind fun r21 => (slc p2.Nonce.toList (0 : Int) (16 : Int)).bind fun l26 => (X8 p0 x13 ([r21, ([Zr p2.Version] : List UInt8), l26, ([Zr (p2.Label.length : Int)] : List UInt8), p2.Label, p2.Body] : (List (List UInt8)))).bind fun r35 => some r35 : Option ((Vector UInt8 32))).bind fun j17 => some j17
theorem KM (w0 : World) (p0 : (Ref Gengine)) (v0_1 : Value) (hv0_1 : Ro w0 p0 [v0_1]) (p1 : GVault) (v1_1 : Value) (hv1_1 : Ro w0 p1.Keys [v1_1]) (v1_2 : Value) (hv1_2 : Ro w0 p1.Records [v1_2]) (v1_3 : Value) (hv1_3 : Ro w0 p1.Events [v1_3]) (p2 : GRecord) (v2_1 : Value) (hv2_1 : Ro w0 p2.Label [v2_1]) (v2_2 : Value) (hv2_2 : Ro w0 p2.Body [v2_2]) (r : (Vector UInt8 32)) (hF : Wf p0 p1 p2 = some r) :
  Calls Tryz.prog 61 [v0_1, (Value.agg (cat [[v1_1], [vI p1.Next], [v1_2], [v1_3], enc p1.Head]).toArray), (Value.agg (cat [[vI p2.Number], [vI p2.Version], enc p2.Nonce, [v2_1], [v2_2], enc p2.Tag]).toArray)].toArray w0 (fun en w' => ∃ v, en = .returned v ∧ (v = (Value.agg (enc r).toArray) ∧ Kept (Old w0) w0 w')) := by
 refine ZD (n := 39) Tryz.func61 rfl rfl (Nat.le_of_ble_eq_true rfl) rfl ?_
 intro a hE
 have hM := M.start w0
 unfold Wf at hF
 refine Zc (ZX (cs := cat [[v1_1], [vI p1.Next], [v1_2], [v1_3], enc p1.Head]) hE hM Za ld rfl rfl fun b1 w a hM hE => ZX (cs := cat [[vI p2.Number], [vI p2.Version], enc p2.Nonce, [v2_1], [v2_2], enc p2.Tag]) hE hM Za ld rfl rfl fun b3 w a hM hE => ZI hE hM Za ld Yu fun b5 w a hM hE => Zf (Zc (Zg hE Za ld rfl (Tu) fun a hE => Zq (v := v1_1) hE Za ld rfl KN rfl (At.cat (pre := []) (hM.rawAt (pre := [_, _])) cl0) fun a hE => Zg hE Za ld rfl (TO) fun a hE => Zq (v := (vI p2.Version)) hE Za ld rfl ty2 rfl (At.cat (pre := [[vI p2.Number]]) (hM.rawAt (pre := [_])) (cl1 (n := 1) (m := 0) rfl cl0)) ?_))); intro a hE
 obtain ⟨x7, e8, hF⟩ := bind_some hF
 have hi9 := ZO e8
 refine ZN hE Za ld rfl rfl Tryz.underlying32 ZH (hM.rd hv1_1) hi9.1 fun a hE => Zm (cs := enc x7) hE Za ld rfl ZH rfl (Xa (hM.rd hv1_1) hi9.2) (Flat.len _) ?_; intro a hE
 obtain ⟨r10, e11, hF⟩ := bind_some hF
 refine Zs hE Za ld rfl ki (TL _ x7 129 r10 e11) ?_
 rintro u12 w a ⟨_, rfl, hFr, hK⟩ hE
 have hM := hM.add hK hFr
 obtain ⟨x13, e14, hF⟩ := bind_some hF
 refine JP hE Za ld rfl Tryz.underlying70 (hM.sl (pre := []) noB) (TT e14).1 (by decide) fun a hE => Zm (cs := enc x13) hE Za ld rfl ZH rfl (Bq (hM.sl (pre := []) noB) e14 (by decide)) (Flat.len _) fun a hE => ZI hE hM Za ld ZH fun b15 w a hM hE => Zt (seg := enc x13) (cs' := enc x13) hE hM Za rfl rfl rfl ZH (Flat.len _) (zle flq) (Flat.cell _) (Zo flq) fun w a hM hE => Zf ?_
 obtain ⟨j17, hl18, hF19⟩ := bind_some hF
 refine ZU (fun a w => Env 39 a [(6, (ptr b5 0))] ∧ M (Old w0) w0 w [raw b5 (enc j17)]) ?_ ?_
 ·skip
  obtain ⟨r21, e22, hl18⟩ := bind_some hl18
  obtain ⟨l26, e27, hl18⟩ := bind_some hl18
  have hb28 := TY e27 -- ^
  refine VX (n := 39) (hd := [_, _, _, _, _, _, _, _, _, _, _, _, _, _, _, _, _, _, _, _, _]) (tl := [_, _]) YN rfl rfl [17, 18, 19, 20, 21, 22, 23, 24, 25, 26, 27, 28, 29, 30, 31, 32, 33, 34, 35, 36, 37] (by decide) (fun D u w => M (Old w0) w0 w ([raw b15 (enc x13), osl NoB (r10 : List UInt8) u12, raw b5 (enc (Vector.replicate 32 (0 : UInt8))), raw b3 (cat [[vI p2.Number], [vI p2.Version], enc p2.Nonce, [v2_1], [v2_2], enc p2.Tag]), raw b1 (cat [[v1_1], [vI p1.Next], [v1_2], [v1_3], enc p1.Head])] ++ qL ([mkO 4 (fun v => osl NoB (r21 : List UInt8) v), mkO 8 (fun v => osl NoB (([Zr p2.Version] : List UInt8) : List UInt8) v), mkO 15 (fun v => osl NoB (([Zr (p2.Label.length : Int)] : List UInt8) : List UInt8) v), mkL 20 [4, 8, 15] 6 (fun us => [(us.getD 0 undef), (us.getD 1 undef), (ZT (.slice (some ⟨b3, 0 + 2, none⟩) 16 16) ((0 : Int)).toNat ((16 : Int)).toNat 1), (us.getD 2 undef), v2_1, v2_2])] : Mk) D u) ∧ GOk ([([], fun us v => v = v0_1), ([], fun us v => v = (Value.agg (enc x13).toArray)), ([], fun us v => v = (ptr b3 (0 + 0))), ([], fun us v => v = (vI p2.Number)), ([], fun us v => True), ([], fun us v => v = (ptr b3 (0 + 1))), ([], fun us v => v = (vI p2.Version)), ([], fun us v => v = (vB (Zr p2.Version))), ([], fun us v => True), ([], fun us v => v = (ptr b3 (0 + 2))), ([], fun us v => v = (ZT (.slice (some ⟨b3, 0 + 2, none⟩) 16 16) ((0 : Int)).toNat ((16 : Int)).toNat 1)), ([], fun us v => v = (ptr b3 (0 + 18))), ([], fun us v => v = v2_1), ([], fun us v => v = (vI (p2.Label.length : Int))), ([], fun us v => v = (vB (Zr (p2.Label.length : Int)))), ([], fun us v => True), ([], fun us v => v = (ptr b3 (0 + 18))), ([], fun us v => v = v2_1), ([], fun us v => v = (ptr b3 (0 + 19))), ([], fun us v => v = v2_2), ([4, 8, 15], fun us v => True)] : Gs) D u) hE (fun u => ⟨M.qE (M.qE (M.qE (M.qE (M.q0 hM.drew u) emL) emO) emO) emO, Jj⟩) (ZL (Zb ?_ (Zb ?_ (Zb ?_ (Zb ?_ (Zb ?_ (Zb ?_ (Zb ?_ (Zb ?_ (Zb ?_ (Zb ?_ (Zb ?_ (Zb ?_ (Zb ?_ (Zb ?_ (Zb ?_ (Zb ?_ (Zb ?_ (Zb ?_ (Zb ?_ (Zb ?_ (Zb ?_ ZF)))))))))))))))))))))) ?_
  ·intro a w ux20 D hE hI hD hdc hp
   have hM0 := hI.1
   exact Zd hE Za ld rfl fun a hE => ⟨_, _, rfl, hE, M.qKeep hM0 rfl, hI.2.put hD rfl ZP rfl⟩
  ·intro a w ux20 D hE hI hD hdc hp
   have hM0 := hI.1
   have hM := hI.1
   exact Zm (cs := enc x13) hE Za ld rfl ZH rfl (hM.rawAt (pre := [])) (Flat.len _) fun a hE => ⟨_, _, rfl, hE, M.qKeep hM0 rfl, hI.2.put hD rfl ZP rfl⟩
  ·intro a w ux20 D hE hI hD hdc hp
   have hM0 := hI.1
   exact Zg hE Za ld rfl (Td) fun a hE => ⟨_, _, rfl, hE, M.qKeep hM0 rfl, hI.2.put hD rfl ZP rfl⟩
  ·intro a w ux20 D hE hI hD hdc hp
   have d2 : D 2 = true := hp 0 _ rfl rfl
   have g2 := hI.2 2 d2 _ rfl
   have f2 : ux20 2 = (ptr b3 (0 + 0)) := g2.2
   have hM0 := hI.1
   have hM := hI.1
   exact Zq (v := (vI p2.Number)) hE Za ld (lk rfl f2) ty2 rfl (At.cat (pre := []) (hM.rawAt (pre := [_, _, _])) cl0) fun a hE => ⟨_, _, rfl, hE, M.qKeep hM0 rfl, hI.2.put hD rfl ZP rfl⟩
  ·intro a w ux20 D hE hI hD hdc hp
   have d3 : D 3 = true := hp 0 _ rfl rfl
   have g3 := hI.2 3 d3 _ rfl
   have f3 : ux20 3 = (vI p2.Number) := g3.2
   have hsL : D 20 = false := Bool.eq_false_iff.2 fun hx => Bool.noConfusion (hD.symm.trans (hdc 20 _ _ rfl (List.mem_of_getElem? (i := 0) rfl) rfl hx))
   have hM0 := hI.1
   have hM := hI.1
   refine Zs hE Za ld (ZY (ZS (lk rfl f3) (ZS rfl YT))) cb141 (QH _ p2.Number 4 r21 e22) ?_
   rintro _ w a ⟨_, rfl, hFr, hK⟩ hE
   have hM := hM0.add hK hFr
   have hM := M.litOff (its := _ :: [raw b15 (enc x13), osl NoB (r10 : List UInt8) u12, raw b5 (enc (Vector.replicate 32 (0 : UInt8))), raw b3 (cat [[vI p2.Number], [vI p2.Version], enc p2.Nonce, [v2_1], [v2_2], enc p2.Tag]), raw b1 (cat [[v1_1], [vI p1.Next], [v1_2], [v1_3], enc p1.Head])]) (mk := ([mkO 4 (fun v => osl NoB (r21 : List UInt8) v), mkO 8 (fun v => osl NoB (([Zr p2.Version] : List UInt8) : List UInt8) v), mkO 15 (fun v => osl NoB (([Zr (p2.Label.length : Int)] : List UInt8) : List UInt8) v)] : Mk)) (i := 20) (ds := [4, 8, 15]) (m := 6) (f := (fun us => [(us.getD 0 undef), (us.getD 1 undef), (ZT (.slice (some ⟨b3, 0 + 2, none⟩) 16 16) ((0 : Int)).toNat ((16 : Int)).toNat 1), (us.getD 2 undef), v2_1, v2_2])) hM hsL
   exact ⟨_, _, rfl, hE, (M.litOn (its := [raw b15 (enc x13), osl NoB (r10 : List UInt8) u12, raw b5 (enc (Vector.replicate 32 (0 : UInt8))), raw b3 (cat [[vI p2.Number], [vI p2.Version], enc p2.Nonce, [v2_1], [v2_2], enc p2.Tag]), raw b1 (cat [[v1_1], [vI p1.Next], [v1_2], [v1_3], enc p1.Head])]) (mk := ([mkO 4 (fun v => osl NoB (r21 : List UInt8) v), mkO 8 (fun v => osl NoB (([Zr p2.Version] : List UInt8) : List UInt8) v), mkO 15 (fun v => osl NoB (([Zr (p2.Label.length : Int)] : List UInt8) : List UInt8) v)] : Mk)) (i := 20) (ds := [4, 8, 15]) (m := 6) (f := (fun us => [(us.getD 0 undef), (us.getD 1 undef), (ZT (.slice (some ⟨b3, 0 + 2, none⟩) 16 16) ((0 : Int)).toNat ((16 : Int)).toNat 1), (us.getD 2 undef), v2_1, v2_2])) (M.qFill (its := [raw b15 (enc x13), osl NoB (r10 : List UInt8) u12, raw b5 (enc (Vector.replicate 32 (0 : UInt8))), raw b3 (cat [[vI p2.Number], [vI p2.Version], enc p2.Nonce, [v2_1], [v2_2], enc p2.Tag]), raw b1 (cat [[v1_1], [vI p1.Next], [v1_2], [v1_3], enc p1.Head])]) (mk1 := []) (mk2 := [_, _]) (f := (fun v => osl NoB (r21 : List UInt8) v)) hM rfl hD) hsL (by decide)), hI.2.put hD rfl ZP trivial⟩
  ·intro a w ux20 D hE hI hD hdc hp
   have hM0 := hI.1
   exact Zg hE Za ld rfl (TO) fun a hE => ⟨_, _, rfl, hE, M.qKeep hM0 rfl, hI.2.put hD rfl ZP rfl⟩
  ·intro a w ux20 D hE hI hD hdc hp
   have d5 : D 5 = true := hp 0 _ rfl rfl
   have g5 := hI.2 5 d5 _ rfl
   have f5 : ux20 5 = (ptr b3 (0 + 1)) := g5.2
   have hM0 := hI.1
   have hM := hI.1
   exact Zq (v := (vI p2.Version)) hE Za ld (lk rfl f5) ty2 rfl (At.cat (pre := [[vI p2.Number]]) (hM.rawAt (pre := [_, _, _])) (cl1 (n := 1) (m := 0) rfl cl0)) fun a hE => ⟨_, _, rfl, hE, M.qKeep hM0 rfl, hI.2.put hD rfl ZP rfl⟩
  ·intro a w ux20 D hE hI hD hdc hp
   have d6 : D 6 = true := hp 0 _ rfl rfl
   have g6 := hI.2 6 d6 _ rfl
   have f6 : ux20 6 = (vI p2.Version) := g6.2
   have hM0 := hI.1
   refine Yj hE Za ld (lk rfl f6) Tryz.underlying2 Tryz.underlying5 ?_; intro a hE
   rw [ZW] at hE
   exact ⟨_, _, rfl, hE, M.qKeep hM0 rfl, hI.2.put hD rfl ZP rfl⟩
  ·intro a w ux20 D hE hI hD hdc hp
   have d7 : D 7 = true := hp 0 _ rfl rfl
   have g7 := hI.2 7 d7 _ rfl
   have f7 : ux20 7 = (vB (Zr p2.Version)) := g7.2
   have hsL : D 20 = false := Bool.eq_false_iff.2 fun hx => Bool.noConfusion (hD.symm.trans (hdc 20 _ _ rfl (List.mem_of_getElem? (i := 1) rfl) rfl hx))
   have hM0 := hI.1
   have hM := hI.1
   refine Z5 (xs := [.tmp 24]) (l := ([Zr p2.Version] : List UInt8)) (vs := [(vB (Zr p2.Version))]) hE hM Za ld (ZY (ZS (lk rfl f7) YT)) rfl Tryz.underlying57 ty5 rfl (by decide) rfl ?_; intro u24 w a hM hE
   have hM := M.litOff (its := _ :: [raw b15 (enc x13), osl NoB (r10 : List UInt8) u12, raw b5 (enc (Vector.replicate 32 (0 : UInt8))), raw b3 (cat [[vI p2.Number], [vI p2.Version], enc p2.Nonce, [v2_1], [v2_2], enc p2.Tag]), raw b1 (cat [[v1_1], [vI p1.Next], [v1_2], [v1_3], enc p1.Head])]) (mk := ([mkO 4 (fun v => osl NoB (r21 : List UInt8) v), mkO 8 (fun v => osl NoB (([Zr p2.Version] : List UInt8) : List UInt8) v), mkO 15 (fun v => osl NoB (([Zr (p2.Label.length : Int)] : List UInt8) : List UInt8) v)] : Mk)) (i := 20) (ds := [4, 8, 15]) (m := 6) (f := (fun us => [(us.getD 0 undef), (us.getD 1 undef), (ZT (.slice (some ⟨b3, 0 + 2, none⟩) 16 16) ((0 : Int)).toNat ((16 : Int)).toNat 1), (us.getD 2 undef), v2_1, v2_2])) hM hsL
   exact ⟨_, _, rfl, hE, (M.litOn (its := [raw b15 (enc x13), osl NoB (r10 : List UInt8) u12, raw b5 (enc (Vector.replicate 32 (0 : UInt8))), raw b3 (cat [[vI p2.Number], [vI p2.Version], enc p2.Nonce, [v2_1], [v2_2], enc p2.Tag]), raw b1 (cat [[v1_1], [vI p1.Next], [v1_2], [v1_3], enc p1.Head])]) (mk := ([mkO 4 (fun v => osl NoB (r21 : List UInt8) v), mkO 8 (fun v => osl NoB (([Zr p2.Version] : List UInt8) : List UInt8) v), mkO 15 (fun v => osl NoB (([Zr (p2.Label.length : Int)] : List UInt8) : List UInt8) v)] : Mk)) (i := 20) (ds := [4, 8, 15]) (m := 6) (f := (fun us => [(us.getD 0 undef), (us.getD 1 undef), (ZT (.slice (some ⟨b3, 0 + 2, none⟩) 16 16) ((0 : Int)).toNat ((16 : Int)).toNat 1), (us.getD 2 undef), v2_1, v2_2])) (M.qFill (its := [raw b15 (enc x13), osl NoB (r10 : List UInt8) u12, raw b5 (enc (Vector.replicate 32 (0 : UInt8))), raw b3 (cat [[vI p2.Number], [vI p2.Version], enc p2.Nonce, [v2_1], [v2_2], enc p2.Tag]), raw b1 (cat [[v1_1], [vI p1.Next], [v1_2], [v1_3], enc p1.Head])]) (mk1 := [_]) (mk2 := [_]) (f := (fun v => osl NoB (([Zr p2.Version] : List UInt8) : List UInt8) v)) hM rfl hD) hsL (by decide)), hI.2.put hD rfl ZP trivial⟩
  ·intro a w ux20 D hE hI hD hdc hp
   have hM0 := hI.1
   exact Zg hE Za ld rfl (KA) fun a hE => ⟨_, _, rfl, hE, M.qKeep hM0 rfl, hI.2.put hD rfl ZP rfl⟩
  ·intro a w ux20 D hE hI hD hdc hp
   have d9 : D 9 = true := hp 0 _ rfl rfl
   have g9 := hI.2 9 d9 _ rfl
   have f9 : ux20 9 = (ptr b3 (0 + 2)) := g9.2
   have hM0 := hI.1
   exact Vm (N := 16) hE Za ld (lk rfl f9) rfl rfl rfl rfl Tryz.underlying70 ty5 hb28 fun a hE => ⟨_, _, rfl, hE, M.qKeep hM0 rfl, hI.2.put hD rfl ZP rfl⟩
  ·intro a w ux20 D hE hI hD hdc hp
   have hM0 := hI.1
   exact Zg hE Za ld rfl (Qn) fun a hE => ⟨_, _, rfl, hE, M.qKeep hM0 rfl, hI.2.put hD rfl ZP rfl⟩
  ·intro a w ux20 D hE hI hD hdc hp
   have d11 : D 11 = true := hp 0 _ rfl rfl
   have g11 := hI.2 11 d11 _ rfl
   have f11 : ux20 11 = (ptr b3 (0 + 18)) := g11.2
   have hM0 := hI.1
   have hM := hI.1
   exact Zq (v := v2_1) hE Za ld (lk rfl f11) Ua rfl (At.cat (pre := [[vI p2.Number], [vI p2.Version], enc p2.Nonce]) (hM.rawAt (pre := [_, _, _])) (cl1 (n := 1) (m := 17) rfl (cl1 (n := 1) (m := 16) rfl (cl1 (n := 16) (m := 0) (Flat.len _) cl0)))) fun a hE => ⟨_, _, rfl, hE, M.qKeep hM0 rfl, hI.2.put hD rfl ZP rfl⟩
  ·intro a w ux20 D hE hI hD hdc hp
   have d12 : D 12 = true := hp 0 _ rfl rfl
   have g12 := hI.2 12 d12 _ rfl
   have f12 : ux20 12 = v2_1 := g12.2
   have hM0 := hI.1
   have hM := hI.1
   exact Z6 hE Za ld (lk rfl f12) Tryz.underlying57 (hM.rd hv2_1) fun a hE => ⟨_, _, rfl, hE, M.qKeep hM0 rfl, hI.2.put hD rfl ZP rfl⟩
  ·intro a w ux20 D hE hI hD hdc hp
   have d13 : D 13 = true := hp 0 _ rfl rfl
   have g13 := hI.2 13 d13 _ rfl
   have f13 : ux20 13 = (vI (p2.Label.length : Int)) := g13.2
   have hM0 := hI.1
   refine Yj hE Za ld (lk rfl f13) Tryz.underlying3 Tryz.underlying5 ?_; intro a hE
   rw [ZW] at hE
   exact ⟨_, _, rfl, hE, M.qKeep hM0 rfl, hI.2.put hD rfl ZP rfl⟩
  ·intro a w ux20 D hE hI hD hdc hp
   have d14 : D 14 = true := hp 0 _ rfl rfl
   have g14 := hI.2 14 d14 _ rfl
   have f14 : ux20 14 = (vB (Zr (p2.Label.length : Int))) := g14.2
   have hsL : D 20 = false := Bool.eq_false_iff.2 fun hx => Bool.noConfusion (hD.symm.trans (hdc 20 _ _ rfl (List.mem_of_getElem? (i := 3) rfl) rfl hx))
   have hM0 := hI.1
   have hM := hI.1
   refine Z5 (xs := [.tmp 31]) (l := ([Zr (p2.Label.length : Int)] : List UInt8)) (vs := [(vB (Zr (p2.Label.length : Int)))]) hE hM Za ld (ZY (ZS (lk rfl f14) YT)) rfl Tryz.underlying57 ty5 rfl (by decide) rfl ?_; intro u29 w a hM hE
   have hM := M.litOff (its := _ :: [raw b15 (enc x13), osl NoB (r10 : List UInt8) u12, raw b5 (enc (Vector.replicate 32 (0 : UInt8))), raw b3 (cat [[vI p2.Number], [vI p2.Version], enc p2.Nonce, [v2_1], [v2_2], enc p2.Tag]), raw b1 (cat [[v1_1], [vI p1.Next], [v1_2], [v1_3], enc p1.Head])]) (mk := ([mkO 4 (fun v => osl NoB (r21 : List UInt8) v), mkO 8 (fun v => osl NoB (([Zr p2.Version] : List UInt8) : List UInt8) v), mkO 15 (fun v => osl NoB (([Zr (p2.Label.length : Int)] : List UInt8) : List UInt8) v)] : Mk)) (i := 20) (ds := [4, 8, 15]) (m := 6) (f := (fun us => [(us.getD 0 undef), (us.getD 1 undef), (ZT (.slice (some ⟨b3, 0 + 2, none⟩) 16 16) ((0 : Int)).toNat ((16 : Int)).toNat 1), (us.getD 2 undef), v2_1, v2_2])) hM hsL
   exact ⟨_, _, rfl, hE, (M.litOn (its := [raw b15 (enc x13), osl NoB (r10 : List UInt8) u12, raw b5 (enc (Vector.replicate 32 (0 : UInt8))), raw b3 (cat [[vI p2.Number], [vI p2.Version], enc p2.Nonce, [v2_1], [v2_2], enc p2.Tag]), raw b1 (cat [[v1_1], [vI p1.Next], [v1_2], [v1_3], enc p1.Head])]) (mk := ([mkO 4 (fun v => osl NoB (r21 : List UInt8) v), mkO 8 (fun v => osl NoB (([Zr p2.Version] : List UInt8) : List UInt8) v), mkO 15 (fun v => osl NoB (([Zr (p2.Label.length : Int)] : List UInt8) : List UInt8) v)] : Mk)) (i := 20) (ds := [4, 8, 15]) (m := 6) (f := (fun us => [(us.getD 0 undef), (us.getD 1 undef), (ZT (.slice (some ⟨b3, 0 + 2, none⟩) 16 16) ((0 : Int)).toNat ((16 : Int)).toNat 1), (us.getD 2 undef), v2_1, v2_2])) (M.qFill (its := [raw b15 (enc x13), osl NoB (r10 : List UInt8) u12, raw b5 (enc (Vector.replicate 32 (0 : UInt8))), raw b3 (cat [[vI p2.Number], [vI p2.Version], enc p2.Nonce, [v2_1], [v2_2], enc p2.Tag]), raw b1 (cat [[v1_1], [vI p1.Next], [v1_2], [v1_3], enc p1.Head])]) (mk1 := [_, _]) (mk2 := []) (f := (fun v => osl NoB (([Zr (p2.Label.length : Int)] : List UInt8) : List UInt8) v)) hM rfl hD) hsL (by decide)), hI.2.put hD rfl ZP trivial⟩
  ·intro a w ux20 D hE hI hD hdc hp
   have hM0 := hI.1
   exact Zg hE Za ld rfl (Qn) fun a hE => ⟨_, _, rfl, hE, M.qKeep hM0 rfl, hI.2.put hD rfl ZP rfl⟩
  ·intro a w ux20 D hE hI hD hdc hp
   have d16 : D 16 = true := hp 0 _ rfl rfl
   have g16 := hI.2 16 d16 _ rfl
   have f16 : ux20 16 = (ptr b3 (0 + 18)) := g16.2
   have hM0 := hI.1
   have hM := hI.1
   exact Zq (v := v2_1) hE Za ld (lk rfl f16) Ua rfl (At.cat (pre := [[vI p2.Number], [vI p2.Version], enc p2.Nonce]) (hM.rawAt (pre := [_, _, _])) (cl1 (n := 1) (m := 17) rfl (cl1 (n := 1) (m := 16) rfl (cl1 (n := 16) (m := 0) (Flat.len _) cl0)))) fun a hE => ⟨_, _, rfl, hE, M.qKeep hM0 rfl, hI.2.put hD rfl ZP rfl⟩
  ·intro a w ux20 D hE hI hD hdc hp
   have hM0 := hI.1
   exact Zg hE Za ld rfl (QA) fun a hE => ⟨_, _, rfl, hE, M.qKeep hM0 rfl, hI.2.put hD rfl ZP rfl⟩
  ·intro a w ux20 D hE hI hD hdc hp
   have d18 : D 18 = true := hp 0 _ rfl rfl
   have g18 := hI.2 18 d18 _ rfl
   have f18 : ux20 18 = (ptr b3 (0 + 19)) := g18.2
   have hM0 := hI.1
   have hM := hI.1
   exact Zq (v := v2_2) hE Za ld (lk rfl f18) Ua rfl (At.cat (pre := [[vI p2.Number], [vI p2.Version], enc p2.Nonce, [v2_1]]) (hM.rawAt (pre := [_, _, _])) (cl1 (n := 1) (m := 18) rfl (cl1 (n := 1) (m := 17) rfl (cl1 (n := 16) (m := 1) (Flat.len _) (cl1 (n := 1) (m := 0) rfl cl0))))) fun a hE => ⟨_, _, rfl, hE, M.qKeep hM0 rfl, hI.2.put hD rfl ZP rfl⟩
  ·intro a w ux20 D hE hI hD hdc hp
   have d4 : D 4 = true := hp 0 _ rfl rfl
   have g4 := hI.2 4 d4 _ rfl
   have d8 : D 8 = true := hp 1 _ rfl rfl
   have g8 := hI.2 8 d8 _ rfl
   have d10 : D 10 = true := hp 2 _ rfl rfl
   have g10 := hI.2 10 d10 _ rfl
   have f10 : ux20 10 = (ZT (.slice (some ⟨b3, 0 + 2, none⟩) 16 16) ((0 : Int)).toNat ((16 : Int)).toNat 1) := g10.2
   have d15 : D 15 = true := hp 3 _ rfl rfl
   have g15 := hI.2 15 d15 _ rfl
   have d17 : D 17 = true := hp 4 _ rfl rfl
   have g17 := hI.2 17 d17 _ rfl
   have f17 : ux20 17 = v2_1 := g17.2
   have d19 : D 19 = true := hp 5 _ rfl rfl
   have g19 := hI.2 19 d19 _ rfl
   have f19 : ux20 19 = v2_2 := g19.2
   have hM0 := hI.1
   have hM := hI.1
   have hM := hM.sure (pre := [_, _, _, _, _]) d4
   have hM := hM.sure (pre := [_, _, _, _, _, _]) d8
   have hM := hM.sure (pre := [_, _, _, _, _, _, _]) d15
   refine Qj (xs := [.tmp 21, .tmp 25, .tmp 27, .tmp 32, .tmp 34, .tmp 36]) (vs := [(ux20 4), (ux20 8), (ZT (.slice (some ⟨b3, 0 + 2, none⟩) 16 16) ((0 : Int)).toNat ((16 : Int)).toNat 1), (ux20 15), v2_1, v2_2]) hE hM Za ld (ZY (ZS rfl (ZS rfl (ZS (lk rfl f10) (ZS rfl (ZS (lk rfl f17) (ZS (lk rfl f19) YT))))))) rfl Tryz.underlying42 Ua (by decide) (Uy (Xb (hM.sl (pre := [_, _, _, _, _]) noB)) (Uy (Xb (hM.sl (pre := [_, _, _, _, _, _]) noB)) (Uy (Xb (Xs (At.sat (At.cat (pre := [[vI p2.Number], [vI p2.Version]]) (hM.rawAt (pre := [_, _, _])) (cl1 (n := 1) (m := 1) rfl (cl1 (n := 1) (m := 0) rfl cl0))) (by simp) (by decide)) e27)) (Uy (Xb (hM.sl (pre := [_, _, _, _, _, _, _]) noB)) (Uy (Xb (hM.rd hv2_1)) (Uy (Xb (hM.rd hv2_2)) Bn)))))) ?_; intro b31 w a hM hE
   have hM := hM.unsure (pre := [_, _, _, _, _, _, _, _]) d15
   have hM := hM.unsure (pre := [_, _, _, _, _, _, _]) d8
   have hM := hM.unsure (pre := [_, _, _, _, _, _]) d4
   exact ⟨_, _, rfl, hE, M.litFill (its := [raw b15 (enc x13), osl NoB (r10 : List UInt8) u12, raw b5 (enc (Vector.replicate 32 (0 : UInt8))), raw b3 (cat [[vI p2.Number], [vI p2.Version], enc p2.Nonce, [v2_1], [v2_2], enc p2.Tag]), raw b1 (cat [[v1_1], [vI p1.Next], [v1_2], [v1_3], enc p1.Head])]) (mk := ([mkO 4 (fun v => osl NoB (r21 : List UInt8) v), mkO 8 (fun v => osl NoB (([Zr p2.Version] : List UInt8) : List UInt8) v), mkO 15 (fun v => osl NoB (([Zr (p2.Label.length : Int)] : List UInt8) : List UInt8) v)] : Mk)) (i := 20) (ds := [4, 8, 15]) (m := 6) (f := (fun us => [(us.getD 0 undef), (us.getD 1 undef), (ZT (.slice (some ⟨b3, 0 + 2, none⟩) 16 16) ((0 : Int)).toNat ((16 : Int)).toNat 1), (us.getD 2 undef), v2_1, v2_2])) hM rfl hD (by decide), hI.2.put hD rfl (yu d4 (yu d8 (yu d15 ZP))) trivial⟩
  ·intro a w ux20 D hE hI hall
   have hM := hI.1
   have d0 : D 0 = true := hall 0 (by decide)
   have d1 : D 1 = true := hall 1 (by decide)
   have d2 : D 2 = true := hall 2 (by decide)
   have d3 : D 3 = true := hall 3 (by decide)
   have d4 : D 4 = true := hall 4 (by decide)
   have d5 : D 5 = true := hall 5 (by decide)
   have d6 : D 6 = true := hall 6 (by decide)
   have d7 : D 7 = true := hall 7 (by decide)
   have d8 : D 8 = true := hall 8 (by decide)
   have d9 : D 9 = true := hall 9 (by decide)
   have d10 : D 10 = true := hall 10 (by decide)
   have d11 : D 11 = true := hall 11 (by decide)
   have d12 : D 12 = true := hall 12 (by decide)
   have d13 : D 13 = true := hall 13 (by decide)
   have d14 : D 14 = true := hall 14 (by decide)
   have d15 : D 15 = true := hall 15 (by decide)
   have d16 : D 16 = true := hall 16 (by decide)
   have d17 : D 17 = true := hall 17 (by decide)
   have d18 : D 18 = true := hall 18 (by decide)
   have d19 : D 19 = true := hall 19 (by decide)
   have d20 : D 20 = true := hall 20 (by decide)
   have f0 : ux20 0 = v0_1 := (hI.2 0 d0 _ rfl).2
   have f1 : ux20 1 = (Value.agg (enc x13).toArray) := (hI.2 1 d1 _ rfl).2
   have f2 : ux20 2 = (ptr b3 (0 + 0)) := (hI.2 2 d2 _ rfl).2
   have f3 : ux20 3 = (vI p2.Number) := (hI.2 3 d3 _ rfl).2
   have f5 : ux20 5 = (ptr b3 (0 + 1)) := (hI.2 5 d5 _ rfl).2
   have f6 : ux20 6 = (vI p2.Version) := (hI.2 6 d6 _ rfl).2
   have f7 : ux20 7 = (vB (Zr p2.Version)) := (hI.2 7 d7 _ rfl).2
   have f9 : ux20 9 = (ptr b3 (0 + 2)) := (hI.2 9 d9 _ rfl).2
   have f10 : ux20 10 = (ZT (.slice (some ⟨b3, 0 + 2, none⟩) 16 16) ((0 : Int)).toNat ((16 : Int)).toNat 1) := (hI.2 10 d10 _ rfl).2
   have f11 : ux20 11 = (ptr b3 (0 + 18)) := (hI.2 11 d11 _ rfl).2
   have f12 : ux20 12 = v2_1 := (hI.2 12 d12 _ rfl).2
   have f13 : ux20 13 = (vI (p2.Label.length : Int)) := (hI.2 13 d13 _ rfl).2
   have f14 : ux20 14 = (vB (Zr (p2.Label.length : Int))) := (hI.2 14 d14 _ rfl).2
   have f16 : ux20 16 = (ptr b3 (0 + 18)) := (hI.2 16 d16 _ rfl).2
   have f17 : ux20 17 = v2_1 := (hI.2 17 d17 _ rfl).2
   have f18 : ux20 18 = (ptr b3 (0 + 19)) := (hI.2 18 d18 _ rfl).2
   have f19 : ux20 19 = v2_2 := (hI.2 19 d19 _ rfl).2
   have hM := hM.sure (pre := [_, _, _, _, _]) d4
   have hM := hM.sure (pre := [_, _, _, _, _, _]) d8
   have hM := hM.sure (pre := [_, _, _, _, _, _, _]) d15
   have hM := (hM.sure (pre := [_, _, _, _, _, _, _, _]) d20).pull
   obtain ⟨b33, f34, hM⟩ := M.litOpen hM
   have hE := hE.sub (e' := [(17, v0_1), (18, (Value.agg (enc x13).toArray)), (21, (ux20 4)), (25, (ux20 8)), (32, (ux20 15)), (37, (Value.slice (some ⟨b33, 0, none⟩) 6 6)), (0, v0_1), (1, (Value.agg (cat [[v1_1], [vI p1.Next], [v1_2], [v1_3], enc p1.Head]).toArray)), (2, (Value.agg (cat [[vI p2.Number], [vI p2.Version], enc p2.Nonce, [v2_1], [v2_2], enc p2.Tag]).toArray)), (4, (ptr b1 0)), (5, (ptr b3 0)), (6, (ptr b5 0)), (7, (ptr b15 0)), (8, (ptr b1 (0 + 0))), (9, v1_1), (10, (ptr b3 (0 + 1))), (11, vI p2.Version), (12, (ptr (sb v1_1) (so v1_1 + (p2.Version).toNat * 16))), (13, (Value.agg (enc x7).toArray)), (14, u12), (15, (ptr (sb u12) (so u12))), (16, (Value.agg (enc x13).toArray))]) ⟨lk rfl f0, lk rfl f1, rfl, rfl, rfl, lk rfl f34, rfl, rfl, rfl, rfl, rfl, rfl, rfl, rfl, rfl, rfl, rfl, rfl, rfl, rfl, rfl, rfl, trivial⟩
   obtain ⟨r35, e36, hl18⟩ := bind_some hl18
   refine Zs hE Za ld rfl cb140 (Qt _ p0 v0_1 (hM.rdo hv0_1) x13 ([r21, ([Zr p2.Version] : List UInt8), l26, ([Zr (p2.Label.length : Int)] : List UInt8), p2.Label, p2.Body] : (List (List UInt8))) (Value.slice (some ⟨b33, 0, none⟩) 6 6) (BD (hM.rawAt (pre := [])) (hM.rawLt (pre := [])) ⟨(hM.sl (pre := [_, _, _, _, _, _]) noB), (hM.sl (pre := [_, _, _, _, _, _, _]) noB), (Xs (At.sat (At.cat (pre := [[vI p2.Number], [vI p2.Version]]) (hM.rawAt (pre := [_, _, _, _])) (cl1 (n := 1) (m := 1) rfl (cl1 (n := 1) (m := 0) rfl cl0))) (by simp) (by decide)) e27), (hM.sl (pre := [_, _, _, _, _, _, _, _]) noB), (hM.rdo hv2_1), (hM.rdo hv2_2), trivial⟩ rfl) r35 e36) ?_
   rintro v w a ⟨rfl, hK⟩ hE
   have hM := hM.keep hK
   have hM := hM.pull (pre := [_, _, _])
   refine Zt (seg := enc r35) (cs' := enc r35) hE hM Za rfl rfl rfl Yu (Flat.len _) (zle flq) (Flat.cell _) (Zo flq) fun w a hM hE => Zi ?_
   have ht37 := Option.some.inj hl18
   subst ht37
   refine Zl ?_
   have hM := M.fst (l := [_]) hM
   exact ⟨hE.sub ⟨rfl, trivial⟩, hM⟩
 ·skip
  rintro a w ⟨hE, hM⟩
  have hr := Option.some.inj hF19
  subst hr
  have hq38 : YB Tryz.prog _ _ (.cell 6 29) _ := ZZ hE rfl Yu rfl (hM.rawAt (pre := [])) (Flat.len _) rfl
  have hM := M.fst (l := []) hM
  exact wp_ret (Zy hE rfl hq38 ⟨_, rfl, rfl, hM.kept⟩)
noncomputable def YR (p0 : (Ref Gengine)) (p1 : (Vector UInt8 16)) (p2 : (Vector UInt8 16)) (p3 : Int) (s12 : Int × (List UInt8)) : Option (Fl (Int × (List UInt8)) (List UInt8)) :=
 if (decide ((s12.2.length : Int) < p3)) = true then ((slc p2.toList (0 : Int) (16 : Int)).bind fun l20 => (X8 p0 p1 ([l20, ([Zr (Wd s12.1 8), Zr s12.1] : List UInt8)] : (List (List UInt8)))).bind fun r29 => (slc r29.toList (0 : Int) (32 : Int)).bind fun l37 => (app 1 s12.2 l37).bind fun l40 => some (Fl.nx (wr (s12.1 + 1), (s12.2 ++ l37)))) else (some (Fl.ex s12.2))
noncomputable def XH (p0 : (Ref Gengine)) (p1 : (Vector UInt8 16)) (p2 : (Vector UInt8 16)) (p3 : Int) : Option ((List UInt8)) :=
 (ZG (YR p0 p1 p2 p3) (0, ([] : List UInt8)) : Option ((List UInt8))).bind fun j7 => (slc j7 (0 : Int) p3).bind fun l46 => (Z8 l46).bind fun r48 => some r48
theorem Kr (w0 : World) (p0 : (Ref Gengine)) (v0_1 : Value) (hv0_1 : Ro w0 p0 [v0_1]) (p1 : (Vector UInt8 16)) (p2 : (Vector UInt8 16)) (p3 : Int) (r : (List UInt8)) (hF : XH p0 p1 p2 p3 = some r) :
  Calls Tryz.prog 152 [v0_1, (Value.agg (enc p1).toArray), (Value.agg (enc p2).toArray), vI p3].toArray w0 (fun en w' => ∃ v, en = .returned v ∧ (∃ (y1 : Value), v = y1 ∧ Fr w0 w' [osl NoB (r : List UInt8) y1] ∧ Kept (Old w0) w0 w')) := by
 refine ZD (n := 37) Tryz.func152 rfl rfl (Nat.le_of_ble_eq_true rfl) rfl ?_
 intro a hE
 have hM := M.start w0
 unfold XH at hF
 refine Zc (ZX (cs := enc p1) hE hM Za ld rfl rfl fun b1 w a hM hE => ZX (cs := enc p2) hE hM Za ld rfl rfl fun b3 w a hM hE => Ze hE Za ld rfl fun a hE => Zf (Zc (Z5 (xs := []) (l := ([] : List UInt8)) (vs := []) hE hM Za ld rfl rfl Tryz.underlying57 ty5 rfl (by decide) rfl fun u5 w a hM hE => Ze hE Za ld rfl fun a hE => Zf (wp_seq (Zc (Ze hE Za ld rfl fun a hE => Zf ?_))))))
 obtain ⟨j7, hl8, hF9⟩ := bind_some hF
 refine ZR (fun a w => ∃ (u10 : Value), Env 37 a [(3, vI p3), (9, u10)] ∧ M (Old w0) w0 w [osl NoB (j7 : List UInt8) u10]) ?_ ?_
 ·skip
  refine wp_block ?_
  have hM := hM.pull (pre := [_, _])
  have hM := hM.pull (pre := [_, _])
  refine ZK (fun (s12 : Int × (List UInt8)) a w => ∃ (u13 : Value), Env 37 a [(0, v0_1), (3, vI p3), (5, (ptr b1 0)), (6, (ptr b3 0)), (9, u13), (10, vI s12.1)] ∧ M (Old w0) w0 w [raw b3 (enc p2), raw b1 (enc p1), osl NoB (s12.2 : List UInt8) u13]) hl8 ⟨u5, hE.sub ⟨rfl, rfl, rfl, rfl, rfl, rfl, trivial⟩, hM⟩ ?_
  rintro s12 a w ⟨u13, hE, hM⟩ o17 hs15 hx16
  unfold YR at hs15
  refine wp_seq (Zc (Zd hE Za ld rfl fun a hE => Z6 hE Za ld rfl Tryz.underlying57 (hM.sl (pre := [_, _]) noB) fun a hE => Zd hE Za ld rfl fun a hE => Zh hE Za ld rfl rfl rfl fun a hE => Zf ?_))
  refine Zv hE rfl ?_ ?_
  ·intro hb18
   have hs15 := ZA hs15 hb18
   refine wp_skip (Zz (wp_seq (wp_block (wp_seq ?_))))
   obtain ⟨l20, e21, hs15⟩ := bind_some hs15
   have hb22 := TY e21 -- ^
   obtain ⟨r29, e30, hs15⟩ := bind_some hs15
   refine VX (n := 37) (hd := [_, _, _, _, _, _, _, _, _, _, _, _]) (tl := [_]) YN rfl rfl [19, 20, 21, 22, 23, 24, 25, 26, 27, 28, 29, 11] (by decide) (fun D u w => M (Old w0) w0 w ([raw b3 (enc p2), raw b1 (enc p1), osl NoB (s12.2 : List UInt8) u13] ++ qL ([mkO 8 (fun v => osl NoB (([Zr (Wd s12.1 8), Zr s12.1] : List UInt8) : List UInt8) v), mkO 11 (fun v => VR v (enc (Vector.replicate 32 (0 : UInt8)))), mkL 9 [8] 2 (fun us => [(ZT (.slice (some ⟨b3, 0, none⟩) 16 16) ((0 : Int)).toNat ((16 : Int)).toNat 1), (us.getD 0 undef)])] : Mk) D u) ∧ GOk ([([], fun us v => v = v0_1), ([], fun us v => v = (Value.agg (enc p1).toArray)), ([], fun us v => v = (ZT (.slice (some ⟨b3, 0, none⟩) 16 16) ((0 : Int)).toNat ((16 : Int)).toNat 1)), ([], fun us v => v = (vI s12.1)), ([], fun us v => v = (vI (Wd s12.1 8))), ([], fun us v => v = (vB (Zr (Wd s12.1 8)))), ([], fun us v => v = (vI s12.1)), ([], fun us v => v = (vB (Zr s12.1))), ([], fun us v => True), ([8], fun us v => True), ([], fun us v => v = (Value.agg (enc r29).toArray)), ([], fun us v => True)] : Gs) D u) hE (fun u => ⟨M.qE (M.qE (M.qE (M.q0 hM.drew u) emL) emO) emO, Jj⟩) (ZL (Zb ?_ (Zb ?_ (Zb ?_ (Zb ?_ (Zb ?_ (Zb ?_ (Zb ?_ (Zb ?_ (Zb ?_ (Zb ?_ (Zb ?_ (Zb ?_ ZF))))))))))))) ?_
   ·intro a w ux19 D hE hI hD hdc hp
    have hM0 := hI.1
    exact Zd hE Za ld rfl fun a hE => ⟨_, _, rfl, hE, M.qKeep hM0 rfl, hI.2.put hD rfl ZP rfl⟩
   ·intro a w ux19 D hE hI hD hdc hp
    have hM0 := hI.1
    have hM := hI.1
    exact Zm (cs := enc p1) hE Za ld rfl ZH rfl (hM.rawAt (pre := [_])) (Flat.len _) fun a hE => ⟨_, _, rfl, hE, M.qKeep hM0 rfl, hI.2.put hD rfl ZP rfl⟩
   ·intro a w ux19 D hE hI hD hdc hp
    have hM0 := hI.1
    exact Vm (N := 16) hE Za ld rfl rfl rfl rfl rfl Tryz.underlying70 ty5 hb22 fun a hE => ⟨_, _, rfl, hE, M.qKeep hM0 rfl, hI.2.put hD rfl ZP rfl⟩
   ·intro a w ux19 D hE hI hD hdc hp
    have hM0 := hI.1
    exact Zd hE Za ld rfl fun a hE => ⟨_, _, rfl, hE, M.qKeep hM0 rfl, hI.2.put hD rfl ZP rfl⟩
   ·intro a w ux19 D hE hI hD hdc hp
    have d3 : D 3 = true := hp 0 _ rfl rfl
    have g3 := hI.2 3 d3 _ rfl
    have f3 : ux19 3 = (vI s12.1) := g3.2
    have hM0 := hI.1
    exact Ju hE Za ld (lk rfl f3) rfl (Kp _ _ (by decide)) fun a hE => ⟨_, _, rfl, hE, M.qKeep hM0 rfl, hI.2.put hD rfl ZP rfl⟩
   ·intro a w ux19 D hE hI hD hdc hp
    have d4 : D 4 = true := hp 0 _ rfl rfl
    have g4 := hI.2 4 d4 _ rfl
    have f4 : ux19 4 = (vI (Wd s12.1 8)) := g4.2
    have hM0 := hI.1
    refine Yj hE Za ld (lk rfl f4) Tryz.underlying3 Tryz.underlying5 ?_; intro a hE
    rw [ZW] at hE
    exact ⟨_, _, rfl, hE, M.qKeep hM0 rfl, hI.2.put hD rfl ZP rfl⟩
   ·intro a w ux19 D hE hI hD hdc hp
    have hM0 := hI.1
    exact Zd hE Za ld rfl fun a hE => ⟨_, _, rfl, hE, M.qKeep hM0 rfl, hI.2.put hD rfl ZP rfl⟩
   ·intro a w ux19 D hE hI hD hdc hp
    have d6 : D 6 = true := hp 0 _ rfl rfl
    have g6 := hI.2 6 d6 _ rfl
    have f6 : ux19 6 = (vI s12.1) := g6.2
    have hM0 := hI.1
    refine Yj hE Za ld (lk rfl f6) Tryz.underlying3 Tryz.underlying5 ?_; intro a hE
    rw [ZW] at hE
    exact ⟨_, _, rfl, hE, M.qKeep hM0 rfl, hI.2.put hD rfl ZP rfl⟩
   ·intro a w ux19 D hE hI hD hdc hp
    have d5 : D 5 = true := hp 0 _ rfl rfl
    have g5 := hI.2 5 d5 _ rfl
    have f5 : ux19 5 = (vB (Zr (Wd s12.1 8))) := g5.2
    have d7 : D 7 = true := hp 1 _ rfl rfl
    have g7 := hI.2 7 d7 _ rfl
    have f7 : ux19 7 = (vB (Zr s12.1)) := g7.2
    have hsL : D 9 = false := Bool.eq_false_iff.2 fun hx => Bool.noConfusion (hD.symm.trans (hdc 9 _ _ rfl (List.mem_of_getElem? (i := 1) rfl) rfl hx))
    have hM0 := hI.1
    have hM := hI.1
    refine Z5 (xs := [.tmp 24, .tmp 26]) (l := ([Zr (Wd s12.1 8), Zr s12.1] : List UInt8)) (vs := [(vB (Zr (Wd s12.1 8))), (vB (Zr s12.1))]) hE hM Za ld (ZY (ZS (lk rfl f5) (ZS (lk rfl f7) YT))) rfl Tryz.underlying57 ty5 rfl (by decide) rfl ?_; intro u23 w a hM hE
    have hM := M.litOff (its := _ :: [raw b3 (enc p2), raw b1 (enc p1), osl NoB (s12.2 : List UInt8) u13]) (mk := ([mkO 8 (fun v => osl NoB (([Zr (Wd s12.1 8), Zr s12.1] : List UInt8) : List UInt8) v), mkO 11 (fun v => VR v (enc (Vector.replicate 32 (0 : UInt8))))] : Mk)) (i := 9) (ds := [8]) (m := 2) (f := (fun us => [(ZT (.slice (some ⟨b3, 0, none⟩) 16 16) ((0 : Int)).toNat ((16 : Int)).toNat 1), (us.getD 0 undef)])) hM hsL
    exact ⟨_, _, rfl, hE, (M.litOn (its := [raw b3 (enc p2), raw b1 (enc p1), osl NoB (s12.2 : List UInt8) u13]) (mk := ([mkO 8 (fun v => osl NoB (([Zr (Wd s12.1 8), Zr s12.1] : List UInt8) : List UInt8) v), mkO 11 (fun v => VR v (enc (Vector.replicate 32 (0 : UInt8))))] : Mk)) (i := 9) (ds := [8]) (m := 2) (f := (fun us => [(ZT (.slice (some ⟨b3, 0, none⟩) 16 16) ((0 : Int)).toNat ((16 : Int)).toNat 1), (us.getD 0 undef)])) (M.qFill (its := [raw b3 (enc p2), raw b1 (enc p1), osl NoB (s12.2 : List UInt8) u13]) (mk1 := []) (mk2 := [_]) (f := (fun v => osl NoB (([Zr (Wd s12.1 8), Zr s12.1] : List UInt8) : List UInt8) v)) hM rfl hD) hsL (by decide)), hI.2.put hD rfl ZP trivial⟩
   ·intro a w ux19 D hE hI hD hdc hp
    have d2 : D 2 = true := hp 0 _ rfl rfl
    have g2 := hI.2 2 d2 _ rfl
    have f2 : ux19 2 = (ZT (.slice (some ⟨b3, 0, none⟩) 16 16) ((0 : Int)).toNat ((16 : Int)).toNat 1) := g2.2
    have d8 : D 8 = true := hp 1 _ rfl rfl
    have g8 := hI.2 8 d8 _ rfl
    have hM0 := hI.1
    have hM := hI.1
    have hM := hM.sure (pre := [_, _, _]) d8
    refine Qj (xs := [.tmp 21, .tmp 27]) (vs := [(ZT (.slice (some ⟨b3, 0, none⟩) 16 16) ((0 : Int)).toNat ((16 : Int)).toNat 1), (ux19 8)]) hE hM Za ld (ZY (ZS (lk rfl f2) (ZS rfl YT))) rfl Tryz.underlying42 Ua (by decide) (Uy (Xb (Xs (At.sat (hM.rawAt (pre := [])) (by simp) (by decide)) e21)) (Uy (Xb (hM.sl (pre := [_, _, _]) noB)) Bn)) ?_; intro b25 w a hM hE
    have hM := hM.unsure (pre := [_, _, _, _]) d8
    exact ⟨_, _, rfl, hE, M.litFill (its := [raw b3 (enc p2), raw b1 (enc p1), osl NoB (s12.2 : List UInt8) u13]) (mk := ([mkO 8 (fun v => osl NoB (([Zr (Wd s12.1 8), Zr s12.1] : List UInt8) : List UInt8) v), mkO 11 (fun v => VR v (enc (Vector.replicate 32 (0 : UInt8))))] : Mk)) (i := 9) (ds := [8]) (m := 2) (f := (fun us => [(ZT (.slice (some ⟨b3, 0, none⟩) 16 16) ((0 : Int)).toNat ((16 : Int)).toNat 1), (us.getD 0 undef)])) hM rfl hD (by decide), hI.2.put hD rfl (yu d8 ZP) trivial⟩
   ·intro a w ux19 D hE hI hD hdc hp
    have d0 : D 0 = true := hp 0 _ rfl rfl
    have g0 := hI.2 0 d0 _ rfl
    have f0 : ux19 0 = v0_1 := g0.2
    have d1 : D 1 = true := hp 1 _ rfl rfl
    have g1 := hI.2 1 d1 _ rfl
    have f1 : ux19 1 = (Value.agg (enc p1).toArray) := g1.2
    have d9 : D 9 = true := hp 2 _ rfl rfl
    have g9 := hI.2 9 d9 _ rfl
    have d8 : D 8 = true := g9.1 8 (show 8 ∈ [8] by decide)
    have hM0 := hI.1
    have hM := hI.1
    have hM := hM.sure (pre := [_, _, _]) d8
    have hM := (hM.sure (pre := [_, _, _, _, _]) d9).pull
    obtain ⟨b27, f28, hM⟩ := M.litOpen hM
    refine Zs hE Za ld (ZY (ZS (lk rfl f0) (ZS (lk rfl f1) (ZS (lk rfl f28) YT)))) cb140 (Qt _ p0 v0_1 (hM.rdo hv0_1) p1 ([l20, ([Zr (Wd s12.1 8), Zr s12.1] : List UInt8)] : (List (List UInt8))) (Value.slice (some ⟨b27, 0, none⟩) 2 2) (BD (hM.rawAt (pre := [])) (hM.rawLt (pre := [])) ⟨(Xs (At.sat (hM.rawAt (pre := [_])) (by simp) (by decide)) e21), (hM.sl (pre := [_, _, _, _]) noB), trivial⟩ rfl) r29 e30) ?_
    rintro v w a ⟨rfl, hK⟩ hE
    exact ⟨_, _, rfl, hE, M.qKeep (hM0.keep hK) rfl, hI.2.put hD rfl ZP rfl⟩
   ·intro a w ux19 D hE hI hD hdc hp
    have hM0 := hI.1
    have hM := hI.1
    refine ZI hE hM Za ld Yu ?_; intro b31 w a hM hE
    have hM := hM.pack1 (it := VR _ (enc (Vector.replicate 32 (0 : UInt8)))) (fun w w' fp ⟨b', e, k⟩ hb => ⟨b', e, Xp w w' fp k hb⟩) (fun fp k => ⟨_, rfl, k⟩)
    exact ⟨_, _, rfl, hE, M.qFill (mk1 := [_]) (mk2 := [_]) (f := fun v => VR v (enc (Vector.replicate 32 (0 : UInt8)))) hM rfl hD, hI.2.put hD rfl ZP trivial⟩
   ·intro a w ux19 D hE hI hall
    have hM : M (Old w0) w0 w [raw b3 (enc p2), raw b1 (enc p1), osl NoB (s12.2 : List UInt8) u13, opt (D 8) (osl NoB (([Zr (Wd s12.1 8), Zr s12.1] : List UInt8) : List UInt8) (ux19 8)), opt (D 11) (VR (ux19 11) (enc (Vector.replicate 32 (0 : UInt8)))), opt (D 9) (litP (ux19 9) 2 [(ZT (.slice (some ⟨b3, 0, none⟩) 16 16) ((0 : Int)).toNat ((16 : Int)).toNat 1), (ux19 8)])] := hI.1
    have d0 : D 0 = true := hall 0 (by decide)
    have d1 : D 1 = true := hall 1 (by decide)
    have d2 : D 2 = true := hall 2 (by decide)
    have d3 : D 3 = true := hall 3 (by decide)
    have d4 : D 4 = true := hall 4 (by decide)
    have d5 : D 5 = true := hall 5 (by decide)
    have d6 : D 6 = true := hall 6 (by decide)
    have d7 : D 7 = true := hall 7 (by decide)
    have d8 : D 8 = true := hall 8 (by decide)
    have d9 : D 9 = true := hall 9 (by decide)
    have d10 : D 10 = true := hall 10 (by decide)
    have d11 : D 11 = true := hall 11 (by decide)
    have f0 : ux19 0 = v0_1 := (hI.2 0 d0 _ rfl).2
    have f1 : ux19 1 = (Value.agg (enc p1).toArray) := (hI.2 1 d1 _ rfl).2
    have f2 : ux19 2 = (ZT (.slice (some ⟨b3, 0, none⟩) 16 16) ((0 : Int)).toNat ((16 : Int)).toNat 1) := (hI.2 2 d2 _ rfl).2
    have f3 : ux19 3 = (vI s12.1) := (hI.2 3 d3 _ rfl).2
    have f4 : ux19 4 = (vI (Wd s12.1 8)) := (hI.2 4 d4 _ rfl).2
    have f5 : ux19 5 = (vB (Zr (Wd s12.1 8))) := (hI.2 5 d5 _ rfl).2
    have f6 : ux19 6 = (vI s12.1) := (hI.2 6 d6 _ rfl).2
    have f7 : ux19 7 = (vB (Zr s12.1)) := (hI.2 7 d7 _ rfl).2
    have f10 : ux19 10 = (Value.agg (enc r29).toArray) := (hI.2 10 d10 _ rfl).2
    have hM := hM.sure (pre := [_, _, _]) d8
    have hM := (hM.sure (pre := [_, _, _, _]) d11).pull
    obtain ⟨_, ⟨b33, f34, _⟩, _⟩ := hM.head
    have hM := hM.pack1 Xp (it := raw b33 (enc (Vector.replicate 32 (0 : UInt8)))) (fun fp ⟨b2, e2, k2⟩ => by rw [f34] at e2; simp [ptr] at e2; subst e2; exact k2)
    have hM := (hM.sure (pre := [_, _, _, _, _]) d9).pull
    obtain ⟨b35, f36, hM⟩ := M.litOpen hM
    have hE := hE.sub (e' := [(27, (ux19 8)), (28, (Value.slice (some ⟨b35, 0, none⟩) 2 2)), (29, (Value.agg (enc r29).toArray)), (11, (ptr b33 0)), (0, v0_1), (3, vI p3), (5, (ptr b1 0)), (6, (ptr b3 0)), (9, u13), (10, vI s12.1), (13, u13), (14, (vI (s12.2.length : Int))), (15, vI p3), (16, (vT (decide ((s12.2.length : Int) < p3))))]) ⟨rfl, lk rfl f36, lk rfl f10, lk rfl f34, rfl, rfl, rfl, rfl, rfl, rfl, rfl, rfl, rfl, rfl, trivial⟩
    have hM := hM.pull (pre := [_])
    refine Zt (seg := enc r29) (cs' := enc r29) hE hM Za rfl rfl rfl Yu (Flat.len _) (zle flq) (Flat.cell _) (Zo flq) fun w a hM hE => Zi (Zz (wp_region_lit (Zd hE Za ld rfl ?_))); intro a hE
    obtain ⟨l37, e38, hs15⟩ := bind_some hs15
    have hb39 := TY e38 -- ^
    refine Vm (N := 32) hE Za ld rfl rfl rfl rfl rfl Tryz.underlying29 ty5 hb39 ?_; intro a hE
    obtain ⟨l40, e41, hs15⟩ := bind_some hs15
    obtain ⟨e44, rfl⟩ := Yn e41
    have hM := hM.pull (pre := [_, _, _, _])
    refine Yb hE hM Za ld rfl rfl (Xs (At.sat (hM.rawAt (pre := [_])) (by simp) (by decide)) e38) Tryz.underlying57 ty5 rfl (by decide) e44 fun u42 w a hM hE => Ze hE Za ld rfl fun a hE => Zi (Ye (Zz (wp_region_lit (Zd hE Za ld rfl fun a hE => Zh hE Za ld rfl rfl rfl fun a hE => Ze hE Za ld rfl fun a hE => Zi (Zl ?_)))))
    have hM := hM.pull (pre := [_, _, _, _])
    have hM := hM.pull (pre := [_, _, _, _])
    have hM := M.fst (l := [_, _, _]) hM
    exact ⟨_, (Option.some.inj hs15).symm, u42, hE.sub ⟨rfl, rfl, rfl, rfl, rfl, rfl, trivial⟩, hM⟩
  ·intro hb18
   have hs15 := ZB hs15 hb18
   refine wp_exit (Zp (Zp (Yc ?_)))
   have ht45 := hx16 _ (Option.some.inj hs15).symm
   subst ht45
   refine Zl ?_
   have hM := hM.pull (pre := [_, _])
   have hM := M.fst (l := [_]) hM
   exact ⟨u13, hE.sub ⟨rfl, rfl, trivial⟩, hM⟩
 ·skip
  rintro a w ⟨u10, hE, hM⟩
  refine Zz (Zc (Zd hE Za ld rfl fun a hE => Zd hE Za ld rfl ?_)); intro a hE
  obtain ⟨l46, e47, hF9⟩ := bind_some hF9
  refine JG hE Za ld rfl rfl rfl rfl rfl Tryz.underlying57 ty5 (hM.sl (pre := []) noB) e47 ?_; intro a hE
  obtain ⟨r48, e49, hF9⟩ := bind_some hF9
  refine Zs hE Za ld rfl kl (Vi _ l46 (ZT u10 ((0 : Int)).toNat (p3).toNat 1) (Xs (hM.sl (pre := []) noB) e47) r48 e49) ?_
  rintro u50 w a ⟨_, rfl, hFr, hK⟩ hE
  have hM := hM.add hK hFr
  refine Ze hE Za ld rfl fun a hE => Zf ?_
  have hr := Option.some.inj hF9
  subst hr
  have hM := M.fst (l := [_]) hM
  exact wp_ret (Zy hE rfl (Zu hE rfl) ⟨_, rfl, u50, rfl, hM.outF (Xu Xo), hM.kept⟩)
noncomputable def Yz (j8 : (List UInt8) × Int × Int) (s26 : Int × (List UInt8)) : Option (Fl (Int × (List UInt8)) (List UInt8)) :=
 if (decide (s26.1 < j8.2.1)) = true then ((idx j8.1 s26.1).bind fun x33 => (idx s26.2 s26.1).bind fun x36 => (idx s26.2 s26.1).bind fun x39 => some (Fl.nx (wr (s26.1 + 1), (s26.2.set (s26.1).toNat (x36 ^^^ x33))))) else (some (Fl.ex s26.2))
noncomputable def Y7 (p0 : (Ref Gengine)) (p1 : GVault) (p2 : GRecord) (p3 : (List UInt8)) : Option ((List UInt8)) :=
 (Z8 p3).bind fun r5 => ((idx p1.Keys p2.Version).bind fun x14 => (XH p0 x14 p2.Nonce (p3.length : Int)).bind fun r17 => some (r17, (r17.length : Int), 0) : Option ((List UInt8) × Int × Int)).bind fun j8 => (ZG (Yz j8) (j8.2.2, r5) : Option ((List UInt8))).bind fun j21 => some j21
theorem QX (w0 : World) (p0 : (Ref Gengine)) (v0_1 : Value) (hv0_1 : Ro w0 p0 [v0_1]) (p1 : GVault) (v1_1 : Value) (hv1_1 : Ro w0 p1.Keys [v1_1]) (v1_2 : Value) (hv1_2 : Ro w0 p1.Records [v1_2]) (v1_3 : Value) (hv1_3 : Ro w0 p1.Events [v1_3]) (p2 : GRecord) (v2_1 : Value) (hv2_1 : Ro w0 p2.Label [v2_1]) (v2_2 : Value) (hv2_2 : Ro w0 p2.Body [v2_2]) (p3 : (List UInt8)) (v3_1 : Value) (hv3_1 : Ro w0 p3 [v3_1]) (r : (List UInt8)) (hF : Y7 p0 p1 p2 p3 = some r) :
  Calls Tryz.prog 89 [v0_1, (Value.agg (cat [[v1_1], [vI p1.Next], [v1_2], [v1_3], enc p1.Head]).toArray), (Value.agg (cat [[vI p2.Number], [vI p2.Version], enc p2.Nonce, [v2_1], [v2_2], enc p2.Tag]).toArray), v3_1].toArray w0 (fun en w' => ∃ v, en = .returned v ∧ (∃ (y1 : Value), v = y1 ∧ Fr w0 w' [osl NoB (r : List UInt8) y1] ∧ Kept (Old w0) w0 w')) := by
 refine ZD (n := 41) Tryz.func89 rfl rfl (Nat.le_of_ble_eq_true rfl) rfl ?_
 intro a hE
 have hM := M.start w0
 unfold Y7 at hF
 refine Zc (ZX (cs := cat [[v1_1], [vI p1.Next], [v1_2], [v1_3], enc p1.Head]) hE hM Za ld rfl rfl fun b1 w a hM hE => ZX (cs := cat [[vI p2.Number], [vI p2.Version], enc p2.Nonce, [v2_1], [v2_2], enc p2.Tag]) hE hM Za ld rfl rfl fun b3 w a hM hE => Ze hE Za ld rfl fun a hE => Zf (Zc (Zd hE Za ld rfl ?_))); intro a hE
 obtain ⟨r5, e6, hF⟩ := bind_some hF
 refine Zs hE Za ld rfl kl (Vi _ p3 v3_1 (hM.rdo hv3_1) r5 e6) ?_
 rintro u7 w a ⟨_, rfl, hFr, hK⟩ hE
 have hM := hM.add hK hFr
 refine Ze hE Za ld rfl fun a hE => Zf (wp_seq ?_)
 obtain ⟨j8, hl9, hF10⟩ := bind_some hF
 refine ZU (fun a w => ∃ (u11 : Value), Env 41 a [(9, u7), (25, u11), (26, vI j8.2.1), (27, vI j8.2.2)] ∧ M (Old w0) w0 w [osl NoB (r5 : List UInt8) u7, osl NoB (j8.1 : List UInt8) u11]) ?_ ?_
 ·skip
  obtain ⟨x14, e15, hl9⟩ := bind_some hl9
  have hi16 := ZO e15
  obtain ⟨r17, e18, hl9⟩ := bind_some hl9
  refine KG (n := 41) (hd := [_, _, _, _, _, _, _, _, _, _, _, _, _, _]) (tl := []) (its := [osl NoB (r5 : List UInt8) u7, raw b3 (cat [[vI p2.Number], [vI p2.Version], enc p2.Nonce, [v2_1], [v2_2], enc p2.Tag]), raw b1 (cat [[v1_1], [vI p1.Next], [v1_2], [v1_3], enc p1.Head])]) YN rfl rfl [14, 15, 16, 17, 18, 19, 20, 21, 22, 23, 24, 25, 26, 27] (by decide) [(11, fun v => osl NoB (r17 : List UInt8) v)] rfl (fun j => ([fun v => v = v0_1, fun v => v = (ptr b1 (0 + 0)), fun v => v = v1_1, fun v => v = (ptr b3 (0 + 1)), fun v => v = (vI p2.Version), fun v => v = (ptr (sb v1_1) (so v1_1 + (p2.Version).toNat * 16)), fun v => v = (Value.agg (enc x14).toArray), fun v => v = (ptr b3 (0 + 2)), fun v => v = (Value.agg (enc p2.Nonce).toArray), fun v => v = v3_1, fun v => v = (vI (p3.length : Int)), fun v => True, fun v => v = (vI (r17.length : Int)), fun v => v = (vI 0)] : List (Value → Prop)).getD j (fun _ => True)) hE hM.drew (ZL (Zb ?_ (Zb ?_ (Zb ?_ (Zb ?_ (Zb ?_ (Zb ?_ (Zb ?_ (Zb ?_ (Zb ?_ (Zb ?_ (Zb ?_ (Zb ?_ (Zb ?_ (Zb ?_ ZF))))))))))))))) ?_
  ·intro a w ux13 D hE hM hD hp
   have hM0 := hM
   exact Zd hE Za ld rfl fun a hE => ⟨_, _, rfl, hE, rfl, hM0.optKeep rfl⟩
  ·intro a w ux13 D hE hM hD hp
   have hM0 := hM
   exact Zg hE Za ld rfl (Tu) fun a hE => ⟨_, _, rfl, hE, rfl, hM0.optKeep rfl⟩
  ·intro a w ux13 D hE hM hD hp
   have f1 : ux13 1 = (ptr b1 (0 + 0)) := (hp 0 _ rfl rfl).2
   have hM0 := hM
   have hM : M (Old w0) w0 w [osl NoB (r5 : List UInt8) u7, raw b3 (cat [[vI p2.Number], [vI p2.Version], enc p2.Nonce, [v2_1], [v2_2], enc p2.Tag]), raw b1 (cat [[v1_1], [vI p1.Next], [v1_2], [v1_3], enc p1.Head]), opt (D 11) (osl NoB (r17 : List UInt8) (ux13 11))] := hM
   exact Zq (v := v1_1) hE Za ld (lk rfl f1) KN rfl (At.cat (pre := []) (hM.rawAt (pre := [_, _])) cl0) fun a hE => ⟨_, _, rfl, hE, rfl, hM0.optKeep rfl⟩
  ·intro a w ux13 D hE hM hD hp
   have hM0 := hM
   exact Zg hE Za ld rfl (TO) fun a hE => ⟨_, _, rfl, hE, rfl, hM0.optKeep rfl⟩
  ·intro a w ux13 D hE hM hD hp
   have f3 : ux13 3 = (ptr b3 (0 + 1)) := (hp 0 _ rfl rfl).2
   have hM0 := hM
   have hM : M (Old w0) w0 w [osl NoB (r5 : List UInt8) u7, raw b3 (cat [[vI p2.Number], [vI p2.Version], enc p2.Nonce, [v2_1], [v2_2], enc p2.Tag]), raw b1 (cat [[v1_1], [vI p1.Next], [v1_2], [v1_3], enc p1.Head]), opt (D 11) (osl NoB (r17 : List UInt8) (ux13 11))] := hM
   exact Zq (v := (vI p2.Version)) hE Za ld (lk rfl f3) ty2 rfl (At.cat (pre := [[vI p2.Number]]) (hM.rawAt (pre := [_])) (cl1 (n := 1) (m := 0) rfl cl0)) fun a hE => ⟨_, _, rfl, hE, rfl, hM0.optKeep rfl⟩
  ·intro a w ux13 D hE hM hD hp
   have f2 : ux13 2 = v1_1 := (hp 0 _ rfl rfl).2
   have f4 : ux13 4 = (vI p2.Version) := (hp 1 _ rfl rfl).2
   have hM0 := hM
   have hM : M (Old w0) w0 w [osl NoB (r5 : List UInt8) u7, raw b3 (cat [[vI p2.Number], [vI p2.Version], enc p2.Nonce, [v2_1], [v2_2], enc p2.Tag]), raw b1 (cat [[v1_1], [vI p1.Next], [v1_2], [v1_3], enc p1.Head]), opt (D 11) (osl NoB (r17 : List UInt8) (ux13 11))] := hM
   exact ZN hE Za ld (lk rfl f2) (lk rfl f4) Tryz.underlying32 ZH (hM.rd hv1_1) hi16.1 fun a hE => ⟨_, _, rfl, hE, rfl, hM0.optKeep rfl⟩
  ·intro a w ux13 D hE hM hD hp
   have f5 : ux13 5 = (ptr (sb v1_1) (so v1_1 + (p2.Version).toNat * 16)) := (hp 0 _ rfl rfl).2
   have hM0 := hM
   have hM : M (Old w0) w0 w [osl NoB (r5 : List UInt8) u7, raw b3 (cat [[vI p2.Number], [vI p2.Version], enc p2.Nonce, [v2_1], [v2_2], enc p2.Tag]), raw b1 (cat [[v1_1], [vI p1.Next], [v1_2], [v1_3], enc p1.Head]), opt (D 11) (osl NoB (r17 : List UInt8) (ux13 11))] := hM
   exact Zm (cs := enc x14) hE Za ld (lk rfl f5) ZH rfl (Xa (hM.rd hv1_1) hi16.2) (Flat.len _) fun a hE => ⟨_, _, rfl, hE, rfl, hM0.optKeep rfl⟩
  ·intro a w ux13 D hE hM hD hp
   have hM0 := hM
   exact Zg hE Za ld rfl (KA) fun a hE => ⟨_, _, rfl, hE, rfl, hM0.optKeep rfl⟩
  ·intro a w ux13 D hE hM hD hp
   have f7 : ux13 7 = (ptr b3 (0 + 2)) := (hp 0 _ rfl rfl).2
   have hM0 := hM
   have hM : M (Old w0) w0 w [osl NoB (r5 : List UInt8) u7, raw b3 (cat [[vI p2.Number], [vI p2.Version], enc p2.Nonce, [v2_1], [v2_2], enc p2.Tag]), raw b1 (cat [[v1_1], [vI p1.Next], [v1_2], [v1_3], enc p1.Head]), opt (D 11) (osl NoB (r17 : List UInt8) (ux13 11))] := hM
   exact Zm (cs := enc p2.Nonce) hE Za ld (lk rfl f7) ZH rfl (At.cat (pre := [[vI p2.Number], [vI p2.Version]]) (hM.rawAt (pre := [_])) (cl1 (n := 1) (m := 1) rfl (cl1 (n := 1) (m := 0) rfl cl0))) (Flat.len _) fun a hE => ⟨_, _, rfl, hE, rfl, hM0.optKeep rfl⟩
  ·intro a w ux13 D hE hM hD hp
   have hM0 := hM
   exact Zd hE Za ld rfl fun a hE => ⟨_, _, rfl, hE, rfl, hM0.optKeep rfl⟩
  ·intro a w ux13 D hE hM hD hp
   have f9 : ux13 9 = v3_1 := (hp 0 _ rfl rfl).2
   have hM0 := hM
   have hM : M (Old w0) w0 w [osl NoB (r5 : List UInt8) u7, raw b3 (cat [[vI p2.Number], [vI p2.Version], enc p2.Nonce, [v2_1], [v2_2], enc p2.Tag]), raw b1 (cat [[v1_1], [vI p1.Next], [v1_2], [v1_3], enc p1.Head]), opt (D 11) (osl NoB (r17 : List UInt8) (ux13 11))] := hM
   exact Z6 hE Za ld (lk rfl f9) Tryz.underlying57 (hM.rd hv3_1) fun a hE => ⟨_, _, rfl, hE, rfl, hM0.optKeep rfl⟩
  ·intro a w ux13 D hE hM hD hp
   have f0 : ux13 0 = v0_1 := (hp 0 _ rfl rfl).2
   have f6 : ux13 6 = (Value.agg (enc x14).toArray) := (hp 1 _ rfl rfl).2
   have f8 : ux13 8 = (Value.agg (enc p2.Nonce).toArray) := (hp 2 _ rfl rfl).2
   have f10 : ux13 10 = (vI (p3.length : Int)) := (hp 3 _ rfl rfl).2
   have hM0 := hM
   have hM : M (Old w0) w0 w [osl NoB (r5 : List UInt8) u7, raw b3 (cat [[vI p2.Number], [vI p2.Version], enc p2.Nonce, [v2_1], [v2_2], enc p2.Tag]), raw b1 (cat [[v1_1], [vI p1.Next], [v1_2], [v1_3], enc p1.Head]), opt (D 11) (osl NoB (r17 : List UInt8) (ux13 11))] := hM
   refine Zs hE Za ld (ZY (ZS (lk rfl f0) (ZS (lk rfl f6) (ZS (lk rfl f8) (ZS (lk rfl f10) YT))))) cb152 (Kr _ p0 v0_1 (hM.rdo hv0_1) x14 p2.Nonce (p3.length : Int) r17 e18) ?_
   rintro _ w a ⟨_, rfl, hFr, hK⟩ hE
   have hM := hM0.add hK hFr
   exact ⟨_, _, rfl, hE, trivial, M.optFill (mk1 := []) (mk2 := []) (f := (fun v => osl NoB (r17 : List UInt8) v)) hM rfl hD⟩
  ·intro a w ux13 D hE hM hD hp
   have d11 := (hp 0 _ rfl rfl).1
   have hM0 := hM
   have hM : M (Old w0) w0 w [osl NoB (r5 : List UInt8) u7, raw b3 (cat [[vI p2.Number], [vI p2.Version], enc p2.Nonce, [v2_1], [v2_2], enc p2.Tag]), raw b1 (cat [[v1_1], [vI p1.Next], [v1_2], [v1_3], enc p1.Head]), opt (D 11) (osl NoB (r17 : List UInt8) (ux13 11))] := hM
   have hM := hM.sure (pre := [_, _, _]) d11
   exact Z6 hE Za ld rfl Tryz.underlying57 (hM.sl (pre := [_, _, _]) noB) fun a hE => ⟨_, _, rfl, hE, rfl, hM0.optKeep rfl⟩
  ·intro a w ux13 D hE hM hD hp
   have hM0 := hM
   exact Zd hE Za ld rfl fun a hE => ⟨_, _, rfl, hE, rfl, hM0.optKeep rfl⟩
  ·intro a w ux13 hE hM hg
   have hM : M (Old w0) w0 w [osl NoB (r5 : List UInt8) u7, raw b3 (cat [[vI p2.Number], [vI p2.Version], enc p2.Nonce, [v2_1], [v2_2], enc p2.Tag]), raw b1 (cat [[v1_1], [vI p1.Next], [v1_2], [v1_3], enc p1.Head]), osl NoB (r17 : List UInt8) (ux13 11)] := hM
   have hE := hE.sub (e' := [(25, (ux13 11)), (26, (vI (r17.length : Int))), (27, vI 0), (0, v0_1), (1, (Value.agg (cat [[v1_1], [vI p1.Next], [v1_2], [v1_3], enc p1.Head]).toArray)), (2, (Value.agg (cat [[vI p2.Number], [vI p2.Version], enc p2.Nonce, [v2_1], [v2_2], enc p2.Tag]).toArray)), (3, v3_1), (5, (ptr b1 0)), (6, (ptr b3 0)), (8, (Value.slice none 0 0)), (9, u7), (12, v3_1), (13, u7)]) ⟨rfl, lk rfl (hg 12 (by decide)), lk rfl (hg 13 (by decide)), rfl, rfl, rfl, rfl, rfl, rfl, rfl, rfl, rfl, rfl, trivial⟩
   refine Zi ?_
   have ht20 := Option.some.inj hl9
   subst ht20
   refine Zl ?_
   have hM := hM.pull (pre := [_, _, _])
   have hM := hM.pull (pre := [_])
   have hM := M.fst (l := [_, _]) hM
   exact ⟨(ux13 11), hE.sub ⟨rfl, rfl, rfl, rfl, trivial⟩, hM⟩
 ·skip
  rintro a w ⟨u11, hE, hM⟩
  obtain ⟨j21, hl22, hF23⟩ := bind_some hF10
  refine ZR (fun a w => ∃ (u24 : Value), Env 41 a [(9, u24)] ∧ M (Old w0) w0 w [osl NoB (j21 : List UInt8) u24]) ?_ ?_
  ·skip
   refine wp_block ?_
   have hM := hM.pull (pre := [_])
   refine ZK (fun (s26 : Int × (List UInt8)) a w => ∃ (u27 : Value), Env 41 a [(9, u27), (25, u11), (26, vI j8.2.1), (27, vI s26.1)] ∧ M (Old w0) w0 w [osl NoB (j8.1 : List UInt8) u11, osl NoB (s26.2 : List UInt8) u27]) hl22 ⟨u7, hE.sub ⟨rfl, rfl, rfl, rfl, trivial⟩, hM⟩ ?_
   rintro s26 a w ⟨u27, hE, hM⟩ o31 hs29 hx30
   unfold Yz at hs29
   refine Zc (Zh hE Za ld rfl rfl rfl fun a hE => Zf (wp_seq ?_))
   refine Zv hE rfl ?_ ?_
   ·intro hb32
    have hs29 := ZA hs29 hb32
    refine wp_skip (Zz (wp_seq (wp_block (Zc (Zd hE Za ld rfl ?_))))); intro a hE
    obtain ⟨x33, e34, hs29⟩ := bind_some hs29
    have hi35 := ZO e34
    refine ZN hE Za ld rfl rfl Tryz.underlying57 ty5 (hM.sl (pre := []) noB) hi35.1 fun a hE => Zq (v := (vB x33)) hE Za ld rfl ty5 rfl (Xa (hM.sl (pre := []) noB) hi35.2) fun a hE => Ze hE Za ld rfl fun a hE => Ze hE Za ld rfl fun a hE => Zf (wp_region_lit (Zd hE Za ld rfl fun a hE => Zd hE Za ld rfl ?_)); intro a hE
    obtain ⟨x36, e37, hs29⟩ := bind_some hs29
    have hi38 := ZO e37
    refine ZN hE Za ld rfl rfl Tryz.underlying57 ty5 (hM.sl (pre := [_]) noB) hi38.1 fun a hE => Zq (v := (vB x36)) hE Za ld rfl ty5 rfl (Xa (hM.sl (pre := [_]) noB) hi38.2) fun a hE => Zd hE Za ld rfl fun a hE => Zh hE Za ld rfl rfl (WJ x36 x33) ?_; intro a hE
    obtain ⟨x39, e40, hs29⟩ := bind_some hs29
    have hi41 := ZO e40
    refine ZN hE Za ld rfl rfl Tryz.underlying57 ty5 (hM.sl (pre := [_]) noB) hi41.1 ?_; intro a hE
    have hM := hM.pull (pre := [_])
    refine TH (i := (s26.1).toNat) (k0 := 0) (seg := [(vB (x36 ^^^ x33))]) (xo := x39) (xn := x36 ^^^ x33) hE hM Za rfl rfl rfl ty5 rfl (Flat.cell (x36 ^^^ x33 : UInt8)) hi41.2 (Qf (m := 1) rfl (by decide)) (Zo rfl) fun w a hM hE => Zi (Ye (Zz (wp_region_lit (Zh hE Za ld rfl rfl rfl fun a hE => Zd hE Za ld rfl fun a hE => Zi (Zl ?_)))))
    have hM := hM.pull (pre := [_])
    exact ⟨_, (Option.some.inj hs29).symm, u27, hE.sub ⟨rfl, rfl, rfl, rfl, trivial⟩, hM⟩
   ·intro hb32
    have hs29 := ZB hs29 hb32
    refine wp_exit (Zp (Zp (Yc ?_)))
    have ht42 := hx30 _ (Option.some.inj hs29).symm
    subst ht42
    refine Zl ?_
    have hM := hM.pull (pre := [_])
    have hM := M.fst (l := [_]) hM
    exact ⟨u27, hE.sub ⟨rfl, trivial⟩, hM⟩
  ·skip
   rintro a w ⟨u24, hE, hM⟩
   refine Zz (Zc (Zd hE Za ld rfl fun a hE => Ze hE Za ld rfl fun a hE => Zf ?_))
   have hr := Option.some.inj hF23
   subst hr
   exact wp_ret (Zy hE rfl (Zu hE rfl) ⟨_, rfl, u24, rfl, hM.outF (Xu Xo), hM.kept⟩)
noncomputable def X6 (p0 : GVault) (p1 : Int) : Option ((List UInt8) × Int) :=
 (WC p0 p1).bind fun r3 => if (r3.2 != 0) = true then (some ([], r3.2)) else ((WB).bind fun r8 => (idx p0.Records r3.1).bind fun x11 => ((Wf r8 p0 x11).bind fun r29 => some (!decide (r29 = x11.Tag)) : Option (Bool)).bind fun j25 => if j25 = true then (some ([], 5)) else ((Y7 r8 p0 x11 x11.Body).bind fun r34 => some (r34, 0)))
theorem Qu (w0 : World) (p0 : GVault) (v0_1 : Value) (hv0_1 : Ro w0 p0.Keys [v0_1]) (v0_2 : Value) (hv0_2 : Ro w0 p0.Records [v0_2]) (v0_3 : Value) (hv0_3 : Ro w0 p0.Events [v0_3]) (p1 : Int) (r : (List UInt8) × Int) (hF : X6 p0 p1 = some r) :
  Calls Tryz.prog 27 [(Value.agg (cat [[v0_1], [vI p0.Next], [v0_2], [v0_3], enc p0.Head]).toArray), vI p1].toArray w0 (fun en w' => ∃ v, en = .returned v ∧ (∃ (y1 : Value), v = (Value.tuple [y1, vI r.2].toArray) ∧ Fr w0 w' [osl NoB (r.1 : List UInt8) y1] ∧ Kept (Old w0) w0 w')) := by
 refine ZD (n := 38) Tryz.func27 rfl rfl (Nat.le_of_ble_eq_true rfl) rfl ?_
 intro a hE
 have hM := M.start w0
 unfold X6 at hF
 refine Zc (ZX (cs := cat [[v0_1], [vI p0.Next], [v0_2], [v0_3], enc p0.Head]) hE hM Za ld rfl rfl fun b1 w a hM hE => Ze hE Za ld rfl fun a hE => Ze hE Za ld rfl fun a hE => Zf (Zc (Zm (cs := cat [[v0_1], [vI p0.Next], [v0_2], [v0_3], enc p0.Head]) hE Za ld rfl Qd rfl (hM.rawAt (pre := [])) (ZC (cl1 (n := 1) (m := 35) rfl (cl1 (n := 1) (m := 34) rfl (cl1 (n := 1) (m := 33) rfl (cl1 (n := 1) (m := 32) rfl (cl1 (n := 32) (m := 0) (Flat.len _) cl0)))))) fun a hE => Zd hE Za ld rfl ?_))); intro a hE
 obtain ⟨r3, e4, hF⟩ := bind_some hF
 refine Zs hE Za ld rfl cb59 (Ji _ p0 v0_1 (hM.rdo hv0_1) v0_2 (hM.rdo hv0_2) v0_3 (hM.rdo hv0_3) p1 r3 e4) ?_
 rintro v w a ⟨rfl, hK⟩ hE
 have hM := hM.keep hK
 refine Zd hE Za ld rfl fun a hE => W2 hE Za ld rfl rfl fun a hE => W2 hE Za ld rfl rfl fun a hE => Ze hE Za ld rfl fun a hE => Ze hE Za ld rfl fun a hE => Zf (wp_seq (Zc (Zd hE Za ld rfl fun a hE => Zh hE Za ld rfl rfl rfl ?_))); intro a hE
 refine Zf ?_
 refine Zv hE rfl ?_ ?_
 ·intro hb5
  have hF := ZA hF hb5
  refine Zc (Zd hE Za ld rfl fun a hE => Ze hE Za ld rfl fun a hE => Ze hE Za ld rfl fun a hE => Zf ?_)
  have hM := M.nilS (α := UInt8) NoB noB hM
  have hr := Option.some.inj hF
  subst hr
  have hM := M.fst (l := [_]) hM
  exact wp_ret (ZE (TQ hE rfl (Zu hE rfl) (Zu hE rfl) ⟨_, rfl, (Value.slice none 0 0), rfl, hM.outF (Xu Xo), hM.kept⟩))
 ·intro hb5
  have hF := ZB hF hb5
  refine wp_skip (Zz (wp_seq ?_))
  obtain ⟨r8, e9, hF⟩ := bind_some hF
  obtain ⟨x11, e12, hF⟩ := bind_some hF
  have hi13 := ZO e12
  obtain ⟨cs14, hs15, hA16⟩ := Vn hv0_2 hi13.2 -- ^
  obtain ⟨u17, u19, rfl, h18, h20⟩ := Y8 hs15 -- ^
  refine VX (n := 38) (hd := [_, _, _, _, _, _, _, _]) (tl := [_]) YN rfl rfl [19, 20, 21, 22, 23, 24, 9, 8] (by decide) (fun D u w => M (Old w0) w0 w ([raw b1 (cat [[v0_1], [vI p0.Next], [v0_2], [v0_3], enc p0.Head])] ++ qL ([mkO 0 (fun v => own NoB (r8 : (Ref Gengine)) [v]), mkO 6 (fun v => VR v (cat [[vI 0], [vI 0], enc (Vector.replicate 16 (0 : UInt8)), [(Value.slice none 0 0)], [(Value.slice none 0 0)], enc (Vector.replicate 32 (0 : UInt8))]))] : Mk) D u) ∧ GOk ([([], fun us v => True), ([], fun us v => v = (ptr b1 (0 + 2))), ([], fun us v => v = v0_2), ([], fun us v => v = (vI r3.1)), ([], fun us v => v = (ptr (sb v0_2) (so v0_2 + (r3.1).toNat * 52))), ([], fun us v => v = (Value.agg (cat [[vI x11.Number], [vI x11.Version], enc x11.Nonce, [u17], [u19], enc x11.Tag]).toArray)), ([], fun us v => True), ([0], fun us v => v = (us.getD 0 undef))] : Gs) D u) hE (fun u => ⟨M.qE (M.qE (M.q0 hM.drew u) emO) emO, Jj⟩) (ZL (Zb ?_ (Zb ?_ (Zb ?_ (Zb ?_ (Zb ?_ (Zb ?_ (Zb ?_ (Zb ?_ ZF))))))))) ?_
  ·intro a w ux7 D hE hI hD hdc hp
   have hM0 := hI.1
   have hM := hI.1
   refine Zs hE Za ld rfl cb60 (KZ _  r8 e9) ?_
   rintro _ w a ⟨_, rfl, hFr, hK⟩ hE
   have hM := hM0.add hK hFr
   exact ⟨_, _, rfl, hE, M.qFill (mk1 := []) (mk2 := [_]) (f := (fun v => own NoB (r8 : (Ref Gengine)) [v])) hM rfl hD, hI.2.put hD rfl ZP trivial⟩
  ·intro a w ux7 D hE hI hD hdc hp
   have hM0 := hI.1
   exact Zg hE Za ld rfl (Ut) fun a hE => ⟨_, _, rfl, hE, M.qKeep hM0 rfl, hI.2.put hD rfl ZP rfl⟩
  ·intro a w ux7 D hE hI hD hdc hp
   have d1 : D 1 = true := hp 0 _ rfl rfl
   have g1 := hI.2 1 d1 _ rfl
   have f1 : ux7 1 = (ptr b1 (0 + 2)) := g1.2
   have hM0 := hI.1
   have hM := hI.1
   exact Zq (v := v0_2) hE Za ld (lk rfl f1) QV rfl (At.cat (pre := [[v0_1], [vI p0.Next]]) (hM.rawAt (pre := [])) (cl1 (n := 1) (m := 1) rfl (cl1 (n := 1) (m := 0) rfl cl0))) fun a hE => ⟨_, _, rfl, hE, M.qKeep hM0 rfl, hI.2.put hD rfl ZP rfl⟩
  ·intro a w ux7 D hE hI hD hdc hp
   have hM0 := hI.1
   exact Zd hE Za ld rfl fun a hE => ⟨_, _, rfl, hE, M.qKeep hM0 rfl, hI.2.put hD rfl ZP rfl⟩
  ·intro a w ux7 D hE hI hD hdc hp
   have d2 : D 2 = true := hp 0 _ rfl rfl
   have g2 := hI.2 2 d2 _ rfl
   have f2 : ux7 2 = v0_2 := g2.2
   have d3 : D 3 = true := hp 1 _ rfl rfl
   have g3 := hI.2 3 d3 _ rfl
   have f3 : ux7 3 = (vI r3.1) := g3.2
   have hM0 := hI.1
   have hM := hI.1
   exact ZN hE Za ld (lk rfl f2) (lk rfl f3) Tryz.underlying33 Wx (hM.rd hv0_2) hi13.1 fun a hE => ⟨_, _, rfl, hE, M.qKeep hM0 rfl, hI.2.put hD rfl ZP rfl⟩
  ·intro a w ux7 D hE hI hD hdc hp
   have d4 : D 4 = true := hp 0 _ rfl rfl
   have g4 := hI.2 4 d4 _ rfl
   have f4 : ux7 4 = (ptr (sb v0_2) (so v0_2 + (r3.1).toNat * 52)) := g4.2
   have hM0 := hI.1
   have hM := hI.1
   exact Zm (cs := cat [[vI x11.Number], [vI x11.Version], enc x11.Nonce, [u17], [u19], enc x11.Tag]) hE Za ld (lk rfl f4) Wx rfl (hM.atk hA16 (Tc hv0_2 hi13.2)) (ZC (cl1 (n := 1) (m := 51) rfl (cl1 (n := 1) (m := 50) rfl (cl1 (n := 16) (m := 34) (Flat.len _) (cl1 (n := 1) (m := 33) rfl (cl1 (n := 1) (m := 32) rfl (cl1 (n := 32) (m := 0) (Flat.len _) cl0))))))) fun a hE => ⟨_, _, rfl, hE, M.qKeep hM0 rfl, hI.2.put hD rfl ZP rfl⟩
  ·intro a w ux7 D hE hI hD hdc hp
   have hM0 := hI.1
   have hM := hI.1
   refine ZI hE hM Za ld Wx ?_; intro b21 w a hM hE
   have hM := hM.pack1 (it := VR _ (cat [[vI 0], [vI 0], enc (Vector.replicate 16 (0 : UInt8)), [(Value.slice none 0 0)], [(Value.slice none 0 0)], enc (Vector.replicate 32 (0 : UInt8))])) (fun w w' fp ⟨b', e, k⟩ hb => ⟨b', e, Xp w w' fp k hb⟩) (fun fp k => ⟨_, rfl, k⟩)
   exact ⟨_, _, rfl, hE, M.qFill (mk1 := [_]) (mk2 := []) (f := fun v => VR v (cat [[vI 0], [vI 0], enc (Vector.replicate 16 (0 : UInt8)), [(Value.slice none 0 0)], [(Value.slice none 0 0)], enc (Vector.replicate 32 (0 : UInt8))])) hM rfl hD, hI.2.put hD rfl ZP trivial⟩
  ·intro a w ux7 D hE hI hD hdc hp
   have d0 : D 0 = true := hp 0 _ rfl rfl
   have g0 := hI.2 0 d0 _ rfl
   have hM0 := hI.1
   exact Ze hE Za ld rfl fun a hE => ⟨_, _, rfl, hE, M.qKeep hM0 rfl, hI.2.put hD rfl (yu d0 ZP) rfl⟩
  ·intro a w ux7 D hE hI hall
   have hM : M (Old w0) w0 w [raw b1 (cat [[v0_1], [vI p0.Next], [v0_2], [v0_3], enc p0.Head]), opt (D 0) (own NoB (r8 : (Ref Gengine)) [(ux7 0)]), opt (D 6) (VR (ux7 6) (cat [[vI 0], [vI 0], enc (Vector.replicate 16 (0 : UInt8)), [(Value.slice none 0 0)], [(Value.slice none 0 0)], enc (Vector.replicate 32 (0 : UInt8))]))] := hI.1
   have d0 : D 0 = true := hall 0 (by decide)
   have d1 : D 1 = true := hall 1 (by decide)
   have d2 : D 2 = true := hall 2 (by decide)
   have d3 : D 3 = true := hall 3 (by decide)
   have d4 : D 4 = true := hall 4 (by decide)
   have d5 : D 5 = true := hall 5 (by decide)
   have d6 : D 6 = true := hall 6 (by decide)
   have d7 : D 7 = true := hall 7 (by decide)
   have f1 : ux7 1 = (ptr b1 (0 + 2)) := (hI.2 1 d1 _ rfl).2
   have f2 : ux7 2 = v0_2 := (hI.2 2 d2 _ rfl).2
   have f3 : ux7 3 = (vI r3.1) := (hI.2 3 d3 _ rfl).2
   have f4 : ux7 4 = (ptr (sb v0_2) (so v0_2 + (r3.1).toNat * 52)) := (hI.2 4 d4 _ rfl).2
   have f5 : ux7 5 = (Value.agg (cat [[vI x11.Number], [vI x11.Version], enc x11.Nonce, [u17], [u19], enc x11.Tag]).toArray) := (hI.2 5 d5 _ rfl).2
   have f7 : ux7 7 = (ux7 0) := (hI.2 7 d7 _ rfl).2
   have hM := hM.sure (pre := [_]) d0
   have hM := (hM.sure (pre := [_, _]) d6).pull
   obtain ⟨_, ⟨b23, f24, _⟩, _⟩ := hM.head
   have hM := hM.pack1 Xp (it := raw b23 (cat [[vI 0], [vI 0], enc (Vector.replicate 16 (0 : UInt8)), [(Value.slice none 0 0)], [(Value.slice none 0 0)], enc (Vector.replicate 32 (0 : UInt8))])) (fun fp ⟨b2, e2, k2⟩ => by rw [f24] at e2; simp [ptr] at e2; subst e2; exact k2)
   have hE := hE.sub (e' := [(19, (ux7 0)), (24, (Value.agg (cat [[vI x11.Number], [vI x11.Version], enc x11.Nonce, [u17], [u19], enc x11.Tag]).toArray)), (9, (ptr b23 0)), (8, (ux7 0)), (0, (Value.agg (cat [[v0_1], [vI p0.Next], [v0_2], [v0_3], enc p0.Head]).toArray)), (1, vI p1), (2, (ptr b1 0)), (4, (Value.slice none 0 0)), (5, vI 0), (6, vI r3.1), (7, vI r3.2), (10, (Value.tuple [vI r3.1, vI r3.2].toArray)), (11, (Value.agg (cat [[v0_1], [vI p0.Next], [v0_2], [v0_3], enc p0.Head]).toArray)), (12, vI p1), (13, (Value.tuple [vI r3.1, vI r3.2].toArray)), (14, vI r3.1), (15, vI r3.2), (16, vI r3.2), (17, (vT (r3.2 != 0)))]) ⟨rfl, lk rfl f5, lk rfl f24, lk rfl f7, rfl, rfl, rfl, rfl, rfl, rfl, rfl, rfl, rfl, rfl, rfl, rfl, rfl, rfl, rfl, trivial⟩
   refine Zt (seg := cat [[vI x11.Number], [vI x11.Version], enc x11.Nonce, [u17], [u19], enc x11.Tag]) (cs' := cat [[vI x11.Number], [vI x11.Version], enc x11.Nonce, [u17], [u19], enc x11.Tag]) hE hM Za rfl rfl rfl Wx (ZC (cl1 (n := 1) (m := 51) rfl (cl1 (n := 1) (m := 50) rfl (cl1 (n := 16) (m := 34) (Flat.len _) (cl1 (n := 1) (m := 33) rfl (cl1 (n := 1) (m := 32) rfl (cl1 (n := 32) (m := 0) (Flat.len _) cl0))))))) (Nat.le_of_eq ((Nat.zero_add _).trans (Eq.trans (ZC (cl1 (n := 1) (m := 51) rfl (cl1 (n := 1) (m := 50) rfl (cl1 (n := 16) (m := 34) (Flat.len _) (cl1 (n := 1) (m := 33) rfl (cl1 (n := 1) (m := 32) rfl (cl1 (n := 32) (m := 0) (Flat.len _) cl0))))))) (Eq.symm (ZC (cl1 (n := 1) (m := 51) rfl (cl1 (n := 1) (m := 50) rfl (cl1 (n := 16) (m := 34) (Flat.len _) (cl1 (n := 1) (m := 33) rfl (cl1 (n := 1) (m := 32) rfl (cl1 (n := 32) (m := 0) (Flat.len _) cl0))))))))))) (WD (cc1 (Flat.cell (x11.Number : Int)) (cc1 (Flat.cell (x11.Version : Int)) (cc1 (Flat.cell _) (cc1 (Rep.cell (hM.rd h18)) (cc1 (Rep.cell (hM.rd h20)) (cc1 (Flat.cell _) cc0))))))) (Zo (Eq.trans (ZC (cl1 (n := 1) (m := 51) rfl (cl1 (n := 1) (m := 50) rfl (cl1 (n := 16) (m := 34) (Flat.len _) (cl1 (n := 1) (m := 33) rfl (cl1 (n := 1) (m := 32) rfl (cl1 (n := 32) (m := 0) (Flat.len _) cl0))))))) (Eq.symm (ZC (cl1 (n := 1) (m := 51) rfl (cl1 (n := 1) (m := 50) rfl (cl1 (n := 16) (m := 34) (Flat.len _) (cl1 (n := 1) (m := 33) rfl (cl1 (n := 1) (m := 32) rfl (cl1 (n := 32) (m := 0) (Flat.len _) cl0)))))))))) fun w a hM hE => Zi (Zz (wp_seq ?_))
   obtain ⟨j25, hl26, hF27⟩ := bind_some hF
   refine ZU (fun a w => Env 38 a [(2, (ptr b1 0)), (8, (ux7 0)), (9, (ptr b23 0)), (31, vT j25)] ∧ M (Old w0) w0 w [raw b23 (cat [[vI x11.Number], [vI x11.Version], enc x11.Nonce, [u17], [u19], enc x11.Tag]), raw b1 (cat [[v0_1], [vI p0.Next], [v0_2], [v0_3], enc p0.Head]), own NoB (r8 : (Ref Gengine)) [(ux7 0)]]) ?_ ?_
   ·skip
    obtain ⟨r29, e30, hl26⟩ := bind_some hl26
    refine Yr (n := 38) (hd := [_, _, _, _, _, _, _]) (tl := []) YN rfl rfl [25, 26, 27, 28, 29, 30, 31] (by decide) (fun w => M (Old w0) w0 w [raw b23 (cat [[vI x11.Number], [vI x11.Version], enc x11.Nonce, [u17], [u19], enc x11.Tag]), raw b1 (cat [[v0_1], [vI p0.Next], [v0_2], [v0_3], enc p0.Head]), own NoB (r8 : (Ref Gengine)) [(ux7 0)]]) (fun j => ([fun v _ => v = (ux7 0), fun v _ => v = (Value.agg (cat [[v0_1], [vI p0.Next], [v0_2], [v0_3], enc p0.Head]).toArray), fun v _ => v = (Value.agg (cat [[vI x11.Number], [vI x11.Version], enc x11.Nonce, [u17], [u19], enc x11.Tag]).toArray), fun v _ => v = (Value.agg (enc r29).toArray), fun v _ => v = (ptr b23 (0 + 20)), fun v _ => v = (Value.agg (enc x11.Tag).toArray), fun v _ => v = (vT (!decide (r29 = x11.Tag)))] : List (Value → World → Prop)).getD j (fun _ _ => True)) (fun _ _ h hk => h.keep hk) (gup (Zk (Zk (Zk (Zk (Zk (Zk (Zk VK)))))))) hE hM.drew (ZL (Zb ?_ (Zb ?_ (Zb ?_ (Zb ?_ (Zb ?_ (Zb ?_ (Zb ?_ ZF)))))))) ?_
    ·exact fun a w ux28 hE hM hp => Zd hE Za ld rfl fun a hE => ⟨Kept.refl _ _, _, _, rfl, hE, rfl⟩
    ·exact fun a w ux28 hE hM hp => Zm (cs := cat [[v0_1], [vI p0.Next], [v0_2], [v0_3], enc p0.Head]) hE Za ld rfl Qd rfl (hM.rawAt (pre := [_])) (ZC (cl1 (n := 1) (m := 35) rfl (cl1 (n := 1) (m := 34) rfl (cl1 (n := 1) (m := 33) rfl (cl1 (n := 1) (m := 32) rfl (cl1 (n := 32) (m := 0) (Flat.len _) cl0)))))) fun a hE => ⟨Kept.refl _ _, _, _, rfl, hE, rfl⟩
    ·exact fun a w ux28 hE hM hp => Zm (cs := cat [[vI x11.Number], [vI x11.Version], enc x11.Nonce, [u17], [u19], enc x11.Tag]) hE Za ld rfl Wx rfl (hM.rawAt (pre := [])) (ZC (cl1 (n := 1) (m := 51) rfl (cl1 (n := 1) (m := 50) rfl (cl1 (n := 16) (m := 34) (Flat.len _) (cl1 (n := 1) (m := 33) rfl (cl1 (n := 1) (m := 32) rfl (cl1 (n := 32) (m := 0) (Flat.len _) cl0))))))) fun a hE => ⟨Kept.refl _ _, _, _, rfl, hE, rfl⟩
    ·intro a w ux28 hE hM hp
     have f0 : ux28 0 = (ux7 0) := hp 0 _ rfl rfl
     have f1 : ux28 1 = (Value.agg (cat [[v0_1], [vI p0.Next], [v0_2], [v0_3], enc p0.Head]).toArray) := hp 1 _ rfl rfl
     have f2 : ux28 2 = (Value.agg (cat [[vI x11.Number], [vI x11.Version], enc x11.Nonce, [u17], [u19], enc x11.Tag]).toArray) := hp 2 _ rfl rfl
     refine Zs hE Za ld (ZY (ZS (lk rfl f0) (ZS (lk rfl f1) (ZS (lk rfl f2) YT)))) cb61 (KM _ r8 (ux7 0) (hM.ro (pre := [_, _]) noB) p0 v0_1 (hM.rdo hv0_1) v0_2 (hM.rdo hv0_2) v0_3 (hM.rdo hv0_3) x11 u17 (hM.rdo h18) u19 (hM.rdo h20) r29 e30) ?_
     rintro v w a ⟨rfl, hK⟩ hE
     exact ⟨hK, _, _, rfl, hE, rfl⟩
    ·exact fun a w ux28 hE hM hp => Zg hE Za ld rfl (J9) fun a hE => ⟨Kept.refl _ _, _, _, rfl, hE, rfl⟩
    ·intro a w ux28 hE hM hp
     have f4 : ux28 4 = (ptr b23 (0 + 20)) := hp 0 _ rfl rfl
     exact Zm (cs := enc x11.Tag) hE Za ld (lk rfl f4) Yu rfl (At.cat (pre := [[vI x11.Number], [vI x11.Version], enc x11.Nonce, [u17], [u19]]) (hM.rawAt (pre := [])) (cl1 (n := 1) (m := 19) rfl (cl1 (n := 1) (m := 18) rfl (cl1 (n := 16) (m := 2) (Flat.len _) (cl1 (n := 1) (m := 1) rfl (cl1 (n := 1) (m := 0) rfl cl0)))))) (Flat.len _) fun a hE => ⟨Kept.refl _ _, _, _, rfl, hE, rfl⟩
    ·intro a w ux28 hE hM hp
     have f3 : ux28 3 = (Value.agg (enc r29).toArray) := hp 0 _ rfl rfl
     have f5 : ux28 5 = (Value.agg (enc x11.Tag).toArray) := hp 1 _ rfl rfl
     exact s_neA hE Za ld (lk rfl f3) (lk rfl f5) (zM Tryz.underlying29 ty5 rfl false rfl (by decide) (AG Tryz.underlying5)) (by decide) (by kernel_rfl) fun a hE => ⟨Kept.refl _ _, _, _, rfl, hE, rfl⟩
    ·intro a w ux28 hE hM hg
     have hE := hE.sub (e' := [(31, (vT (!decide (r29 = x11.Tag)))), (0, (Value.agg (cat [[v0_1], [vI p0.Next], [v0_2], [v0_3], enc p0.Head]).toArray)), (1, vI p1), (2, (ptr b1 0)), (4, (Value.slice none 0 0)), (5, vI 0), (6, vI r3.1), (7, vI r3.2), (8, (ux7 0)), (9, (ptr b23 0)), (10, (Value.tuple [vI r3.1, vI r3.2].toArray)), (11, (Value.agg (cat [[v0_1], [vI p0.Next], [v0_2], [v0_3], enc p0.Head]).toArray)), (12, vI p1), (13, (Value.tuple [vI r3.1, vI r3.2].toArray)), (14, vI r3.1), (15, vI r3.2), (16, vI r3.2), (17, (vT (r3.2 != 0))), (19, (ux7 0)), (24, (Value.agg (cat [[vI x11.Number], [vI x11.Version], enc x11.Nonce, [u17], [u19], enc x11.Tag]).toArray))]) ⟨lk rfl (hg 6 (by decide)), rfl, rfl, rfl, rfl, rfl, rfl, rfl, rfl, rfl, rfl, rfl, rfl, rfl, rfl, rfl, rfl, rfl, rfl, rfl, trivial⟩
     refine Zi ?_
     have ht31 := Option.some.inj hl26
     subst ht31
     refine Zl ?_
     exact ⟨hE.sub ⟨rfl, rfl, rfl, rfl, trivial⟩, hM⟩
   ·skip
    rintro a w ⟨hE, hM⟩
    refine Zv hE rfl ?_ ?_
    ·intro hb32
     have hF27 := ZA hF27 hb32
     refine Zc (Ze hE Za ld rfl fun a hE => Ze hE Za ld rfl fun a hE => Zf ?_)
     have hM := M.nilS (α := UInt8) NoB noB hM
     have hr := Option.some.inj hF27
     subst hr
     have hM := M.fst (l := [_]) hM
     exact wp_ret (ZE (TQ hE rfl (Zu hE rfl) (Zu hE rfl) ⟨_, rfl, (Value.slice none 0 0), rfl, hM.outF (Xu Xo), hM.kept⟩))
    ·intro hb32
     have hF27 := ZB hF27 hb32
     refine wp_skip (Zz (Zc (Zd hE Za ld rfl fun a hE => Zm (cs := cat [[v0_1], [vI p0.Next], [v0_2], [v0_3], enc p0.Head]) hE Za ld rfl Qd rfl (hM.rawAt (pre := [_])) (ZC (cl1 (n := 1) (m := 35) rfl (cl1 (n := 1) (m := 34) rfl (cl1 (n := 1) (m := 33) rfl (cl1 (n := 1) (m := 32) rfl (cl1 (n := 32) (m := 0) (Flat.len _) cl0)))))) fun a hE => Zm (cs := cat [[vI x11.Number], [vI x11.Version], enc x11.Nonce, [u17], [u19], enc x11.Tag]) hE Za ld rfl Wx rfl (hM.rawAt (pre := [])) (ZC (cl1 (n := 1) (m := 51) rfl (cl1 (n := 1) (m := 50) rfl (cl1 (n := 16) (m := 34) (Flat.len _) (cl1 (n := 1) (m := 33) rfl (cl1 (n := 1) (m := 32) rfl (cl1 (n := 32) (m := 0) (Flat.len _) cl0))))))) fun a hE => Zg hE Za ld rfl (QA) fun a hE => Zq (v := u19) hE Za ld rfl Ua rfl (At.cat (pre := [[vI x11.Number], [vI x11.Version], enc x11.Nonce, [u17]]) (hM.rawAt (pre := [])) (cl1 (n := 1) (m := 18) rfl (cl1 (n := 1) (m := 17) rfl (cl1 (n := 16) (m := 1) (Flat.len _) (cl1 (n := 1) (m := 0) rfl cl0))))) ?_))); intro a hE
     obtain ⟨r34, e35, hF27⟩ := bind_some hF27
     refine Zs hE Za ld rfl cb89 (QX _ r8 (ux7 0) (hM.ro (pre := [_, _]) noB) p0 v0_1 (hM.rdo hv0_1) v0_2 (hM.rdo hv0_2) v0_3 (hM.rdo hv0_3) x11 u17 (hM.rdo h18) u19 (hM.rdo h20) x11.Body u19 (hM.rdo h20) r34 e35) ?_
     rintro u36 w a ⟨_, rfl, hFr, hK⟩ hE
     have hM := hM.add hK hFr
     refine Ze hE Za ld rfl fun a hE => Ze hE Za ld rfl fun a hE => Zf ?_
     have hr := Option.some.inj hF27
     subst hr
     have hM := M.fst (l := [_]) hM
     exact wp_ret (TQ hE rfl (Zu hE rfl) (Zu hE rfl) ⟨_, rfl, u36, rfl, hM.outF (Xu Xo), hM.kept⟩)
noncomputable def Ts (p0 : (List UInt8)) (p1 : (List UInt8)) (s6 : Int) : Option (Fl Int (Fl Unit Bool)) :=
 if (decide (s6 < (p0.length : Int))) = true then (((idx p0 s6).bind fun x15 => (idx p1 s6).bind fun x18 => some (x15 != x18) : Option (Bool)).bind fun j11 => if j11 = true then (some (Fl.ex (Fl.ex false))) else (some (Fl.nx (wr (s6 + 1))))) else (some (Fl.ex (Fl.nx ())))
noncomputable def Y9 (p0 : (List UInt8)) (p1 : (List UInt8)) : Option (Bool) :=
 if ((p0.length : Int) != (p1.length : Int)) = true then (some false) else ((ZG (Ts p0 p1) 0 : Option (Fl Unit Bool)).bind fun j2 => j2.el (fun s5 => some true) (fun r => some r))
theorem UO (w0 : World) (p0 : (List UInt8)) (v0_1 : Value) (hv0_1 : Ro w0 p0 [v0_1]) (p1 : (List UInt8)) (v1_1 : Value) (hv1_1 : Ro w0 p1 [v1_1]) (r : Bool) (hF : Y9 p0 p1 = some r) :
  Calls Tryz.prog 28 [v0_1, v1_1].toArray w0 (fun en w' => ∃ v, en = .returned v ∧ (v = (vT r) ∧ Kept (Old w0) w0 w')) := by
 refine ZD (n := 26) Tryz.func28 rfl rfl (Nat.le_of_ble_eq_true rfl) rfl ?_
 intro a hE
 have hM := M.start w0
 unfold Y9 at hF
 refine Zc (Ze hE Za ld rfl fun a hE => Zf (wp_seq (Zc (Zd hE Za ld rfl fun a hE => Z6 hE Za ld rfl Tryz.underlying57 (hM.rd hv0_1) fun a hE => Zd hE Za ld rfl fun a hE => Z6 hE Za ld rfl Tryz.underlying57 (hM.rd hv1_1) fun a hE => Zh hE Za ld rfl rfl rfl fun a hE => Zf ?_))))
 refine Zv hE rfl ?_ ?_
 ·intro hb1
  have hF := ZA hF hb1
  refine Zc (Ze hE Za ld rfl fun a hE => Zf ?_)
  have hr := Option.some.inj hF
  subst hr
  exact wp_ret (ZE (Zy hE rfl (Zu hE rfl) ⟨_, rfl, rfl, hM.kept⟩))
 ·intro hb1
  have hF := ZB hF hb1
  refine wp_skip (Zz (wp_seq (Zc (Ze hE Za ld rfl fun a hE => Zf ?_))))
  obtain ⟨j2, hl3, hF4⟩ := bind_some hF
  refine ZR (fun a w => ∃ s5 : Unit, j2 = Fl.nx s5 ∧ Env 26 a [] ∧ M (Old w0) w0 w []) ?_ ?_
  ·skip
   refine wp_block ?_
   refine ZK (fun (s6 : Int) a w => Env 26 a [(0, v0_1), (1, v1_1), (5, vI s6)] ∧ M (Old w0) w0 w []) hl3 ⟨hE.sub ⟨rfl, rfl, rfl, trivial⟩, hM⟩ ?_
   rintro s6 a w ⟨hE, hM⟩ o9 hs7 hx8
   unfold Ts at hs7
   refine wp_seq (Zc (Zd hE Za ld rfl fun a hE => Zd hE Za ld rfl fun a hE => Z6 hE Za ld rfl Tryz.underlying57 (hM.rd hv0_1) fun a hE => Zh hE Za ld rfl rfl rfl fun a hE => Zf ?_))
   refine Zv hE rfl ?_ ?_
   ·intro hb10
    have hs7 := ZA hs7 hb10
    refine wp_skip (Zz (wp_seq (wp_block ?_)))
    obtain ⟨j11, hl12, hF13⟩ := bind_some hs7
    refine ZU (fun a w => Env 26 a [(0, v0_1), (1, v1_1), (5, vI s6), (25, vT j11)] ∧ M (Old w0) w0 w []) ?_ ?_
    ·skip
     obtain ⟨x15, e16, hl12⟩ := bind_some hl12
     have hi17 := ZO e16
     obtain ⟨x18, e19, hl12⟩ := bind_some hl12
     have hi20 := ZO e19
     refine Yr (n := 26) (hd := [_, _, _, _, _, _, _, _, _]) (tl := []) YN rfl rfl [17, 18, 19, 20, 21, 22, 23, 24, 25] (by decide) (fun w => M (Old w0) w0 w []) (fun j => ([fun v _ => v = v0_1, fun v _ => v = (vI s6), fun v _ => v = (ptr (sb v0_1) (so v0_1 + (s6).toNat * 1)), fun v _ => v = (vB x15), fun v _ => v = v1_1, fun v _ => v = (vI s6), fun v _ => v = (ptr (sb v1_1) (so v1_1 + (s6).toNat * 1)), fun v _ => v = (vB x18), fun v _ => v = (vT (x15 != x18))] : List (Value → World → Prop)).getD j (fun _ _ => True)) (fun _ _ h hk => h.keep hk) (gup (Zk (Zk (Zk (Zk (Zk (Zk (Zk (Zk (Zk VK)))))))))) hE hM.drew (ZL (Zb ?_ (Zb ?_ (Zb ?_ (Zb ?_ (Zb ?_ (Zb ?_ (Zb ?_ (Zb ?_ (Zb ?_ ZF)))))))))) ?_
     ·exact fun a w ux14 hE hM hp => Zd hE Za ld rfl fun a hE => ⟨Kept.refl _ _, _, _, rfl, hE, rfl⟩
     ·exact fun a w ux14 hE hM hp => Zd hE Za ld rfl fun a hE => ⟨Kept.refl _ _, _, _, rfl, hE, rfl⟩
     ·intro a w ux14 hE hM hp
      have f0 : ux14 0 = v0_1 := hp 0 _ rfl rfl
      have f1 : ux14 1 = (vI s6) := hp 1 _ rfl rfl
      exact ZN hE Za ld (lk rfl f0) (lk rfl f1) Tryz.underlying57 ty5 (hM.rd hv0_1) hi17.1 fun a hE => ⟨Kept.refl _ _, _, _, rfl, hE, rfl⟩
     ·intro a w ux14 hE hM hp
      have f2 : ux14 2 = (ptr (sb v0_1) (so v0_1 + (s6).toNat * 1)) := hp 0 _ rfl rfl
      exact Zq (v := (vB x15)) hE Za ld (lk rfl f2) ty5 rfl (Xa (hM.rd hv0_1) hi17.2) fun a hE => ⟨Kept.refl _ _, _, _, rfl, hE, rfl⟩
     ·exact fun a w ux14 hE hM hp => Zd hE Za ld rfl fun a hE => ⟨Kept.refl _ _, _, _, rfl, hE, rfl⟩
     ·exact fun a w ux14 hE hM hp => Zd hE Za ld rfl fun a hE => ⟨Kept.refl _ _, _, _, rfl, hE, rfl⟩
     ·intro a w ux14 hE hM hp
      have f4 : ux14 4 = v1_1 := hp 0 _ rfl rfl
      have f5 : ux14 5 = (vI s6) := hp 1 _ rfl rfl
      exact ZN hE Za ld (lk rfl f4) (lk rfl f5) Tryz.underlying57 ty5 (hM.rd hv1_1) hi20.1 fun a hE => ⟨Kept.refl _ _, _, _, rfl, hE, rfl⟩
     ·intro a w ux14 hE hM hp
      have f6 : ux14 6 = (ptr (sb v1_1) (so v1_1 + (s6).toNat * 1)) := hp 0 _ rfl rfl
      exact Zq (v := (vB x18)) hE Za ld (lk rfl f6) ty5 rfl (Xa (hM.rd hv1_1) hi20.2) fun a hE => ⟨Kept.refl _ _, _, _, rfl, hE, rfl⟩
     ·intro a w ux14 hE hM hp
      have f3 : ux14 3 = (vB x15) := hp 0 _ rfl rfl
      have f7 : ux14 7 = (vB x18) := hp 1 _ rfl rfl
      exact Zh hE Za ld (lk rfl f3) (lk rfl f7) (BJ x15 x18) fun a hE => ⟨Kept.refl _ _, _, _, rfl, hE, rfl⟩
     ·intro a w ux14 hE hM hg
      have hE := hE.sub (e' := [(25, (vT (x15 != x18))), (0, v0_1), (1, v1_1), (5, vI s6), (11, vI s6), (12, v0_1), (13, (vI (p0.length : Int))), (14, (vT (decide (s6 < (p0.length : Int)))))]) ⟨lk rfl (hg 8 (by decide)), rfl, rfl, rfl, rfl, rfl, rfl, rfl, trivial⟩
      refine Zi ?_
      have ht21 := Option.some.inj hl12
      subst ht21
      refine Zl ?_
      exact ⟨hE.sub ⟨rfl, rfl, rfl, rfl, trivial⟩, hM⟩
    ·skip
     rintro a w ⟨hE, hM⟩
     refine Zv hE rfl ?_ ?_
     ·intro hb22
      have hF13 := ZA hF13 hb22
      refine Zc (Ze hE Za ld rfl fun a hE => Zf ?_)
      have ht23 := hx8 _ (Option.some.inj hF13).symm
      subst ht23
      have hr := Option.some.inj hF4
      subst hr
      exact wp_ret (Wl (ZE (ZE (Wl (ZE (ZE (Zy hE rfl (Zu hE rfl) ⟨_, rfl, rfl, hM.kept⟩)))))))
     ·intro hb22
      have hF13 := ZB hF13 hb22
      refine wp_skip (Ye (Zz (wp_region_lit (Zd hE Za ld rfl fun a hE => Zh hE Za ld rfl rfl rfl fun a hE => Ze hE Za ld rfl fun a hE => Zi (Zl ?_)))))
      exact ⟨_, (Option.some.inj hF13).symm, hE.sub ⟨rfl, rfl, rfl, trivial⟩, hM⟩
   ·intro hb10
    have hs7 := ZB hs7 hb10
    refine wp_exit (Zp (Zp (Yc ?_)))
    have ht24 := hx8 _ (Option.some.inj hs7).symm
    subst ht24
    refine Zl ?_
    exact ⟨(), rfl, hE.sub trivial, hM⟩
  ·skip
   rintro a w ⟨s5, ht, hE, hM⟩
   subst ht
   have hF4 := Qo hF4
   refine Zz (Zc (Ze hE Za ld rfl fun a hE => Zf ?_))
   have hr := Option.some.inj hF4
   subst hr
   exact wp_ret (Zy hE rfl (Zu hE rfl) ⟨_, rfl, rfl, hM.kept⟩)
noncomputable def Tq (p0 : (Vector UInt8 16)) (p1 : (Vector UInt8 16)) (s9 : Int) : Option (Fl Int (Fl Unit Bool)) :=
 if (decide (s9 < 16)) = true then (((ZM p0 s9).bind fun x19 => (ZM p1 s9).bind fun x22 => some (x19 != x22) : Option (Bool)).bind fun j14 => if j14 = true then (some (Fl.ex (Fl.ex false))) else (some (Fl.nx (wr (s9 + 1))))) else (some (Fl.ex (Fl.nx ())))
noncomputable def WH (p0 : (Vector UInt8 16)) (p1 : (Vector UInt8 16)) : Option (Bool) :=
 (ZG (Tq p0 p1) 0 : Option (Fl Unit Bool)).bind fun j5 => j5.el (fun s8 => some true) (fun r => some r)
theorem Kx (w0 : World) (p0 : (Vector UInt8 16)) (p1 : (Vector UInt8 16)) (r : Bool) (hF : WH p0 p1 = some r) :
  Calls Tryz.prog 142 [(Value.agg (enc p0).toArray), (Value.agg (enc p1).toArray)].toArray w0 (fun en w' => ∃ v, en = .returned v ∧ (v = (vT r) ∧ Kept (Old w0) w0 w')) := by
 refine ZD (n := 17) Tryz.func142 rfl rfl (Nat.le_of_ble_eq_true rfl) rfl ?_
 intro a hE
 have hM := M.start w0
 unfold WH at hF
 refine Zc (ZX (cs := enc p0) hE hM Za ld rfl rfl fun b1 w a hM hE => ZX (cs := enc p1) hE hM Za ld rfl rfl fun b3 w a hM hE => Ze hE Za ld rfl fun a hE => Zf (wp_seq (Zc (Ze hE Za ld rfl fun a hE => Zf ?_))))
 obtain ⟨j5, hl6, hF7⟩ := bind_some hF
 refine ZR (fun a w => ∃ s8 : Unit, j5 = Fl.nx s8 ∧ Env 17 a [] ∧ M (Old w0) w0 w []) ?_ ?_
 ·skip
  refine wp_block ?_
  refine ZK (fun (s9 : Int) a w => Env 17 a [(2, (ptr b1 0)), (3, (ptr b3 0)), (5, vI s9)] ∧ M (Old w0) w0 w [raw b3 (enc p1), raw b1 (enc p0)]) hl6 ⟨hE.sub ⟨rfl, rfl, rfl, trivial⟩, hM⟩ ?_
  rintro s9 a w ⟨hE, hM⟩ o12 hs10 hx11
  unfold Tq at hs10
  refine wp_seq (Zc (Zd hE Za ld rfl fun a hE => Zh hE Za ld rfl rfl rfl fun a hE => Zf ?_))
  refine Zv hE rfl ?_ ?_
  ·intro hb13
   have hs10 := ZA hs10 hb13
   refine wp_skip (Zz (wp_seq (wp_block ?_)))
   obtain ⟨j14, hl15, hF16⟩ := bind_some hs10
   refine ZU (fun a w => Env 17 a [(2, (ptr b1 0)), (3, (ptr b3 0)), (5, vI s9), (16, vT j14)] ∧ M (Old w0) w0 w [raw b3 (enc p1), raw b1 (enc p0)]) ?_ ?_
   ·skip
    obtain ⟨x19, e20, hl15⟩ := bind_some hl15
    have hi18 := Zj e20
    obtain ⟨x22, e23, hl15⟩ := bind_some hl15
    have hi21 := Zj e23
    refine Yr (n := 17) (hd := [_, _, _, _, _, _, _]) (tl := []) YN rfl rfl [10, 11, 12, 13, 14, 15, 16] (by decide) (fun w => M (Old w0) w0 w [raw b3 (enc p1), raw b1 (enc p0)]) (fun j => ([fun v _ => v = (vI s9), fun v _ => v = (ptr b1 (0 + (s9).toNat * 1)), fun v _ => v = (vB x19), fun v _ => v = (vI s9), fun v _ => v = (ptr b3 (0 + (s9).toNat * 1)), fun v _ => v = (vB x22), fun v _ => v = (vT (x19 != x22))] : List (Value → World → Prop)).getD j (fun _ _ => True)) (fun _ _ h hk => h.keep hk) (gup (Zk (Zk (Zk (Zk (Zk (Zk (Zk VK)))))))) hE hM.drew (ZL (Zb ?_ (Zb ?_ (Zb ?_ (Zb ?_ (Zb ?_ (Zb ?_ (Zb ?_ ZF)))))))) ?_
    ·exact fun a w ux17 hE hM hp => Zd hE Za ld rfl fun a hE => ⟨Kept.refl _ _, _, _, rfl, hE, rfl⟩
    ·intro a w ux17 hE hM hp
     have f0 : ux17 0 = (vI s9) := hp 0 _ rfl rfl
     exact Zn hE Za ld rfl (lk rfl f0) Tryz.underlying70 ty5 hi18.1 fun a hE => ⟨Kept.refl _ _, _, _, rfl, hE, rfl⟩
    ·intro a w ux17 hE hM hp
     have f1 : ux17 1 = (ptr b1 (0 + (s9).toNat * 1)) := hp 0 _ rfl rfl
     exact Zq (v := (vB x19)) hE Za ld (lk rfl f1) ty5 rfl (At.vec (hM.rawAt (pre := [_])) hi18.2) fun a hE => ⟨Kept.refl _ _, _, _, rfl, hE, rfl⟩
    ·exact fun a w ux17 hE hM hp => Zd hE Za ld rfl fun a hE => ⟨Kept.refl _ _, _, _, rfl, hE, rfl⟩
    ·intro a w ux17 hE hM hp
     have f3 : ux17 3 = (vI s9) := hp 0 _ rfl rfl
     exact Zn hE Za ld rfl (lk rfl f3) Tryz.underlying70 ty5 hi21.1 fun a hE => ⟨Kept.refl _ _, _, _, rfl, hE, rfl⟩
    ·intro a w ux17 hE hM hp
     have f4 : ux17 4 = (ptr b3 (0 + (s9).toNat * 1)) := hp 0 _ rfl rfl
     exact Zq (v := (vB x22)) hE Za ld (lk rfl f4) ty5 rfl (At.vec (hM.rawAt (pre := [])) hi21.2) fun a hE => ⟨Kept.refl _ _, _, _, rfl, hE, rfl⟩
    ·intro a w ux17 hE hM hp
     have f2 : ux17 2 = (vB x19) := hp 0 _ rfl rfl
     have f5 : ux17 5 = (vB x22) := hp 1 _ rfl rfl
     exact Zh hE Za ld (lk rfl f2) (lk rfl f5) (BJ x19 x22) fun a hE => ⟨Kept.refl _ _, _, _, rfl, hE, rfl⟩
    ·intro a w ux17 hE hM hg
     have hE := hE.sub (e' := [(16, (vT (x19 != x22))), (2, (ptr b1 0)), (3, (ptr b3 0)), (5, vI s9), (6, vI s9), (7, (vT (decide (s9 < 16))))]) ⟨lk rfl (hg 6 (by decide)), rfl, rfl, rfl, rfl, rfl, trivial⟩
     refine Zi ?_
     have ht24 := Option.some.inj hl15
     subst ht24
     refine Zl ?_
     exact ⟨hE.sub ⟨rfl, rfl, rfl, rfl, trivial⟩, hM⟩
   ·skip
    rintro a w ⟨hE, hM⟩
    refine Zv hE rfl ?_ ?_
    ·intro hb25
     have hF16 := ZA hF16 hb25
     refine Zc (Ze hE Za ld rfl fun a hE => Zf ?_)
     have ht26 := hx11 _ (Option.some.inj hF16).symm
     subst ht26
     have hr := Option.some.inj hF7
     subst hr
     have hM := M.fst (l := []) hM
     exact wp_ret (Wl (ZE (ZE (Wl (ZE (ZE (Zy hE rfl (Zu hE rfl) ⟨_, rfl, rfl, hM.kept⟩)))))))
    ·intro hb25
     have hF16 := ZB hF16 hb25
     refine wp_skip (Ye (Zz (wp_region_lit (Zd hE Za ld rfl fun a hE => Zh hE Za ld rfl rfl rfl fun a hE => Ze hE Za ld rfl fun a hE => Zi (Zl ?_)))))
     exact ⟨_, (Option.some.inj hF16).symm, hE.sub ⟨rfl, rfl, rfl, trivial⟩, hM⟩
  ·intro hb13
   have hs10 := ZB hs10 hb13
   refine wp_exit (Zp (Zp (Yc ?_)))
   have ht27 := hx11 _ (Option.some.inj hs10).symm
   subst ht27
   refine Zl ?_
   have hM := M.fst (l := []) hM
   exact ⟨(), rfl, hE.sub trivial, hM⟩
 ·skip
  rintro a w ⟨s8, ht, hE, hM⟩
  subst ht
  have hF7 := Qo hF7
  refine Zz (Zc (Ze hE Za ld rfl fun a hE => Zf ?_))
  have hr := Option.some.inj hF7
  subst hr
  exact wp_ret (Zy hE rfl (Zu hE rfl) ⟨_, rfl, rfl, hM.kept⟩)
noncomputable def U5 (p0 : (List (Vector UInt8 16))) (p1 : (List (Vector UInt8 16))) (s6 : Int) : Option (Fl Int (Fl Unit Bool)) :=
 if (decide (s6 < (p0.length : Int))) = true then (((idx p0 s6).bind fun x15 => (idx p1 s6).bind fun x18 => (WH x15 x18).bind fun r21 => some (!r21) : Option (Bool)).bind fun j11 => if j11 = true then (some (Fl.ex (Fl.ex false))) else (some (Fl.nx (wr (s6 + 1))))) else (some (Fl.ex (Fl.nx ())))
noncomputable def V9 (p0 : (List (Vector UInt8 16))) (p1 : (List (Vector UInt8 16))) : Option (Bool) :=
 if ((p0.length : Int) != (p1.length : Int)) = true then (some false) else ((ZG (U5 p0 p1) 0 : Option (Fl Unit Bool)).bind fun j2 => j2.el (fun s5 => some true) (fun r => some r))
theorem HY (w0 : World) (p0 : (List (Vector UInt8 16))) (v0_1 : Value) (hv0_1 : Ro w0 p0 [v0_1]) (p1 : (List (Vector UInt8 16))) (v1_1 : Value) (hv1_1 : Ro w0 p1 [v1_1]) (r : Bool) (hF : V9 p0 p1 = some r) :
  Calls Tryz.prog 62 [v0_1, v1_1].toArray w0 (fun en w' => ∃ v, en = .returned v ∧ (v = (vT r) ∧ Kept (Old w0) w0 w')) := by
 refine ZD (n := 27) Tryz.func62 rfl rfl (Nat.le_of_ble_eq_true rfl) rfl ?_
 intro a hE
 have hM := M.start w0
 unfold V9 at hF
 refine Zc (Ze hE Za ld rfl fun a hE => Zf (wp_seq (Zc (Zd hE Za ld rfl fun a hE => Z6 hE Za ld rfl Tryz.underlying32 (hM.rd hv0_1) fun a hE => Zd hE Za ld rfl fun a hE => Z6 hE Za ld rfl Tryz.underlying32 (hM.rd hv1_1) fun a hE => Zh hE Za ld rfl rfl rfl fun a hE => Zf ?_))))
 refine Zv hE rfl ?_ ?_
 ·intro hb1
  have hF := ZA hF hb1
  refine Zc (Ze hE Za ld rfl fun a hE => Zf ?_)
  have hr := Option.some.inj hF
  subst hr
  exact wp_ret (ZE (Zy hE rfl (Zu hE rfl) ⟨_, rfl, rfl, hM.kept⟩))
 ·intro hb1
  have hF := ZB hF hb1
  refine wp_skip (Zz (wp_seq (Zc (Ze hE Za ld rfl fun a hE => Zf ?_))))
  obtain ⟨j2, hl3, hF4⟩ := bind_some hF
  refine ZR (fun a w => ∃ s5 : Unit, j2 = Fl.nx s5 ∧ Env 27 a [] ∧ M (Old w0) w0 w []) ?_ ?_
  ·skip
   refine wp_block ?_
   refine ZK (fun (s6 : Int) a w => Env 27 a [(0, v0_1), (1, v1_1), (5, vI s6)] ∧ M (Old w0) w0 w []) hl3 ⟨hE.sub ⟨rfl, rfl, rfl, trivial⟩, hM⟩ ?_
   rintro s6 a w ⟨hE, hM⟩ o9 hs7 hx8
   unfold U5 at hs7
   refine wp_seq (Zc (Zd hE Za ld rfl fun a hE => Zd hE Za ld rfl fun a hE => Z6 hE Za ld rfl Tryz.underlying32 (hM.rd hv0_1) fun a hE => Zh hE Za ld rfl rfl rfl fun a hE => Zf ?_))
   refine Zv hE rfl ?_ ?_
   ·intro hb10
    have hs7 := ZA hs7 hb10
    refine wp_skip (Zz (wp_seq (wp_block ?_)))
    obtain ⟨j11, hl12, hF13⟩ := bind_some hs7
    refine ZU (fun a w => Env 27 a [(0, v0_1), (1, v1_1), (5, vI s6), (26, vT j11)] ∧ M (Old w0) w0 w []) ?_ ?_
    ·skip
     obtain ⟨x15, e16, hl12⟩ := bind_some hl12
     have hi17 := ZO e16
     obtain ⟨x18, e19, hl12⟩ := bind_some hl12
     have hi20 := ZO e19
     obtain ⟨r21, e22, hl12⟩ := bind_some hl12
     refine Yr (n := 27) (hd := [_, _, _, _, _, _, _, _, _, _]) (tl := []) YN rfl rfl [17, 18, 19, 20, 21, 22, 23, 24, 25, 26] (by decide) (fun w => M (Old w0) w0 w []) (fun j => ([fun v _ => v = v0_1, fun v _ => v = (vI s6), fun v _ => v = (ptr (sb v0_1) (so v0_1 + (s6).toNat * 16)), fun v _ => v = (Value.agg (enc x15).toArray), fun v _ => v = v1_1, fun v _ => v = (vI s6), fun v _ => v = (ptr (sb v1_1) (so v1_1 + (s6).toNat * 16)), fun v _ => v = (Value.agg (enc x18).toArray), fun v _ => v = (vT r21), fun v _ => v = (vT (!r21))] : List (Value → World → Prop)).getD j (fun _ _ => True)) (fun _ _ h hk => h.keep hk) (gup (Zk (Zk (Zk (Zk (Zk (Zk (Zk (Zk (Zk (Zk VK))))))))))) hE hM.drew (ZL (Zb ?_ (Zb ?_ (Zb ?_ (Zb ?_ (Zb ?_ (Zb ?_ (Zb ?_ (Zb ?_ (Zb ?_ (Zb ?_ ZF))))))))))) ?_
     ·exact fun a w ux14 hE hM hp => Zd hE Za ld rfl fun a hE => ⟨Kept.refl _ _, _, _, rfl, hE, rfl⟩
     ·exact fun a w ux14 hE hM hp => Zd hE Za ld rfl fun a hE => ⟨Kept.refl _ _, _, _, rfl, hE, rfl⟩
     ·intro a w ux14 hE hM hp
      have f0 : ux14 0 = v0_1 := hp 0 _ rfl rfl
      have f1 : ux14 1 = (vI s6) := hp 1 _ rfl rfl
      exact ZN hE Za ld (lk rfl f0) (lk rfl f1) Tryz.underlying32 ZH (hM.rd hv0_1) hi17.1 fun a hE => ⟨Kept.refl _ _, _, _, rfl, hE, rfl⟩
     ·intro a w ux14 hE hM hp
      have f2 : ux14 2 = (ptr (sb v0_1) (so v0_1 + (s6).toNat * 16)) := hp 0 _ rfl rfl
      exact Zm (cs := enc x15) hE Za ld (lk rfl f2) ZH rfl (Xa (hM.rd hv0_1) hi17.2) (Flat.len _) fun a hE => ⟨Kept.refl _ _, _, _, rfl, hE, rfl⟩
     ·exact fun a w ux14 hE hM hp => Zd hE Za ld rfl fun a hE => ⟨Kept.refl _ _, _, _, rfl, hE, rfl⟩
     ·exact fun a w ux14 hE hM hp => Zd hE Za ld rfl fun a hE => ⟨Kept.refl _ _, _, _, rfl, hE, rfl⟩
     ·intro a w ux14 hE hM hp
      have f4 : ux14 4 = v1_1 := hp 0 _ rfl rfl
      have f5 : ux14 5 = (vI s6) := hp 1 _ rfl rfl
      exact ZN hE Za ld (lk rfl f4) (lk rfl f5) Tryz.underlying32 ZH (hM.rd hv1_1) hi20.1 fun a hE => ⟨Kept.refl _ _, _, _, rfl, hE, rfl⟩
     ·intro a w ux14 hE hM hp
      have f6 : ux14 6 = (ptr (sb v1_1) (so v1_1 + (s6).toNat * 16)) := hp 0 _ rfl rfl
      exact Zm (cs := enc x18) hE Za ld (lk rfl f6) ZH rfl (Xa (hM.rd hv1_1) hi20.2) (Flat.len _) fun a hE => ⟨Kept.refl _ _, _, _, rfl, hE, rfl⟩
     ·intro a w ux14 hE hM hp
      have f3 : ux14 3 = (Value.agg (enc x15).toArray) := hp 0 _ rfl rfl
      have f7 : ux14 7 = (Value.agg (enc x18).toArray) := hp 1 _ rfl rfl
      refine Zs hE Za ld (ZY (ZS (lk rfl f3) (ZS (lk rfl f7) YT))) cb142 (Kx _ x15 x18 r21 e22) ?_
      rintro v w a ⟨rfl, hK⟩ hE
      exact ⟨hK, _, _, rfl, hE, rfl⟩
     ·intro a w ux14 hE hM hp
      have f8 : ux14 8 = (vT r21) := hp 0 _ rfl rfl
      exact WA hE Za ld (lk rfl f8) fun a hE => ⟨Kept.refl _ _, _, _, rfl, hE, rfl⟩
     ·intro a w ux14 hE hM hg
      have hE := hE.sub (e' := [(26, (vT (!r21))), (0, v0_1), (1, v1_1), (5, vI s6), (11, vI s6), (12, v0_1), (13, (vI (p0.length : Int))), (14, (vT (decide (s6 < (p0.length : Int)))))]) ⟨lk rfl (hg 9 (by decide)), rfl, rfl, rfl, rfl, rfl, rfl, rfl, trivial⟩
      refine Zi ?_
      have ht23 := Option.some.inj hl12
      subst ht23
      refine Zl ?_
      exact ⟨hE.sub ⟨rfl, rfl, rfl, rfl, trivial⟩, hM⟩
    ·skip
     rintro a w ⟨hE, hM⟩
     refine Zv hE rfl ?_ ?_
     ·intro hb24
      have hF13 := ZA hF13 hb24
      refine Zc (Ze hE Za ld rfl fun a hE => Zf ?_)
      have ht25 := hx8 _ (Option.some.inj hF13).symm
      subst ht25
      have hr := Option.some.inj hF4
      subst hr
      exact wp_ret (Wl (ZE (ZE (Wl (ZE (ZE (Zy hE rfl (Zu hE rfl) ⟨_, rfl, rfl, hM.kept⟩)))))))
     ·intro hb24
      have hF13 := ZB hF13 hb24
      refine wp_skip (Ye (Zz (wp_region_lit (Zd hE Za ld rfl fun a hE => Zh hE Za ld rfl rfl rfl fun a hE => Ze hE Za ld rfl fun a hE => Zi (Zl ?_)))))
      exact ⟨_, (Option.some.inj hF13).symm, hE.sub ⟨rfl, rfl, rfl, trivial⟩, hM⟩
   ·intro hb10
    have hs7 := ZB hs7 hb10
    refine wp_exit (Zp (Zp (Yc ?_)))
    have ht26 := hx8 _ (Option.some.inj hs7).symm
    subst ht26
    refine Zl ?_
    exact ⟨(), rfl, hE.sub trivial, hM⟩
  ·skip
   rintro a w ⟨s5, ht, hE, hM⟩
   subst ht
   have hF4 := Qo hF4
   refine Zz (Zc (Ze hE Za ld rfl fun a hE => Zf ?_))
   have hr := Option.some.inj hF4
   subst hr
   exact wp_ret (Zy hE rfl (Zu hE rfl) ⟨_, rfl, rfl, hM.kept⟩)
noncomputable def U0 (p0 : (Vector UInt8 32)) (p1 : (Vector UInt8 32)) (s9 : Int) : Option (Fl Int (Fl Unit Bool)) :=
 if (decide (s9 < 32)) = true then (((ZM p0 s9).bind fun x19 => (ZM p1 s9).bind fun x22 => some (x19 != x22) : Option (Bool)).bind fun j14 => if j14 = true then (some (Fl.ex (Fl.ex false))) else (some (Fl.nx (wr (s9 + 1))))) else (some (Fl.ex (Fl.nx ())))
noncomputable def Wa (p0 : (Vector UInt8 32)) (p1 : (Vector UInt8 32)) : Option (Bool) :=
 (ZG (U0 p0 p1) 0 : Option (Fl Unit Bool)).bind fun j5 => j5.el (fun s8 => some true) (fun r => some r)
theorem T4 (w0 : World) (p0 : (Vector UInt8 32)) (p1 : (Vector UInt8 32)) (r : Bool) (hF : Wa p0 p1 = some r) :
  Calls Tryz.prog 16 [(Value.agg (enc p0).toArray), (Value.agg (enc p1).toArray)].toArray w0 (fun en w' => ∃ v, en = .returned v ∧ (v = (vT r) ∧ Kept (Old w0) w0 w')) := by
 refine ZD (n := 17) Tryz.func16 rfl rfl (Nat.le_of_ble_eq_true rfl) rfl ?_
 intro a hE
 have hM := M.start w0
 unfold Wa at hF
 refine Zc (ZX (cs := enc p0) hE hM Za ld rfl rfl fun b1 w a hM hE => ZX (cs := enc p1) hE hM Za ld rfl rfl fun b3 w a hM hE => Ze hE Za ld rfl fun a hE => Zf (wp_seq (Zc (Ze hE Za ld rfl fun a hE => Zf ?_))))
 obtain ⟨j5, hl6, hF7⟩ := bind_some hF
 refine ZR (fun a w => ∃ s8 : Unit, j5 = Fl.nx s8 ∧ Env 17 a [] ∧ M (Old w0) w0 w []) ?_ ?_
 ·skip
  refine wp_block ?_
  refine ZK (fun (s9 : Int) a w => Env 17 a [(2, (ptr b1 0)), (3, (ptr b3 0)), (5, vI s9)] ∧ M (Old w0) w0 w [raw b3 (enc p1), raw b1 (enc p0)]) hl6 ⟨hE.sub ⟨rfl, rfl, rfl, trivial⟩, hM⟩ ?_
  rintro s9 a w ⟨hE, hM⟩ o12 hs10 hx11
  unfold U0 at hs10
  refine wp_seq (Zc (Zd hE Za ld rfl fun a hE => Zh hE Za ld rfl rfl rfl fun a hE => Zf ?_))
  refine Zv hE rfl ?_ ?_
  ·intro hb13
   have hs10 := ZA hs10 hb13
   refine wp_skip (Zz (wp_seq (wp_block ?_)))
   obtain ⟨j14, hl15, hF16⟩ := bind_some hs10
   refine ZU (fun a w => Env 17 a [(2, (ptr b1 0)), (3, (ptr b3 0)), (5, vI s9), (16, vT j14)] ∧ M (Old w0) w0 w [raw b3 (enc p1), raw b1 (enc p0)]) ?_ ?_
   ·skip
    obtain ⟨x19, e20, hl15⟩ := bind_some hl15
    have hi18 := Zj e20
    obtain ⟨x22, e23, hl15⟩ := bind_some hl15
    have hi21 := Zj e23
    refine Yr (n := 17) (hd := [_, _, _, _, _, _, _]) (tl := []) YN rfl rfl [10, 11, 12, 13, 14, 15, 16] (by decide) (fun w => M (Old w0) w0 w [raw b3 (enc p1), raw b1 (enc p0)]) (fun j => ([fun v _ => v = (vI s9), fun v _ => v = (ptr b1 (0 + (s9).toNat * 1)), fun v _ => v = (vB x19), fun v _ => v = (vI s9), fun v _ => v = (ptr b3 (0 + (s9).toNat * 1)), fun v _ => v = (vB x22), fun v _ => v = (vT (x19 != x22))] : List (Value → World → Prop)).getD j (fun _ _ => True)) (fun _ _ h hk => h.keep hk) (gup (Zk (Zk (Zk (Zk (Zk (Zk (Zk VK)))))))) hE hM.drew (ZL (Zb ?_ (Zb ?_ (Zb ?_ (Zb ?_ (Zb ?_ (Zb ?_ (Zb ?_ ZF)))))))) ?_
    ·exact fun a w ux17 hE hM hp => Zd hE Za ld rfl fun a hE => ⟨Kept.refl _ _, _, _, rfl, hE, rfl⟩
    ·intro a w ux17 hE hM hp
     have f0 : ux17 0 = (vI s9) := hp 0 _ rfl rfl
     exact Zn hE Za ld rfl (lk rfl f0) Tryz.underlying29 ty5 hi18.1 fun a hE => ⟨Kept.refl _ _, _, _, rfl, hE, rfl⟩
    ·intro a w ux17 hE hM hp
     have f1 : ux17 1 = (ptr b1 (0 + (s9).toNat * 1)) := hp 0 _ rfl rfl
     exact Zq (v := (vB x19)) hE Za ld (lk rfl f1) ty5 rfl (At.vec (hM.rawAt (pre := [_])) hi18.2) fun a hE => ⟨Kept.refl _ _, _, _, rfl, hE, rfl⟩
    ·exact fun a w ux17 hE hM hp => Zd hE Za ld rfl fun a hE => ⟨Kept.refl _ _, _, _, rfl, hE, rfl⟩
    ·intro a w ux17 hE hM hp
     have f3 : ux17 3 = (vI s9) := hp 0 _ rfl rfl
     exact Zn hE Za ld rfl (lk rfl f3) Tryz.underlying29 ty5 hi21.1 fun a hE => ⟨Kept.refl _ _, _, _, rfl, hE, rfl⟩
    ·intro a w ux17 hE hM hp
     have f4 : ux17 4 = (ptr b3 (0 + (s9).toNat * 1)) := hp 0 _ rfl rfl
     exact Zq (v := (vB x22)) hE Za ld (lk rfl f4) ty5 rfl (At.vec (hM.rawAt (pre := [])) hi21.2) fun a hE => ⟨Kept.refl _ _, _, _, rfl, hE, rfl⟩
    ·intro a w ux17 hE hM hp
     have f2 : ux17 2 = (vB x19) := hp 0 _ rfl rfl
     have f5 : ux17 5 = (vB x22) := hp 1 _ rfl rfl
     exact Zh hE Za ld (lk rfl f2) (lk rfl f5) (BJ x19 x22) fun a hE => ⟨Kept.refl _ _, _, _, rfl, hE, rfl⟩
    ·intro a w ux17 hE hM hg
     have hE := hE.sub (e' := [(16, (vT (x19 != x22))), (2, (ptr b1 0)), (3, (ptr b3 0)), (5, vI s9), (6, vI s9), (7, (vT (decide (s9 < 32))))]) ⟨lk rfl (hg 6 (by decide)), rfl, rfl, rfl, rfl, rfl, trivial⟩
     refine Zi ?_
     have ht24 := Option.some.inj hl15
     subst ht24
     refine Zl ?_
     exact ⟨hE.sub ⟨rfl, rfl, rfl, rfl, trivial⟩, hM⟩
   ·skip
    rintro a w ⟨hE, hM⟩
    refine Zv hE rfl ?_ ?_
    ·intro hb25
     have hF16 := ZA hF16 hb25
     refine Zc (Ze hE Za ld rfl fun a hE => Zf ?_)
     have ht26 := hx11 _ (Option.some.inj hF16).symm
     subst ht26
     have hr := Option.some.inj hF7
     subst hr
     have hM := M.fst (l := []) hM
     exact wp_ret (Wl (ZE (ZE (Wl (ZE (ZE (Zy hE rfl (Zu hE rfl) ⟨_, rfl, rfl, hM.kept⟩)))))))
    ·intro hb25
     have hF16 := ZB hF16 hb25
     refine wp_skip (Ye (Zz (wp_region_lit (Zd hE Za ld rfl fun a hE => Zh hE Za ld rfl rfl rfl fun a hE => Ze hE Za ld rfl fun a hE => Zi (Zl ?_)))))
     exact ⟨_, (Option.some.inj hF16).symm, hE.sub ⟨rfl, rfl, rfl, trivial⟩, hM⟩
  ·intro hb13
   have hs10 := ZB hs10 hb13
   refine wp_exit (Zp (Zp (Yc ?_)))
   have ht27 := hx11 _ (Option.some.inj hs10).symm
   subst ht27
   refine Zl ?_
   have hM := M.fst (l := []) hM
   exact ⟨(), rfl, hE.sub trivial, hM⟩
 ·skip
  rintro a w ⟨s8, ht, hE, hM⟩
  subst ht
  have hF7 := Qo hF7
  refine Zz (Zc (Ze hE Za ld rfl fun a hE => Zf ?_))
  have hr := Option.some.inj hF7
  subst hr
  exact wp_ret (Zy hE rfl (Zu hE rfl) ⟨_, rfl, rfl, hM.kept⟩)
noncomputable def W3 (p0 : GRecord) (p1 : GRecord) : Option (Bool) :=
 if (p0.Number != p1.Number) = true then (some false) else (if (p0.Version != p1.Version) = true then (some false) else ((WH p0.Nonce p1.Nonce).bind fun r7 => if (!r7) = true then (some false) else ((Y9 p0.Label p1.Label).bind fun r10 => if (!r10) = true then (some false) else ((Y9 p0.Body p1.Body).bind fun r13 => if (!r13) = true then (some false) else ((Wa p0.Tag p1.Tag).bind fun r16 => if (!r16) = true then (some false) else (some true))))))
theorem HS (w0 : World) (p0 : GRecord) (v0_1 : Value) (hv0_1 : Ro w0 p0.Label [v0_1]) (v0_2 : Value) (hv0_2 : Ro w0 p0.Body [v0_2]) (p1 : GRecord) (v1_1 : Value) (hv1_1 : Ro w0 p1.Label [v1_1]) (v1_2 : Value) (hv1_2 : Ro w0 p1.Body [v1_2]) (r : Bool) (hF : W3 p0 p1 = some r) :
  Calls Tryz.prog 143 [(Value.agg (cat [[vI p0.Number], [vI p0.Version], enc p0.Nonce, [v0_1], [v0_2], enc p0.Tag]).toArray), (Value.agg (cat [[vI p1.Number], [vI p1.Version], enc p1.Nonce, [v1_1], [v1_2], enc p1.Tag]).toArray)].toArray w0 (fun en w' => ∃ v, en = .returned v ∧ (v = (vT r) ∧ Kept (Old w0) w0 w')) := by
 refine ZD (n := 39) Tryz.func143 rfl rfl (Nat.le_of_ble_eq_true rfl) rfl ?_
 intro a hE
 have hM := M.start w0
 unfold W3 at hF
 refine Zc (ZX (cs := cat [[vI p0.Number], [vI p0.Version], enc p0.Nonce, [v0_1], [v0_2], enc p0.Tag]) hE hM Za ld rfl rfl fun b1 w a hM hE => ZX (cs := cat [[vI p1.Number], [vI p1.Version], enc p1.Nonce, [v1_1], [v1_2], enc p1.Tag]) hE hM Za ld rfl rfl fun b3 w a hM hE => Ze hE Za ld rfl fun a hE => Zf (wp_seq (Zc (Zg hE Za ld rfl (Td) fun a hE => Zq (v := (vI p0.Number)) hE Za ld rfl ty2 rfl (At.cat (pre := []) (hM.rawAt (pre := [_])) cl0) fun a hE => Zg hE Za ld rfl (Td) fun a hE => Zq (v := (vI p1.Number)) hE Za ld rfl ty2 rfl (At.cat (pre := []) (hM.rawAt (pre := [])) cl0) ?_)))); intro a hE
 refine Zh hE Za ld rfl rfl rfl fun a hE => Zf ?_
 refine Zv hE rfl ?_ ?_
 ·intro hb5
  have hF := ZA hF hb5
  refine Zc (Ze hE Za ld rfl fun a hE => Zf ?_)
  have hr := Option.some.inj hF
  subst hr
  have hM := M.fst (l := []) hM
  exact wp_ret (ZE (Zy hE rfl (Zu hE rfl) ⟨_, rfl, rfl, hM.kept⟩))
 ·intro hb5
  have hF := ZB hF hb5
  refine wp_skip (Zz (wp_seq (Zc (Zg hE Za ld rfl (TO) fun a hE => Zq (v := (vI p0.Version)) hE Za ld rfl ty2 rfl (At.cat (pre := [[vI p0.Number]]) (hM.rawAt (pre := [_])) (cl1 (n := 1) (m := 0) rfl cl0)) fun a hE => Zg hE Za ld rfl (TO) fun a hE => Zq (v := (vI p1.Version)) hE Za ld rfl ty2 rfl (At.cat (pre := [[vI p1.Number]]) (hM.rawAt (pre := [])) (cl1 (n := 1) (m := 0) rfl cl0)) fun a hE => Zh hE Za ld rfl rfl rfl fun a hE => Zf ?_))))
  refine Zv hE rfl ?_ ?_
  ·intro hb6
   have hF := ZA hF hb6
   refine Zc (Ze hE Za ld rfl fun a hE => Zf ?_)
   have hr := Option.some.inj hF
   subst hr
   have hM := M.fst (l := []) hM
   exact wp_ret (ZE (Zy hE rfl (Zu hE rfl) ⟨_, rfl, rfl, hM.kept⟩))
  ·intro hb6
   have hF := ZB hF hb6
   refine wp_skip (Zz (wp_seq (Zc (Zg hE Za ld rfl (KA) fun a hE => Zm (cs := enc p0.Nonce) hE Za ld rfl ZH rfl (At.cat (pre := [[vI p0.Number], [vI p0.Version]]) (hM.rawAt (pre := [_])) (cl1 (n := 1) (m := 1) rfl (cl1 (n := 1) (m := 0) rfl cl0))) (Flat.len _) fun a hE => Zg hE Za ld rfl (KA) fun a hE => Zm (cs := enc p1.Nonce) hE Za ld rfl ZH rfl (At.cat (pre := [[vI p1.Number], [vI p1.Version]]) (hM.rawAt (pre := [])) (cl1 (n := 1) (m := 1) rfl (cl1 (n := 1) (m := 0) rfl cl0))) (Flat.len _) ?_)))); intro a hE
   obtain ⟨r7, e8, hF⟩ := bind_some hF
   refine Zs hE Za ld rfl cb142 (Kx _ p0.Nonce p1.Nonce r7 e8) ?_
   rintro v w a ⟨rfl, hK⟩ hE
   have hM := hM.keep hK
   refine WA hE Za ld rfl fun a hE => Zf ?_
   refine Zv hE rfl ?_ ?_
   ·intro hb9
    have hF := ZA hF hb9
    refine Zc (Ze hE Za ld rfl fun a hE => Zf ?_)
    have hr := Option.some.inj hF
    subst hr
    have hM := M.fst (l := []) hM
    exact wp_ret (ZE (Zy hE rfl (Zu hE rfl) ⟨_, rfl, rfl, hM.kept⟩))
   ·intro hb9
    have hF := ZB hF hb9
    refine wp_skip (Zz (wp_seq (Zc (Zg hE Za ld rfl (Qn) fun a hE => Zq (v := v0_1) hE Za ld rfl Ua rfl (At.cat (pre := [[vI p0.Number], [vI p0.Version], enc p0.Nonce]) (hM.rawAt (pre := [_])) (cl1 (n := 1) (m := 17) rfl (cl1 (n := 1) (m := 16) rfl (cl1 (n := 16) (m := 0) (Flat.len _) cl0)))) fun a hE => Zg hE Za ld rfl (Qn) fun a hE => Zq (v := v1_1) hE Za ld rfl Ua rfl (At.cat (pre := [[vI p1.Number], [vI p1.Version], enc p1.Nonce]) (hM.rawAt (pre := [])) (cl1 (n := 1) (m := 17) rfl (cl1 (n := 1) (m := 16) rfl (cl1 (n := 16) (m := 0) (Flat.len _) cl0)))) ?_)))); intro a hE
    obtain ⟨r10, e11, hF⟩ := bind_some hF
    refine Zs hE Za ld rfl cb28 (UO _ p0.Label v0_1 (hM.rdo hv0_1) p1.Label v1_1 (hM.rdo hv1_1) r10 e11) ?_
    rintro v w a ⟨rfl, hK⟩ hE
    have hM := hM.keep hK
    refine WA hE Za ld rfl fun a hE => Zf ?_
    refine Zv hE rfl ?_ ?_
    ·intro hb12
     have hF := ZA hF hb12
     refine Zc (Ze hE Za ld rfl fun a hE => Zf ?_)
     have hr := Option.some.inj hF
     subst hr
     have hM := M.fst (l := []) hM
     exact wp_ret (ZE (Zy hE rfl (Zu hE rfl) ⟨_, rfl, rfl, hM.kept⟩))
    ·intro hb12
     have hF := ZB hF hb12
     refine wp_skip (Zz (wp_seq (Zc (Zg hE Za ld rfl (QA) fun a hE => Zq (v := v0_2) hE Za ld rfl Ua rfl (At.cat (pre := [[vI p0.Number], [vI p0.Version], enc p0.Nonce, [v0_1]]) (hM.rawAt (pre := [_])) (cl1 (n := 1) (m := 18) rfl (cl1 (n := 1) (m := 17) rfl (cl1 (n := 16) (m := 1) (Flat.len _) (cl1 (n := 1) (m := 0) rfl cl0))))) fun a hE => Zg hE Za ld rfl (QA) fun a hE => Zq (v := v1_2) hE Za ld rfl Ua rfl (At.cat (pre := [[vI p1.Number], [vI p1.Version], enc p1.Nonce, [v1_1]]) (hM.rawAt (pre := [])) (cl1 (n := 1) (m := 18) rfl (cl1 (n := 1) (m := 17) rfl (cl1 (n := 16) (m := 1) (Flat.len _) (cl1 (n := 1) (m := 0) rfl cl0))))) ?_)))); intro a hE
     obtain ⟨r13, e14, hF⟩ := bind_some hF
     refine Zs hE Za ld rfl cb28 (UO _ p0.Body v0_2 (hM.rdo hv0_2) p1.Body v1_2 (hM.rdo hv1_2) r13 e14) ?_
     rintro v w a ⟨rfl, hK⟩ hE
     have hM := hM.keep hK
     refine WA hE Za ld rfl fun a hE => Zf ?_
     refine Zv hE rfl ?_ ?_
     ·intro hb15
      have hF := ZA hF hb15
      refine Zc (Ze hE Za ld rfl fun a hE => Zf ?_)
      have hr := Option.some.inj hF
      subst hr
      have hM := M.fst (l := []) hM
      exact wp_ret (ZE (Zy hE rfl (Zu hE rfl) ⟨_, rfl, rfl, hM.kept⟩))
     ·intro hb15
      have hF := ZB hF hb15
      refine wp_skip (Zz (wp_seq (Zc (Zg hE Za ld rfl (J9) fun a hE => Zm (cs := enc p0.Tag) hE Za ld rfl Yu rfl (At.cat (pre := [[vI p0.Number], [vI p0.Version], enc p0.Nonce, [v0_1], [v0_2]]) (hM.rawAt (pre := [_])) (cl1 (n := 1) (m := 19) rfl (cl1 (n := 1) (m := 18) rfl (cl1 (n := 16) (m := 2) (Flat.len _) (cl1 (n := 1) (m := 1) rfl (cl1 (n := 1) (m := 0) rfl cl0)))))) (Flat.len _) fun a hE => Zg hE Za ld rfl (J9) fun a hE => Zm (cs := enc p1.Tag) hE Za ld rfl Yu rfl (At.cat (pre := [[vI p1.Number], [vI p1.Version], enc p1.Nonce, [v1_1], [v1_2]]) (hM.rawAt (pre := [])) (cl1 (n := 1) (m := 19) rfl (cl1 (n := 1) (m := 18) rfl (cl1 (n := 16) (m := 2) (Flat.len _) (cl1 (n := 1) (m := 1) rfl (cl1 (n := 1) (m := 0) rfl cl0)))))) (Flat.len _) ?_)))); intro a hE
      obtain ⟨r16, e17, hF⟩ := bind_some hF
      refine Zs hE Za ld rfl cb16 (T4 _ p0.Tag p1.Tag r16 e17) ?_
      rintro v w a ⟨rfl, hK⟩ hE
      have hM := hM.keep hK
      refine WA hE Za ld rfl fun a hE => Zf ?_
      refine Zv hE rfl ?_ ?_
      ·intro hb18
       have hF := ZA hF hb18
       refine Zc (Ze hE Za ld rfl fun a hE => Zf ?_)
       have hr := Option.some.inj hF
       subst hr
       have hM := M.fst (l := []) hM
       exact wp_ret (ZE (Zy hE rfl (Zu hE rfl) ⟨_, rfl, rfl, hM.kept⟩))
      ·intro hb18
       have hF := ZB hF hb18
       refine wp_skip (Zz (Zc (Ze hE Za ld rfl fun a hE => Zf ?_)))
       have hr := Option.some.inj hF
       subst hr
       have hM := M.fst (l := []) hM
       exact wp_ret (Zy hE rfl (Zu hE rfl) ⟨_, rfl, rfl, hM.kept⟩)
noncomputable def UA (p0 : (List GRecord)) (p1 : (List GRecord)) (s6 : Int) : Option (Fl Int (Fl Unit Bool)) :=
 if (decide (s6 < (p0.length : Int))) = true then (((idx p0 s6).bind fun x15 => (idx p1 s6).bind fun x25 => (W3 x15 x25).bind fun r35 => some (!r35) : Option (Bool)).bind fun j11 => if j11 = true then (some (Fl.ex (Fl.ex false))) else (some (Fl.nx (wr (s6 + 1))))) else (some (Fl.ex (Fl.nx ())))
noncomputable def VP (p0 : (List GRecord)) (p1 : (List GRecord)) : Option (Bool) :=
 if ((p0.length : Int) != (p1.length : Int)) = true then (some false) else ((ZG (UA p0 p1) 0 : Option (Fl Unit Bool)).bind fun j2 => j2.el (fun s5 => some true) (fun r => some r))
theorem Hi (w0 : World) (p0 : (List GRecord)) (v0_1 : Value) (hv0_1 : Ro w0 p0 [v0_1]) (p1 : (List GRecord)) (v1_1 : Value) (hv1_1 : Ro w0 p1 [v1_1]) (r : Bool) (hF : VP p0 p1 = some r) :
  Calls Tryz.prog 63 [v0_1, v1_1].toArray w0 (fun en w' => ∃ v, en = .returned v ∧ (v = (vT r) ∧ Kept (Old w0) w0 w')) := by
 refine ZD (n := 27) Tryz.func63 rfl rfl (Nat.le_of_ble_eq_true rfl) rfl ?_
 intro a hE
 have hM := M.start w0
 unfold VP at hF
 refine Zc (Ze hE Za ld rfl fun a hE => Zf (wp_seq (Zc (Zd hE Za ld rfl fun a hE => Z6 hE Za ld rfl Tryz.underlying33 (hM.rd hv0_1) fun a hE => Zd hE Za ld rfl fun a hE => Z6 hE Za ld rfl Tryz.underlying33 (hM.rd hv1_1) fun a hE => Zh hE Za ld rfl rfl rfl fun a hE => Zf ?_))))
 refine Zv hE rfl ?_ ?_
 ·intro hb1
  have hF := ZA hF hb1
  refine Zc (Ze hE Za ld rfl fun a hE => Zf ?_)
  have hr := Option.some.inj hF
  subst hr
  exact wp_ret (ZE (Zy hE rfl (Zu hE rfl) ⟨_, rfl, rfl, hM.kept⟩))
 ·intro hb1
  have hF := ZB hF hb1
  refine wp_skip (Zz (wp_seq (Zc (Ze hE Za ld rfl fun a hE => Zf ?_))))
  obtain ⟨j2, hl3, hF4⟩ := bind_some hF
  refine ZR (fun a w => ∃ s5 : Unit, j2 = Fl.nx s5 ∧ Env 27 a [] ∧ M (Old w0) w0 w []) ?_ ?_
  ·skip
   refine wp_block ?_
   refine ZK (fun (s6 : Int) a w => Env 27 a [(0, v0_1), (1, v1_1), (5, vI s6)] ∧ M (Old w0) w0 w []) hl3 ⟨hE.sub ⟨rfl, rfl, rfl, trivial⟩, hM⟩ ?_
   rintro s6 a w ⟨hE, hM⟩ o9 hs7 hx8
   unfold UA at hs7
   refine wp_seq (Zc (Zd hE Za ld rfl fun a hE => Zd hE Za ld rfl fun a hE => Z6 hE Za ld rfl Tryz.underlying33 (hM.rd hv0_1) fun a hE => Zh hE Za ld rfl rfl rfl fun a hE => Zf ?_))
   refine Zv hE rfl ?_ ?_
   ·intro hb10
    have hs7 := ZA hs7 hb10
    refine wp_skip (Zz (wp_seq (wp_block ?_)))
    obtain ⟨j11, hl12, hF13⟩ := bind_some hs7
    refine ZU (fun a w => Env 27 a [(0, v0_1), (1, v1_1), (5, vI s6), (26, vT j11)] ∧ M (Old w0) w0 w []) ?_ ?_
    ·skip
     obtain ⟨x15, e16, hl12⟩ := bind_some hl12
     have hi17 := ZO e16
     obtain ⟨cs18, hs19, hA20⟩ := Vn hv0_1 hi17.2 -- ^
     obtain ⟨u21, u23, rfl, h22, h24⟩ := Y8 hs19 -- ^
     obtain ⟨x25, e26, hl12⟩ := bind_some hl12
     have hi27 := ZO e26
     obtain ⟨cs28, hs29, hA30⟩ := Vn hv1_1 hi27.2 -- ^
     obtain ⟨u31, u33, rfl, h32, h34⟩ := Y8 hs29 -- ^
     obtain ⟨r35, e36, hl12⟩ := bind_some hl12
     refine Yr (n := 27) (hd := [_, _, _, _, _, _, _, _, _, _]) (tl := []) YN rfl rfl [17, 18, 19, 20, 21, 22, 23, 24, 25, 26] (by decide) (fun w => M (Old w0) w0 w []) (fun j => ([fun v _ => v = v0_1, fun v _ => v = (vI s6), fun v _ => v = (ptr (sb v0_1) (so v0_1 + (s6).toNat * 52)), fun v _ => v = (Value.agg (cat [[vI x15.Number], [vI x15.Version], enc x15.Nonce, [u21], [u23], enc x15.Tag]).toArray), fun v _ => v = v1_1, fun v _ => v = (vI s6), fun v _ => v = (ptr (sb v1_1) (so v1_1 + (s6).toNat * 52)), fun v _ => v = (Value.agg (cat [[vI x25.Number], [vI x25.Version], enc x25.Nonce, [u31], [u33], enc x25.Tag]).toArray), fun v _ => v = (vT r35), fun v _ => v = (vT (!r35))] : List (Value → World → Prop)).getD j (fun _ _ => True)) (fun _ _ h hk => h.keep hk) (gup (Zk (Zk (Zk (Zk (Zk (Zk (Zk (Zk (Zk (Zk VK))))))))))) hE hM.drew (ZL (Zb ?_ (Zb ?_ (Zb ?_ (Zb ?_ (Zb ?_ (Zb ?_ (Zb ?_ (Zb ?_ (Zb ?_ (Zb ?_ ZF))))))))))) ?_
     ·exact fun a w ux14 hE hM hp => Zd hE Za ld rfl fun a hE => ⟨Kept.refl _ _, _, _, rfl, hE, rfl⟩
     ·exact fun a w ux14 hE hM hp => Zd hE Za ld rfl fun a hE => ⟨Kept.refl _ _, _, _, rfl, hE, rfl⟩
     ·intro a w ux14 hE hM hp
      have f0 : ux14 0 = v0_1 := hp 0 _ rfl rfl
      have f1 : ux14 1 = (vI s6) := hp 1 _ rfl rfl
      exact ZN hE Za ld (lk rfl f0) (lk rfl f1) Tryz.underlying33 Wx (hM.rd hv0_1) hi17.1 fun a hE => ⟨Kept.refl _ _, _, _, rfl, hE, rfl⟩
     ·intro a w ux14 hE hM hp
      have f2 : ux14 2 = (ptr (sb v0_1) (so v0_1 + (s6).toNat * 52)) := hp 0 _ rfl rfl
      exact Zm (cs := cat [[vI x15.Number], [vI x15.Version], enc x15.Nonce, [u21], [u23], enc x15.Tag]) hE Za ld (lk rfl f2) Wx rfl (hM.atk hA20 (Tc hv0_1 hi17.2)) (ZC (cl1 (n := 1) (m := 51) rfl (cl1 (n := 1) (m := 50) rfl (cl1 (n := 16) (m := 34) (Flat.len _) (cl1 (n := 1) (m := 33) rfl (cl1 (n := 1) (m := 32) rfl (cl1 (n := 32) (m := 0) (Flat.len _) cl0))))))) fun a hE => ⟨Kept.refl _ _, _, _, rfl, hE, rfl⟩
     ·exact fun a w ux14 hE hM hp => Zd hE Za ld rfl fun a hE => ⟨Kept.refl _ _, _, _, rfl, hE, rfl⟩
     ·exact fun a w ux14 hE hM hp => Zd hE Za ld rfl fun a hE => ⟨Kept.refl _ _, _, _, rfl, hE, rfl⟩
     ·intro a w ux14 hE hM hp
      have f4 : ux14 4 = v1_1 := hp 0 _ rfl rfl
      have f5 : ux14 5 = (vI s6) := hp 1 _ rfl rfl
      exact ZN hE Za ld (lk rfl f4) (lk rfl f5) Tryz.underlying33 Wx (hM.rd hv1_1) hi27.1 fun a hE => ⟨Kept.refl _ _, _, _, rfl, hE, rfl⟩
     ·intro a w ux14 hE hM hp
      have f6 : ux14 6 = (ptr (sb v1_1) (so v1_1 + (s6).toNat * 52)) := hp 0 _ rfl rfl
      exact Zm (cs := cat [[vI x25.Number], [vI x25.Version], enc x25.Nonce, [u31], [u33], enc x25.Tag]) hE Za ld (lk rfl f6) Wx rfl (hM.atk hA30 (Tc hv1_1 hi27.2)) (ZC (cl1 (n := 1) (m := 51) rfl (cl1 (n := 1) (m := 50) rfl (cl1 (n := 16) (m := 34) (Flat.len _) (cl1 (n := 1) (m := 33) rfl (cl1 (n := 1) (m := 32) rfl (cl1 (n := 32) (m := 0) (Flat.len _) cl0))))))) fun a hE => ⟨Kept.refl _ _, _, _, rfl, hE, rfl⟩
     ·intro a w ux14 hE hM hp
      have f3 : ux14 3 = (Value.agg (cat [[vI x15.Number], [vI x15.Version], enc x15.Nonce, [u21], [u23], enc x15.Tag]).toArray) := hp 0 _ rfl rfl
      have f7 : ux14 7 = (Value.agg (cat [[vI x25.Number], [vI x25.Version], enc x25.Nonce, [u31], [u33], enc x25.Tag]).toArray) := hp 1 _ rfl rfl
      refine Zs hE Za ld (ZY (ZS (lk rfl f3) (ZS (lk rfl f7) YT))) cb143 (HS _ x15 u21 (hM.rdo h22) u23 (hM.rdo h24) x25 u31 (hM.rdo h32) u33 (hM.rdo h34) r35 e36) ?_
      rintro v w a ⟨rfl, hK⟩ hE
      exact ⟨hK, _, _, rfl, hE, rfl⟩
     ·intro a w ux14 hE hM hp
      have f8 : ux14 8 = (vT r35) := hp 0 _ rfl rfl
      exact WA hE Za ld (lk rfl f8) fun a hE => ⟨Kept.refl _ _, _, _, rfl, hE, rfl⟩
     ·intro a w ux14 hE hM hg
      have hE := hE.sub (e' := [(26, (vT (!r35))), (0, v0_1), (1, v1_1), (5, vI s6), (11, vI s6), (12, v0_1), (13, (vI (p0.length : Int))), (14, (vT (decide (s6 < (p0.length : Int)))))]) ⟨lk rfl (hg 9 (by decide)), rfl, rfl, rfl, rfl, rfl, rfl, rfl, trivial⟩
      refine Zi ?_
      have ht37 := Option.some.inj hl12
      subst ht37
      refine Zl ?_
      exact ⟨hE.sub ⟨rfl, rfl, rfl, rfl, trivial⟩, hM⟩
    ·skip
     rintro a w ⟨hE, hM⟩
     refine Zv hE rfl ?_ ?_
     ·intro hb38
      have hF13 := ZA hF13 hb38
      refine Zc (Ze hE Za ld rfl fun a hE => Zf ?_)
      have ht39 := hx8 _ (Option.some.inj hF13).symm
      subst ht39
      have hr := Option.some.inj hF4
      subst hr
      exact wp_ret (Wl (ZE (ZE (Wl (ZE (ZE (Zy hE rfl (Zu hE rfl) ⟨_, rfl, rfl, hM.kept⟩)))))))
     ·intro hb38
      have hF13 := ZB hF13 hb38
      refine wp_skip (Ye (Zz (wp_region_lit (Zd hE Za ld rfl fun a hE => Zh hE Za ld rfl rfl rfl fun a hE => Ze hE Za ld rfl fun a hE => Zi (Zl ?_)))))
      exact ⟨_, (Option.some.inj hF13).symm, hE.sub ⟨rfl, rfl, rfl, trivial⟩, hM⟩
   ·intro hb10
    have hs7 := ZB hs7 hb10
    refine wp_exit (Zp (Zp (Yc ?_)))
    have ht40 := hx8 _ (Option.some.inj hs7).symm
    subst ht40
    refine Zl ?_
    exact ⟨(), rfl, hE.sub trivial, hM⟩
  ·skip
   rintro a w ⟨s5, ht, hE, hM⟩
   subst ht
   have hF4 := Qo hF4
   refine Zz (Zc (Ze hE Za ld rfl fun a hE => Zf ?_))
   have hr := Option.some.inj hF4
   subst hr
   exact wp_ret (Zy hE rfl (Zu hE rfl) ⟨_, rfl, rfl, hM.kept⟩)
noncomputable def Vv (p0 : GEvent) (p1 : GEvent) : Option (Bool) :=
 if (p0.Kind != p1.Kind) = true then (some false) else (if (p0.Number != p1.Number) = true then (some false) else ((Wa p0.Tag p1.Tag).bind fun r7 => if (!r7) = true then (some false) else (some true)))
theorem By (w0 : World) (p0 : GEvent) (p1 : GEvent) (r : Bool) (hF : Vv p0 p1 = some r) :
  Calls Tryz.prog 144 [(Value.agg (enc p0).toArray), (Value.agg (enc p1).toArray)].toArray w0 (fun en w' => ∃ v, en = .returned v ∧ (v = (vT r) ∧ Kept (Old w0) w0 w')) := by
 refine ZD (n := 21) Tryz.func144 rfl rfl (Nat.le_of_ble_eq_true rfl) rfl ?_
 intro a hE
 have hM := M.start w0
 unfold Vv at hF
 refine Zc (ZX (cs := cat [[vI p0.Kind], [vI p0.Number], enc p0.Tag]) hE hM Za ld rfl rfl fun b1 w a hM hE => ZX (cs := cat [[vI p1.Kind], [vI p1.Number], enc p1.Tag]) hE hM Za ld rfl rfl fun b3 w a hM hE => Ze hE Za ld rfl fun a hE => Zf (wp_seq (Zc (Zg hE Za ld rfl (KJ) fun a hE => Zq (v := (vI p0.Kind)) hE Za ld rfl ty2 rfl (At.cat (pre := []) (hM.rawAt (pre := [_])) cl0) fun a hE => Zg hE Za ld rfl (KJ) fun a hE => Zq (v := (vI p1.Kind)) hE Za ld rfl ty2 rfl (At.cat (pre := []) (hM.rawAt (pre := [])) cl0) ?_)))); intro a hE
 refine Zh hE Za ld rfl rfl rfl fun a hE => Zf ?_
 refine Zv hE rfl ?_ ?_
 ·intro hb5
  have hF := ZA hF hb5
  refine Zc (Ze hE Za ld rfl fun a hE => Zf ?_)
  have hr := Option.some.inj hF
  subst hr
  have hM := M.fst (l := []) hM
  exact wp_ret (ZE (Zy hE rfl (Zu hE rfl) ⟨_, rfl, rfl, hM.kept⟩))
 ·intro hb5
  have hF := ZB hF hb5
  refine wp_skip (Zz (wp_seq (Zc (Zg hE Za ld rfl (KK) fun a hE => Zq (v := (vI p0.Number)) hE Za ld rfl ty2 rfl (At.cat (pre := [[vI p0.Kind]]) (hM.rawAt (pre := [_])) (cl1 (n := 1) (m := 0) rfl cl0)) fun a hE => Zg hE Za ld rfl (KK) fun a hE => Zq (v := (vI p1.Number)) hE Za ld rfl ty2 rfl (At.cat (pre := [[vI p1.Kind]]) (hM.rawAt (pre := [])) (cl1 (n := 1) (m := 0) rfl cl0)) fun a hE => Zh hE Za ld rfl rfl rfl fun a hE => Zf ?_))))
  refine Zv hE rfl ?_ ?_
  ·intro hb6
   have hF := ZA hF hb6
   refine Zc (Ze hE Za ld rfl fun a hE => Zf ?_)
   have hr := Option.some.inj hF
   subst hr
   have hM := M.fst (l := []) hM
   exact wp_ret (ZE (Zy hE rfl (Zu hE rfl) ⟨_, rfl, rfl, hM.kept⟩))
  ·intro hb6
   have hF := ZB hF hb6
   refine wp_skip (Zz (wp_seq (Zc (Zg hE Za ld rfl (Bh) fun a hE => Zm (cs := enc p0.Tag) hE Za ld rfl Yu rfl (At.cat (pre := [[vI p0.Kind], [vI p0.Number]]) (hM.rawAt (pre := [_])) (cl1 (n := 1) (m := 1) rfl (cl1 (n := 1) (m := 0) rfl cl0))) (Flat.len _) fun a hE => Zg hE Za ld rfl (Bh) fun a hE => Zm (cs := enc p1.Tag) hE Za ld rfl Yu rfl (At.cat (pre := [[vI p1.Kind], [vI p1.Number]]) (hM.rawAt (pre := [])) (cl1 (n := 1) (m := 1) rfl (cl1 (n := 1) (m := 0) rfl cl0))) (Flat.len _) ?_)))); intro a hE
   obtain ⟨r7, e8, hF⟩ := bind_some hF
   refine Zs hE Za ld rfl cb16 (T4 _ p0.Tag p1.Tag r7 e8) ?_
   rintro v w a ⟨rfl, hK⟩ hE
   have hM := hM.keep hK
   refine WA hE Za ld rfl fun a hE => Zf ?_
   refine Zv hE rfl ?_ ?_
   ·intro hb9
    have hF := ZA hF hb9
    refine Zc (Ze hE Za ld rfl fun a hE => Zf ?_)
    have hr := Option.some.inj hF
    subst hr
    have hM := M.fst (l := []) hM
    exact wp_ret (ZE (Zy hE rfl (Zu hE rfl) ⟨_, rfl, rfl, hM.kept⟩))
   ·intro hb9
    have hF := ZB hF hb9
    refine wp_skip (Zz (Zc (Ze hE Za ld rfl fun a hE => Zf ?_)))
    have hr := Option.some.inj hF
    subst hr
    have hM := M.fst (l := []) hM
    exact wp_ret (Zy hE rfl (Zu hE rfl) ⟨_, rfl, rfl, hM.kept⟩)
noncomputable def U7 (p0 : (List GEvent)) (p1 : (List GEvent)) (s6 : Int) : Option (Fl Int (Fl Unit Bool)) :=
 if (decide (s6 < (p0.length : Int))) = true then (((idx p0 s6).bind fun x15 => (idx p1 s6).bind fun x18 => (Vv x15 x18).bind fun r21 => some (!r21) : Option (Bool)).bind fun j11 => if j11 = true then (some (Fl.ex (Fl.ex false))) else (some (Fl.nx (wr (s6 + 1))))) else (some (Fl.ex (Fl.nx ())))
noncomputable def Ui (p0 : (List GEvent)) (p1 : (List GEvent)) : Option (Bool) :=
 if ((p0.length : Int) != (p1.length : Int)) = true then (some false) else ((ZG (U7 p0 p1) 0 : Option (Fl Unit Bool)).bind fun j2 => j2.el (fun s5 => some true) (fun r => some r))
theorem H3 (w0 : World) (p0 : (List GEvent)) (v0_1 : Value) (hv0_1 : Ro w0 p0 [v0_1]) (p1 : (List GEvent)) (v1_1 : Value) (hv1_1 : Ro w0 p1 [v1_1]) (r : Bool) (hF : Ui p0 p1 = some r) :
  Calls Tryz.prog 64 [v0_1, v1_1].toArray w0 (fun en w' => ∃ v, en = .returned v ∧ (v = (vT r) ∧ Kept (Old w0) w0 w')) := by
 refine ZD (n := 27) Tryz.func64 rfl rfl (Nat.le_of_ble_eq_true rfl) rfl ?_
 intro a hE
 have hM := M.start w0
 unfold Ui at hF
 refine Zc (Ze hE Za ld rfl fun a hE => Zf (wp_seq (Zc (Zd hE Za ld rfl fun a hE => Z6 hE Za ld rfl Tryz.underlying34 (hM.rd hv0_1) fun a hE => Zd hE Za ld rfl fun a hE => Z6 hE Za ld rfl Tryz.underlying34 (hM.rd hv1_1) fun a hE => Zh hE Za ld rfl rfl rfl fun a hE => Zf ?_))))
 refine Zv hE rfl ?_ ?_
 ·intro hb1
  have hF := ZA hF hb1
  refine Zc (Ze hE Za ld rfl fun a hE => Zf ?_)
  have hr := Option.some.inj hF
  subst hr
  exact wp_ret (ZE (Zy hE rfl (Zu hE rfl) ⟨_, rfl, rfl, hM.kept⟩))
 ·intro hb1
  have hF := ZB hF hb1
  refine wp_skip (Zz (wp_seq (Zc (Ze hE Za ld rfl fun a hE => Zf ?_))))
  obtain ⟨j2, hl3, hF4⟩ := bind_some hF
  refine ZR (fun a w => ∃ s5 : Unit, j2 = Fl.nx s5 ∧ Env 27 a [] ∧ M (Old w0) w0 w []) ?_ ?_
  ·skip
   refine wp_block ?_
   refine ZK (fun (s6 : Int) a w => Env 27 a [(0, v0_1), (1, v1_1), (5, vI s6)] ∧ M (Old w0) w0 w []) hl3 ⟨hE.sub ⟨rfl, rfl, rfl, trivial⟩, hM⟩ ?_
   rintro s6 a w ⟨hE, hM⟩ o9 hs7 hx8
   unfold U7 at hs7
   refine wp_seq (Zc (Zd hE Za ld rfl fun a hE => Zd hE Za ld rfl fun a hE => Z6 hE Za ld rfl Tryz.underlying34 (hM.rd hv0_1) fun a hE => Zh hE Za ld rfl rfl rfl fun a hE => Zf ?_))
   refine Zv hE rfl ?_ ?_
   ·intro hb10
    have hs7 := ZA hs7 hb10
    refine wp_skip (Zz (wp_seq (wp_block ?_)))
    obtain ⟨j11, hl12, hF13⟩ := bind_some hs7
    refine ZU (fun a w => Env 27 a [(0, v0_1), (1, v1_1), (5, vI s6), (26, vT j11)] ∧ M (Old w0) w0 w []) ?_ ?_
    ·skip
     obtain ⟨x15, e16, hl12⟩ := bind_some hl12
     have hi17 := ZO e16
     obtain ⟨x18, e19, hl12⟩ := bind_some hl12
     have hi20 := ZO e19
     obtain ⟨r21, e22, hl12⟩ := bind_some hl12
     refine Yr (n := 27) (hd := [_, _, _, _, _, _, _, _, _, _]) (tl := []) YN rfl rfl [17, 18, 19, 20, 21, 22, 23, 24, 25, 26] (by decide) (fun w => M (Old w0) w0 w []) (fun j => ([fun v _ => v = v0_1, fun v _ => v = (vI s6), fun v _ => v = (ptr (sb v0_1) (so v0_1 + (s6).toNat * 34)), fun v _ => v = (Value.agg (enc x15).toArray), fun v _ => v = v1_1, fun v _ => v = (vI s6), fun v _ => v = (ptr (sb v1_1) (so v1_1 + (s6).toNat * 34)), fun v _ => v = (Value.agg (enc x18).toArray), fun v _ => v = (vT r21), fun v _ => v = (vT (!r21))] : List (Value → World → Prop)).getD j (fun _ _ => True)) (fun _ _ h hk => h.keep hk) (gup (Zk (Zk (Zk (Zk (Zk (Zk (Zk (Zk (Zk (Zk VK))))))))))) hE hM.drew (ZL (Zb ?_ (Zb ?_ (Zb ?_ (Zb ?_ (Zb ?_ (Zb ?_ (Zb ?_ (Zb ?_ (Zb ?_ (Zb ?_ ZF))))))))))) ?_
     ·exact fun a w ux14 hE hM hp => Zd hE Za ld rfl fun a hE => ⟨Kept.refl _ _, _, _, rfl, hE, rfl⟩
     ·exact fun a w ux14 hE hM hp => Zd hE Za ld rfl fun a hE => ⟨Kept.refl _ _, _, _, rfl, hE, rfl⟩
     ·intro a w ux14 hE hM hp
      have f0 : ux14 0 = v0_1 := hp 0 _ rfl rfl
      have f1 : ux14 1 = (vI s6) := hp 1 _ rfl rfl
      exact ZN hE Za ld (lk rfl f0) (lk rfl f1) Tryz.underlying34 UJ (hM.rd hv0_1) hi17.1 fun a hE => ⟨Kept.refl _ _, _, _, rfl, hE, rfl⟩
     ·intro a w ux14 hE hM hp
      have f2 : ux14 2 = (ptr (sb v0_1) (so v0_1 + (s6).toNat * 34)) := hp 0 _ rfl rfl
      exact Zm (cs := enc x15) hE Za ld (lk rfl f2) UJ rfl (Xa (hM.rd hv0_1) hi17.2) (ZC (cl1 (n := 1) (m := 33) rfl (cl1 (n := 1) (m := 32) rfl (cl1 (n := 32) (m := 0) (Flat.len _) cl0)))) fun a hE => ⟨Kept.refl _ _, _, _, rfl, hE, rfl⟩
     ·exact fun a w ux14 hE hM hp => Zd hE Za ld rfl fun a hE => ⟨Kept.refl _ _, _, _, rfl, hE, rfl⟩
     ·exact fun a w ux14 hE hM hp => Zd hE Za ld rfl fun a hE => ⟨Kept.refl _ _, _, _, rfl, hE, rfl⟩
     ·intro a w ux14 hE hM hp
      have f4 : ux14 4 = v1_1 := hp 0 _ rfl rfl
      have f5 : ux14 5 = (vI s6) := hp 1 _ rfl rfl
      exact ZN hE Za ld (lk rfl f4) (lk rfl f5) Tryz.underlying34 UJ (hM.rd hv1_1) hi20.1 fun a hE => ⟨Kept.refl _ _, _, _, rfl, hE, rfl⟩
     ·intro a w ux14 hE hM hp
      have f6 : ux14 6 = (ptr (sb v1_1) (so v1_1 + (s6).toNat * 34)) := hp 0 _ rfl rfl
      exact Zm (cs := enc x18) hE Za ld (lk rfl f6) UJ rfl (Xa (hM.rd hv1_1) hi20.2) (ZC (cl1 (n := 1) (m := 33) rfl (cl1 (n := 1) (m := 32) rfl (cl1 (n := 32) (m := 0) (Flat.len _) cl0)))) fun a hE => ⟨Kept.refl _ _, _, _, rfl, hE, rfl⟩
     ·intro a w ux14 hE hM hp
      have f3 : ux14 3 = (Value.agg (enc x15).toArray) := hp 0 _ rfl rfl
      have f7 : ux14 7 = (Value.agg (enc x18).toArray) := hp 1 _ rfl rfl
      refine Zs hE Za ld (ZY (ZS (lk rfl f3) (ZS (lk rfl f7) YT))) cb144 (By _ x15 x18 r21 e22) ?_
      rintro v w a ⟨rfl, hK⟩ hE
      exact ⟨hK, _, _, rfl, hE, rfl⟩
     ·intro a w ux14 hE hM hp
      have f8 : ux14 8 = (vT r21) := hp 0 _ rfl rfl
      exact WA hE Za ld (lk rfl f8) fun a hE => ⟨Kept.refl _ _, _, _, rfl, hE, rfl⟩
     ·intro a w ux14 hE hM hg
      have hE := hE.sub (e' := [(26, (vT (!r21))), (0, v0_1), (1, v1_1), (5, vI s6), (11, vI s6), (12, v0_1), (13, (vI (p0.length : Int))), (14, (vT (decide (s6 < (p0.length : Int)))))]) ⟨lk rfl (hg 9 (by decide)), rfl, rfl, rfl, rfl, rfl, rfl, rfl, trivial⟩
      refine Zi ?_
      have ht23 := Option.some.inj hl12
      subst ht23
      refine Zl ?_
      exact ⟨hE.sub ⟨rfl, rfl, rfl, rfl, trivial⟩, hM⟩
    ·skip
     rintro a w ⟨hE, hM⟩
     refine Zv hE rfl ?_ ?_
     ·intro hb24
      have hF13 := ZA hF13 hb24
      refine Zc (Ze hE Za ld rfl fun a hE => Zf ?_)
      have ht25 := hx8 _ (Option.some.inj hF13).symm
      subst ht25
      have hr := Option.some.inj hF4
      subst hr
      exact wp_ret (Wl (ZE (ZE (Wl (ZE (ZE (Zy hE rfl (Zu hE rfl) ⟨_, rfl, rfl, hM.kept⟩)))))))
     ·intro hb24
      have hF13 := ZB hF13 hb24
      refine wp_skip (Ye (Zz (wp_region_lit (Zd hE Za ld rfl fun a hE => Zh hE Za ld rfl rfl rfl fun a hE => Ze hE Za ld rfl fun a hE => Zi (Zl ?_)))))
      exact ⟨_, (Option.some.inj hF13).symm, hE.sub ⟨rfl, rfl, rfl, trivial⟩, hM⟩
   ·intro hb10
    have hs7 := ZB hs7 hb10
    refine wp_exit (Zp (Zp (Yc ?_)))
    have ht26 := hx8 _ (Option.some.inj hs7).symm
    subst ht26
    refine Zl ?_
    exact ⟨(), rfl, hE.sub trivial, hM⟩
  ·skip
   rintro a w ⟨s5, ht, hE, hM⟩
   subst ht
   have hF4 := Qo hF4
   refine Zz (Zc (Ze hE Za ld rfl fun a hE => Zf ?_))
   have hr := Option.some.inj hF4
   subst hr
   exact wp_ret (Zy hE rfl (Zu hE rfl) ⟨_, rfl, rfl, hM.kept⟩)
noncomputable def UP (p0 : GVault) (p1 : GVault) : Option (Bool) :=
 (V9 p0.Keys p1.Keys).bind fun r5 => if (!r5) = true then (some false) else (if (p0.Next != p1.Next) = true then (some false) else ((VP p0.Records p1.Records).bind fun r9 => if (!r9) = true then (some false) else ((Ui p0.Events p1.Events).bind fun r12 => if (!r12) = true then (some false) else ((Wa p0.Head p1.Head).bind fun r15 => if (!r15) = true then (some false) else (some true)))))
theorem Br (w0 : World) (p0 : GVault) (v0_1 : Value) (hv0_1 : Ro w0 p0.Keys [v0_1]) (v0_2 : Value) (hv0_2 : Ro w0 p0.Records [v0_2]) (v0_3 : Value) (hv0_3 : Ro w0 p0.Events [v0_3]) (p1 : GVault) (v1_1 : Value) (hv1_1 : Ro w0 p1.Keys [v1_1]) (v1_2 : Value) (hv1_2 : Ro w0 p1.Records [v1_2]) (v1_3 : Value) (hv1_3 : Ro w0 p1.Events [v1_3]) (r : Bool) (hF : UP p0 p1 = some r) :
  Calls Tryz.prog 17 [(Value.agg (cat [[v0_1], [vI p0.Next], [v0_2], [v0_3], enc p0.Head]).toArray), (Value.agg (cat [[v1_1], [vI p1.Next], [v1_2], [v1_3], enc p1.Head]).toArray)].toArray w0 (fun en w' => ∃ v, en = .returned v ∧ (v = (vT r) ∧ Kept (Old w0) w0 w')) := by
 refine ZD (n := 34) Tryz.func17 rfl rfl (Nat.le_of_ble_eq_true rfl) rfl ?_
 intro a hE
 have hM := M.start w0
 unfold UP at hF
 refine Zc (ZX (cs := cat [[v0_1], [vI p0.Next], [v0_2], [v0_3], enc p0.Head]) hE hM Za ld rfl rfl fun b1 w a hM hE => ZX (cs := cat [[v1_1], [vI p1.Next], [v1_2], [v1_3], enc p1.Head]) hE hM Za ld rfl rfl fun b3 w a hM hE => Ze hE Za ld rfl fun a hE => Zf (wp_seq (Zc (Zg hE Za ld rfl (Tu) fun a hE => Zq (v := v0_1) hE Za ld rfl KN rfl (At.cat (pre := []) (hM.rawAt (pre := [_])) cl0) fun a hE => Zg hE Za ld rfl (Tu) fun a hE => Zq (v := v1_1) hE Za ld rfl KN rfl (At.cat (pre := []) (hM.rawAt (pre := [])) cl0) ?_)))); intro a hE
 obtain ⟨r5, e6, hF⟩ := bind_some hF
 refine Zs hE Za ld rfl cb62 (HY _ p0.Keys v0_1 (hM.rdo hv0_1) p1.Keys v1_1 (hM.rdo hv1_1) r5 e6) ?_
 rintro v w a ⟨rfl, hK⟩ hE
 have hM := hM.keep hK
 refine WA hE Za ld rfl fun a hE => Zf ?_
 refine Zv hE rfl ?_ ?_
 ·intro hb7
  have hF := ZA hF hb7
  refine Zc (Ze hE Za ld rfl fun a hE => Zf ?_)
  have hr := Option.some.inj hF
  subst hr
  have hM := M.fst (l := []) hM
  exact wp_ret (ZE (Zy hE rfl (Zu hE rfl) ⟨_, rfl, rfl, hM.kept⟩))
 ·intro hb7
  have hF := ZB hF hb7
  refine wp_skip (Zz (wp_seq (Zc (Zg hE Za ld rfl (QN) fun a hE => Zq (v := (vI p0.Next)) hE Za ld rfl ty2 rfl (At.cat (pre := [[v0_1]]) (hM.rawAt (pre := [_])) (cl1 (n := 1) (m := 0) rfl cl0)) fun a hE => Zg hE Za ld rfl (QN) fun a hE => Zq (v := (vI p1.Next)) hE Za ld rfl ty2 rfl (At.cat (pre := [[v1_1]]) (hM.rawAt (pre := [])) (cl1 (n := 1) (m := 0) rfl cl0)) fun a hE => Zh hE Za ld rfl rfl rfl fun a hE => Zf ?_))))
  refine Zv hE rfl ?_ ?_
  ·intro hb8
   have hF := ZA hF hb8
   refine Zc (Ze hE Za ld rfl fun a hE => Zf ?_)
   have hr := Option.some.inj hF
   subst hr
   have hM := M.fst (l := []) hM
   exact wp_ret (ZE (Zy hE rfl (Zu hE rfl) ⟨_, rfl, rfl, hM.kept⟩))
  ·intro hb8
   have hF := ZB hF hb8
   refine wp_skip (Zz (wp_seq (Zc (Zg hE Za ld rfl (Ut) fun a hE => Zq (v := v0_2) hE Za ld rfl QV rfl (At.cat (pre := [[v0_1], [vI p0.Next]]) (hM.rawAt (pre := [_])) (cl1 (n := 1) (m := 1) rfl (cl1 (n := 1) (m := 0) rfl cl0))) fun a hE => Zg hE Za ld rfl (Ut) fun a hE => Zq (v := v1_2) hE Za ld rfl QV rfl (At.cat (pre := [[v1_1], [vI p1.Next]]) (hM.rawAt (pre := [])) (cl1 (n := 1) (m := 1) rfl (cl1 (n := 1) (m := 0) rfl cl0))) ?_)))); intro a hE
   obtain ⟨r9, e10, hF⟩ := bind_some hF
   refine Zs hE Za ld rfl cb63 (Hi _ p0.Records v0_2 (hM.rdo hv0_2) p1.Records v1_2 (hM.rdo hv1_2) r9 e10) ?_
   rintro v w a ⟨rfl, hK⟩ hE
   have hM := hM.keep hK
   refine WA hE Za ld rfl fun a hE => Zf ?_
   refine Zv hE rfl ?_ ?_
   ·intro hb11
    have hF := ZA hF hb11
    refine Zc (Ze hE Za ld rfl fun a hE => Zf ?_)
    have hr := Option.some.inj hF
    subst hr
    have hM := M.fst (l := []) hM
    exact wp_ret (ZE (Zy hE rfl (Zu hE rfl) ⟨_, rfl, rfl, hM.kept⟩))
   ·intro hb11
    have hF := ZB hF hb11
    refine wp_skip (Zz (wp_seq (Zc (Zg hE Za ld rfl (QW) fun a hE => Zq (v := v0_3) hE Za ld rfl Ap rfl (At.cat (pre := [[v0_1], [vI p0.Next], [v0_2]]) (hM.rawAt (pre := [_])) (cl1 (n := 1) (m := 2) rfl (cl1 (n := 1) (m := 1) rfl (cl1 (n := 1) (m := 0) rfl cl0)))) fun a hE => Zg hE Za ld rfl (QW) fun a hE => Zq (v := v1_3) hE Za ld rfl Ap rfl (At.cat (pre := [[v1_1], [vI p1.Next], [v1_2]]) (hM.rawAt (pre := [])) (cl1 (n := 1) (m := 2) rfl (cl1 (n := 1) (m := 1) rfl (cl1 (n := 1) (m := 0) rfl cl0)))) ?_)))); intro a hE
    obtain ⟨r12, e13, hF⟩ := bind_some hF
    refine Zs hE Za ld rfl cb64 (H3 _ p0.Events v0_3 (hM.rdo hv0_3) p1.Events v1_3 (hM.rdo hv1_3) r12 e13) ?_
    rintro v w a ⟨rfl, hK⟩ hE
    have hM := hM.keep hK
    refine WA hE Za ld rfl fun a hE => Zf ?_
    refine Zv hE rfl ?_ ?_
    ·intro hb14
     have hF := ZA hF hb14
     refine Zc (Ze hE Za ld rfl fun a hE => Zf ?_)
     have hr := Option.some.inj hF
     subst hr
     have hM := M.fst (l := []) hM
     exact wp_ret (ZE (Zy hE rfl (Zu hE rfl) ⟨_, rfl, rfl, hM.kept⟩))
    ·intro hb14
     have hF := ZB hF hb14
     refine wp_skip (Zz (wp_seq (Zc (Zg hE Za ld rfl (yC) fun a hE => Zm (cs := enc p0.Head) hE Za ld rfl Yu rfl (At.cat (pre := [[v0_1], [vI p0.Next], [v0_2], [v0_3]]) (hM.rawAt (pre := [_])) (cl1 (n := 1) (m := 3) rfl (cl1 (n := 1) (m := 2) rfl (cl1 (n := 1) (m := 1) rfl (cl1 (n := 1) (m := 0) rfl cl0))))) (Flat.len _) fun a hE => Zg hE Za ld rfl (yC) fun a hE => Zm (cs := enc p1.Head) hE Za ld rfl Yu rfl (At.cat (pre := [[v1_1], [vI p1.Next], [v1_2], [v1_3]]) (hM.rawAt (pre := [])) (cl1 (n := 1) (m := 3) rfl (cl1 (n := 1) (m := 2) rfl (cl1 (n := 1) (m := 1) rfl (cl1 (n := 1) (m := 0) rfl cl0))))) (Flat.len _) ?_)))); intro a hE
     obtain ⟨r15, e16, hF⟩ := bind_some hF
     refine Zs hE Za ld rfl cb16 (T4 _ p0.Head p1.Head r15 e16) ?_
     rintro v w a ⟨rfl, hK⟩ hE
     have hM := hM.keep hK
     refine WA hE Za ld rfl fun a hE => Zf ?_
     refine Zv hE rfl ?_ ?_
     ·intro hb17
      have hF := ZA hF hb17
      refine Zc (Ze hE Za ld rfl fun a hE => Zf ?_)
      have hr := Option.some.inj hF
      subst hr
      have hM := M.fst (l := []) hM
      exact wp_ret (ZE (Zy hE rfl (Zu hE rfl) ⟨_, rfl, rfl, hM.kept⟩))
     ·intro hb17
      have hF := ZB hF hb17
      refine wp_skip (Zz (Zc (Ze hE Za ld rfl fun a hE => Zf ?_)))
      have hr := Option.some.inj hF
      subst hr
      have hM := M.fst (l := []) hM
      exact wp_ret (Zy hE rfl (Zu hE rfl) ⟨_, rfl, rfl, hM.kept⟩)
noncomputable def V3 (s4 : (List (Vector UInt8 16)) × Int × Int) (s12 : (List (Vector UInt8 16)) × Int × Int) : Option (Fl ((List (Vector UInt8 16)) × Int × Int) ((List (Vector UInt8 16)) × Int)) :=
 if (decide (s12.2.2 < 16)) = true then ((idx s12.1 s4.2.2).bind fun x17 => (ZM x17 s12.2.2).bind fun x21 => some (Fl.nx ((s12.1.set (s4.2.2).toNat (x17.setIfInBounds (s12.2.2).toNat (Zr s12.2.1))), wr (s12.2.1 + 1), wr (s12.2.2 + 1)))) else (some (Fl.ex (s12.1, s12.2.1)))
noncomputable def Xv (s4 : (List (Vector UInt8 16)) × Int × Int) : Option (Fl ((List (Vector UInt8 16)) × Int × Int) ((List (Vector UInt8 16)) × Int)) :=
 if (decide (s4.2.2 < (s4.1.length : Int))) = true then ((ZG (V3 s4) (s4.1, s4.2.1, 0) : Option ((List (Vector UInt8 16)) × Int)).bind fun j9 => some (Fl.nx (j9.1, j9.2, wr (s4.2.2 + 1)))) else (some (Fl.ex (s4.1, s4.2.1)))
noncomputable def Vh (p0 : (List (Vector UInt8 16))) (p1 : Int) : Option ((List (Vector UInt8 16)) × Int) :=
 (ZG (Xv) (p0, p1, 0) : Option ((List (Vector UInt8 16)) × Int)).bind fun j1 => some (j1.1, j1.2)
theorem JF (St : Nat → Prop) (W w0 : World) (its : List Item) (p0 : (List (Vector UInt8 16))) (v0_1 : Value) (p1 : Int) (hM : M St W w0 (own NoB (p0 : (List (Vector UInt8 16))) [v0_1] :: its)) (r : (List (Vector UInt8 16)) × Int) (hF : Vh p0 p1 = some r) :
  Calls Tryz.prog 90 [v0_1, vI p1].toArray w0 (fun en w' => ∃ v, en = .returned v ∧ (v = (vI r.2) ∧ M St W w' (own NoB (r.1 : (List (Vector UInt8 16))) [v0_1] :: its))) := by
 refine ZD (n := 27) Tryz.func90 rfl rfl (Nat.le_of_ble_eq_true rfl) rfl ?_
 intro a hE
 unfold Vh at hF
 refine Zc (Ze hE Za ld rfl fun a hE => Zf (wp_seq (Zc (Ze hE Za ld rfl fun a hE => Zf ?_))))
 obtain ⟨j1, hl2, hF3⟩ := bind_some hF
 refine ZR (fun a w => Env 27 a [(0, v0_1), (1, vI j1.2)] ∧ M St W w (own NoB (j1.1 : (List (Vector UInt8 16))) [v0_1] :: its)) ?_ ?_
 ·skip
  refine wp_block ?_
  refine ZK (fun (s4 : (List (Vector UInt8 16)) × Int × Int) a w => Env 27 a [(0, v0_1), (1, vI s4.2.1), (5, vI s4.2.2)] ∧ M St W w (own NoB (s4.1 : (List (Vector UInt8 16))) [v0_1] :: its)) hl2 ⟨hE.sub ⟨rfl, rfl, rfl, trivial⟩, hM⟩ ?_
  rintro s4 a w ⟨hE, hM⟩ o7 hs5 hx6
  unfold Xv at hs5
  refine wp_seq (Zc (Zd hE Za ld rfl fun a hE => Zd hE Za ld rfl fun a hE => Z6 hE Za ld rfl Tryz.underlying32 (hM.ro (pre := []) noB) fun a hE => Zh hE Za ld rfl rfl rfl fun a hE => Zf ?_))
  refine Zv hE rfl ?_ ?_
  ·intro hb8
   have hs5 := ZA hs5 hb8
   refine wp_skip (Zz (wp_seq (wp_block (Zc (Ze hE Za ld rfl fun a hE => Zf ?_)))))
   obtain ⟨j9, hl10, hF11⟩ := bind_some hs5
   refine ZR (fun a w => Env 27 a [(0, v0_1), (1, vI j9.2), (5, vI s4.2.2)] ∧ M St W w (own NoB (j9.1 : (List (Vector UInt8 16))) [v0_1] :: its)) ?_ ?_
   ·skip
    refine wp_block ?_
    refine ZK (fun (s12 : (List (Vector UInt8 16)) × Int × Int) a w => Env 27 a [(0, v0_1), (1, vI s12.2.1), (5, vI s4.2.2), (6, vI s12.2.2)] ∧ M St W w (own NoB (s12.1 : (List (Vector UInt8 16))) [v0_1] :: its)) hl10 ⟨hE.sub ⟨rfl, rfl, rfl, rfl, trivial⟩, hM⟩ ?_
    rintro s12 a w ⟨hE, hM⟩ o15 hs13 hx14
    unfold V3 at hs13
    refine wp_seq (Zc (Zd hE Za ld rfl fun a hE => Zh hE Za ld rfl rfl rfl fun a hE => Zf ?_))
    refine Zv hE rfl ?_ ?_
    ·intro hb16
     have hs13 := ZA hs13 hb16
     refine wp_skip (Zz (wp_seq (wp_block (Zc (Zd hE Za ld rfl fun a hE => Zd hE Za ld rfl fun a hE => Zd hE Za ld rfl fun a hE => Zd hE Za ld rfl fun a hE => Yj hE Za ld rfl Tryz.underlying3 Tryz.underlying5 ?_))))); intro a hE
     rw [ZW] at hE
     obtain ⟨x17, e18, hs13⟩ := bind_some hs13
     have hi19 := ZO e18
     refine ZN hE Za ld rfl rfl Tryz.underlying32 ZH (hM.ro (pre := []) noB) hi19.1 ?_; intro a hE
     obtain ⟨x21, e22, hs13⟩ := bind_some hs13
     have hi20 := Zj e22
     refine Zn hE Za ld rfl rfl Tryz.underlying70 ty5 hi20.1 ?_; intro a hE
     have hM := hM.toOsl (List.getElem?_eq_some_iff.1 hi19.2).1
     refine TH (i := (s4.2.2).toNat) (k0 := 0 + (s12.2.2).toNat * 1) (seg := [(vB (Zr s12.2.1))]) (xo := x17) (xn := (x17.setIfInBounds (s12.2.2).toNat (Zr s12.2.1))) hE hM Za (H8 rfl (by show _ = _ + _ * 16 + _; omega)) rfl rfl ty5 rfl (Flat.cell (Zr s12.2.1 : UInt8)) hi19.2 (kh (x := Zr s12.2.1) hi20.1) (ZJ (v := x17) (x := Zr s12.2.1) hi20.1) ?_; intro w a hM hE
     have hM := hM.toOwn noB
     refine Zf (wp_region_lit (Zd hE Za ld rfl fun a hE => Zh hE Za ld rfl rfl rfl fun a hE => Ze hE Za ld rfl fun a hE => Zi (Ye (Zz (wp_region_lit (Zd hE Za ld rfl fun a hE => Zh hE Za ld rfl rfl rfl fun a hE => Ze hE Za ld rfl fun a hE => Zi (Zl ?_)))))))
     exact ⟨_, (Option.some.inj hs13).symm, hE.sub ⟨rfl, rfl, rfl, rfl, trivial⟩, hM⟩
    ·intro hb16
     have hs13 := ZB hs13 hb16
     refine wp_exit (Zp (Zp (Yc ?_)))
     have ht23 := hx14 _ (Option.some.inj hs13).symm
     subst ht23
     refine Zl ?_
     exact ⟨hE.sub ⟨rfl, rfl, rfl, trivial⟩, hM⟩
   ·skip
    rintro a w ⟨hE, hM⟩
    refine Ye (Zz (wp_region_lit (Zd hE Za ld rfl fun a hE => Zh hE Za ld rfl rfl rfl fun a hE => Ze hE Za ld rfl fun a hE => Zi (Zl ?_))))
    exact ⟨_, (Option.some.inj hF11).symm, hE.sub ⟨rfl, rfl, rfl, trivial⟩, hM⟩
  ·intro hb8
   have hs5 := ZB hs5 hb8
   refine wp_exit (Zp (Zp (Yc ?_)))
   have ht24 := hx6 _ (Option.some.inj hs5).symm
   subst ht24
   refine Zl ?_
   exact ⟨hE.sub ⟨rfl, rfl, trivial⟩, hM⟩
 ·skip
  rintro a w ⟨hE, hM⟩
  refine Zz (Zc (Zd hE Za ld rfl fun a hE => Ze hE Za ld rfl fun a hE => Zf ?_))
  have hr := Option.some.inj hF3
  subst hr
  exact wp_ret (Zy hE (by rfl) (Zu hE rfl) ⟨_, rfl, rfl, hM⟩)
noncomputable def YP (s4 : (List UInt8) × Int × Int) : Option (Fl ((List UInt8) × Int × Int) ((List UInt8) × Int)) :=
 if (decide (s4.2.2 < (s4.1.length : Int))) = true then ((idx s4.1 s4.2.2).bind fun x9 => some (Fl.nx ((s4.1.set (s4.2.2).toNat (Zr s4.2.1)), wr (s4.2.1 + 1), wr (s4.2.2 + 1)))) else (some (Fl.ex (s4.1, s4.2.1)))
noncomputable def Yo (p0 : (List UInt8)) (p1 : Int) : Option ((List UInt8) × Int) :=
 (ZG (YP) (p0, p1, 0) : Option ((List UInt8) × Int)).bind fun j1 => some (j1.1, j1.2)
theorem TS (St : Nat → Prop) (W w0 : World) (its : List Item) (p0 : (List UInt8)) (v0_1 : Value) (p1 : Int) (hM : M St W w0 (own NoB (p0 : (List UInt8)) [v0_1] :: its)) (r : (List UInt8) × Int) (hF : Yo p0 p1 = some r) :
  Calls Tryz.prog 30 [v0_1, vI p1].toArray w0 (fun en w' => ∃ v, en = .returned v ∧ (v = (vI r.2) ∧ M St W w' (own NoB (r.1 : (List UInt8)) [v0_1] :: its))) := by
 refine ZD (n := 20) Tryz.func30 rfl rfl (Nat.le_of_ble_eq_true rfl) rfl ?_
 intro a hE
 unfold Yo at hF
 refine Zc (Ze hE Za ld rfl fun a hE => Zf (wp_seq (Zc (Ze hE Za ld rfl fun a hE => Zf ?_))))
 obtain ⟨j1, hl2, hF3⟩ := bind_some hF
 refine ZR (fun a w => Env 20 a [(0, v0_1), (1, vI j1.2)] ∧ M St W w (own NoB (j1.1 : (List UInt8)) [v0_1] :: its)) ?_ ?_
 ·skip
  refine wp_block ?_
  refine ZK (fun (s4 : (List UInt8) × Int × Int) a w => Env 20 a [(0, v0_1), (1, vI s4.2.1), (5, vI s4.2.2)] ∧ M St W w (own NoB (s4.1 : (List UInt8)) [v0_1] :: its)) hl2 ⟨hE.sub ⟨rfl, rfl, rfl, trivial⟩, hM⟩ ?_
  rintro s4 a w ⟨hE, hM⟩ o7 hs5 hx6
  unfold YP at hs5
  refine wp_seq (Zc (Zd hE Za ld rfl fun a hE => Zd hE Za ld rfl fun a hE => Z6 hE Za ld rfl Tryz.underlying57 (hM.ro (pre := []) noB) fun a hE => Zh hE Za ld rfl rfl rfl fun a hE => Zf ?_))
  refine Zv hE rfl ?_ ?_
  ·intro hb8
   have hs5 := ZA hs5 hb8
   refine wp_skip (Zz (wp_seq (wp_block (Zc (Zd hE Za ld rfl fun a hE => Zd hE Za ld rfl fun a hE => Zd hE Za ld rfl fun a hE => Yj hE Za ld rfl Tryz.underlying3 Tryz.underlying5 ?_))))); intro a hE
   rw [ZW] at hE
   obtain ⟨x9, e10, hs5⟩ := bind_some hs5
   have hi11 := ZO e10
   refine ZN hE Za ld rfl rfl Tryz.underlying57 ty5 (hM.ro (pre := []) noB) hi11.1 ?_; intro a hE
   have hM := hM.toOsl (List.getElem?_eq_some_iff.1 hi11.2).1
   refine TH (i := (s4.2.2).toNat) (k0 := 0) (seg := [(vB (Zr s4.2.1))]) (xo := x9) (xn := Zr s4.2.1) hE hM Za rfl rfl rfl ty5 rfl (Flat.cell (Zr s4.2.1 : UInt8)) hi11.2 (Qf (m := 1) rfl (by decide)) (Zo rfl) ?_; intro w a hM hE
   have hM := hM.toOwn noB
   refine Zf (wp_region_lit (Zd hE Za ld rfl fun a hE => Zh hE Za ld rfl rfl rfl fun a hE => Ze hE Za ld rfl fun a hE => Zi (Ye (Zz (wp_region_lit (Zd hE Za ld rfl fun a hE => Zh hE Za ld rfl rfl rfl fun a hE => Ze hE Za ld rfl fun a hE => Zi (Zl ?_)))))))
   exact ⟨_, (Option.some.inj hs5).symm, hE.sub ⟨rfl, rfl, rfl, trivial⟩, hM⟩
  ·intro hb8
   have hs5 := ZB hs5 hb8
   refine wp_exit (Zp (Zp (Yc ?_)))
   have ht12 := hx6 _ (Option.some.inj hs5).symm
   subst ht12
   refine Zl ?_
   exact ⟨hE.sub ⟨rfl, rfl, trivial⟩, hM⟩
 ·skip
  rintro a w ⟨hE, hM⟩
  refine Zz (Zc (Zd hE Za ld rfl fun a hE => Ze hE Za ld rfl fun a hE => Zf ?_))
  have hr := Option.some.inj hF3
  subst hr
  exact wp_ret (Zy hE (by rfl) (Zu hE rfl) ⟨_, rfl, rfl, hM⟩)
noncomputable def Vq (s4 : (List GRecord) × Int × Int) (s18 : (List GRecord) × Int × Int) : Option (Fl ((List GRecord) × Int × Int) ((List GRecord) × Int)) :=
 if (decide (s18.2.2 < 16)) = true then ((idx s18.1 s4.2.2).bind fun x23 => (ZM x23.Nonce s18.2.2).bind fun x27 => some (Fl.nx ((s18.1.set (s4.2.2).toNat (⟨x23.Number, x23.Version, (x23.Nonce.setIfInBounds (s18.2.2).toNat (Zr s18.2.1)), x23.Label, x23.Body, x23.Tag⟩ : GRecord)), wr (s18.2.1 + 1), wr (s18.2.2 + 1)))) else (some (Fl.ex (s18.1, s18.2.1)))
noncomputable def Vp (s4 : (List GRecord) × Int × Int) (s55 : (List GRecord) × Int × Int) : Option (Fl ((List GRecord) × Int × Int) ((List GRecord) × Int)) :=
 if (decide (s55.2.2 < 32)) = true then ((idx s55.1 s4.2.2).bind fun x60 => (ZM x60.Tag s55.2.2).bind fun x64 => some (Fl.nx ((s55.1.set (s4.2.2).toNat (⟨x60.Number, x60.Version, x60.Nonce, x60.Label, x60.Body, (x60.Tag.setIfInBounds (s55.2.2).toNat (Zr s55.2.1))⟩ : GRecord)), wr (s55.2.1 + 1), wr (s55.2.2 + 1)))) else (some (Fl.ex (s55.1, s55.2.1)))
noncomputable def Xi (s4 : (List GRecord) × Int × Int) : Option (Fl ((List GRecord) × Int × Int) ((List GRecord) × Int)) :=
 if (decide (s4.2.2 < (s4.1.length : Int))) = true then ((idx s4.1 s4.2.2).bind fun x9 => (idx (s4.1.set (s4.2.2).toNat (⟨s4.2.1, x9.Version, x9.Nonce, x9.Label, x9.Body, x9.Tag⟩ : GRecord)) s4.2.2).bind fun x12 => (ZG (Vq s4) (((s4.1.set (s4.2.2).toNat (⟨s4.2.1, x9.Version, x9.Nonce, x9.Label, x9.Body, x9.Tag⟩ : GRecord)).set (s4.2.2).toNat (⟨x12.Number, wr (s4.2.1 + 1), x12.Nonce, x12.Label, x12.Body, x12.Tag⟩ : GRecord)), wr ((wr (s4.2.1 + 1)) + 1), 0) : Option ((List GRecord) × Int)).bind fun j15 => (idx j15.1 s4.2.2).bind fun x30 => (Yo x30.Label j15.2).bind fun r39 => (idx (j15.1.set (s4.2.2).toNat (⟨x30.Number, x30.Version, x30.Nonce, r39.1, x30.Body, x30.Tag⟩ : GRecord)) s4.2.2).bind fun x41 => (Yo x41.Body r39.2).bind fun r50 => (ZG (Vp s4) (((j15.1.set (s4.2.2).toNat (⟨x30.Number, x30.Version, x30.Nonce, r39.1, x30.Body, x30.Tag⟩ : GRecord)).set (s4.2.2).toNat (⟨x41.Number, x41.Version, x41.Nonce, x41.Label, r50.1, x41.Tag⟩ : GRecord)), r50.2, 0) : Option ((List GRecord) × Int)).bind fun j52 => some (Fl.nx (j52.1, j52.2, wr (s4.2.2 + 1)))) else (some (Fl.ex (s4.1, s4.2.1)))
noncomputable def WN (p0 : (List GRecord)) (p1 : Int) : Option ((List GRecord) × Int) :=
 (ZG (Xi) (p0, p1, 0) : Option ((List GRecord) × Int)).bind fun j1 => some (j1.1, j1.2)
theorem K5 (St : Nat → Prop) (W w0 : World) (its : List Item) (p0 : (List GRecord)) (v0_1 : Value) (p1 : Int) (hM : M St W w0 (own NoB (p0 : (List GRecord)) [v0_1] :: its)) (r : (List GRecord) × Int) (hF : WN p0 p1 = some r) :
  Calls Tryz.prog 91 [v0_1, vI p1].toArray w0 (fun en w' => ∃ v, en = .returned v ∧ (v = (vI r.2) ∧ M St W w' (own NoB (r.1 : (List GRecord)) [v0_1] :: its))) := by
 refine ZD (n := 71) Tryz.func91 rfl rfl (Nat.le_of_ble_eq_true rfl) rfl ?_
 intro a hE
 unfold WN at hF
 refine Zc (Ze hE Za ld rfl fun a hE => Zf (wp_seq (Zc (Ze hE Za ld rfl fun a hE => Zf ?_))))
 obtain ⟨j1, hl2, hF3⟩ := bind_some hF
 refine ZR (fun a w => Env 71 a [(0, v0_1), (1, vI j1.2)] ∧ M St W w (own NoB (j1.1 : (List GRecord)) [v0_1] :: its)) ?_ ?_
 ·skip
  refine wp_block ?_
  refine ZK (fun (s4 : (List GRecord) × Int × Int) a w => Env 71 a [(0, v0_1), (1, vI s4.2.1), (5, vI s4.2.2)] ∧ M St W w (own NoB (s4.1 : (List GRecord)) [v0_1] :: its)) hl2 ⟨hE.sub ⟨rfl, rfl, rfl, trivial⟩, hM⟩ ?_
  rintro s4 a w ⟨hE, hM⟩ o7 hs5 hx6
  unfold Xi at hs5
  refine wp_seq (Zc (Zd hE Za ld rfl fun a hE => Zd hE Za ld rfl fun a hE => Z6 hE Za ld rfl Tryz.underlying33 (hM.ro (pre := []) noB) fun a hE => Zh hE Za ld rfl rfl rfl fun a hE => Zf ?_))
  refine Zv hE rfl ?_ ?_
  ·intro hb8
   have hs5 := ZA hs5 hb8
   refine wp_skip (Zz (wp_seq (wp_block (Zc (Zd hE Za ld rfl fun a hE => Zd hE Za ld rfl fun a hE => Zd hE Za ld rfl ?_))))); intro a hE
   obtain ⟨x9, e10, hs5⟩ := bind_some hs5
   have hi11 := ZO e10
   refine ZN hE Za ld rfl rfl Tryz.underlying33 Wx (hM.ro (pre := []) noB) hi11.1 fun a hE => Zg hE Za ld rfl (Td) ?_; intro a hE
   have hM := hM.toOsl (List.getElem?_eq_some_iff.1 hi11.2).1
   refine KC (i := (s4.2.2).toNat) (k0 := 0 + 0) (seg := [vI s4.2.1]) (xo := x9) (xn := (⟨s4.2.1, x9.Version, x9.Nonce, x9.Label, x9.Body, x9.Tag⟩ : GRecord)) hE hM noB Za rfl rfl rfl ty2 rfl (Flat.cell (s4.2.1 : Int)) hi11.2 (Qf (m := 1) rfl (by decide)) (fun S w cs f h => by obtain ⟨y1, y2, _, _, rfl, rfl, s1, s2⟩ := UF h; exact JA (Ys (pre := []) cl0 rfl) (UG s1 s2 (by simp))) ?_; intro w a hM hE
   have hM := hM.toOwn noB
   refine Zf (Zc (Zd hE Za ld rfl fun a hE => Zh hE Za ld rfl rfl rfl fun a hE => Ze hE Za ld rfl fun a hE => Zf (Zc (Zd hE Za ld rfl fun a hE => Zd hE Za ld rfl fun a hE => Zd hE Za ld rfl ?_)))); intro a hE
   obtain ⟨x12, e13, hs5⟩ := bind_some hs5
   have hi14 := ZO e13
   refine ZN hE Za ld rfl rfl Tryz.underlying33 Wx (hM.ro (pre := []) noB) hi14.1 fun a hE => Zg hE Za ld rfl (TO) ?_; intro a hE
   have hM := hM.toOsl (List.getElem?_eq_some_iff.1 hi14.2).1
   refine KC (i := (s4.2.2).toNat) (k0 := 0 + 1) (seg := [(vI (wr (s4.2.1 + 1)))]) (xo := x12) (xn := (⟨x12.Number, wr (s4.2.1 + 1), x12.Nonce, x12.Label, x12.Body, x12.Tag⟩ : GRecord)) hE hM noB Za rfl rfl rfl ty2 rfl (Flat.cell (wr (s4.2.1 + 1) : Int)) hi14.2 (Qf (m := 1) rfl (by decide)) (fun S w cs f h => by obtain ⟨y1, y2, _, _, rfl, rfl, s1, s2⟩ := UF h; exact JA (Ys (pre := [[vI x12.Number]]) (cl1 (n := 1) (m := 0) rfl cl0) rfl) (UG s1 s2 (by simp))) ?_; intro w a hM hE
   have hM := hM.toOwn noB
   refine Zf (Zc (Zd hE Za ld rfl fun a hE => Zh hE Za ld rfl rfl rfl fun a hE => Ze hE Za ld rfl fun a hE => Zf (wp_seq (Zc (Ze hE Za ld rfl fun a hE => Zf ?_)))))
   obtain ⟨j15, hl16, hF17⟩ := bind_some hs5
   refine ZR (fun a w => Env 71 a [(0, v0_1), (1, vI j15.2), (5, vI s4.2.2)] ∧ M St W w (own NoB (j15.1 : (List GRecord)) [v0_1] :: its)) ?_ ?_
   ·skip
    refine wp_block ?_
    refine ZK (fun (s18 : (List GRecord) × Int × Int) a w => Env 71 a [(0, v0_1), (1, vI s18.2.1), (5, vI s4.2.2), (6, vI s18.2.2)] ∧ M St W w (own NoB (s18.1 : (List GRecord)) [v0_1] :: its)) hl16 ⟨hE.sub ⟨rfl, rfl, rfl, rfl, trivial⟩, hM⟩ ?_
    rintro s18 a w ⟨hE, hM⟩ o21 hs19 hx20
    unfold Vq at hs19
    refine wp_seq (Zc (Zd hE Za ld rfl fun a hE => Zh hE Za ld rfl rfl rfl fun a hE => Zf ?_))
    refine Zv hE rfl ?_ ?_
    ·intro hb22
     have hs19 := ZA hs19 hb22
     refine wp_skip (Zz (wp_seq (wp_block (Zc (Zd hE Za ld rfl fun a hE => Zd hE Za ld rfl fun a hE => Zd hE Za ld rfl fun a hE => Zd hE Za ld rfl fun a hE => Yj hE Za ld rfl Tryz.underlying3 Tryz.underlying5 ?_))))); intro a hE
     rw [ZW] at hE
     obtain ⟨x23, e24, hs19⟩ := bind_some hs19
     have hi25 := ZO e24
     refine ZN hE Za ld rfl rfl Tryz.underlying33 Wx (hM.ro (pre := []) noB) hi25.1 fun a hE => Zg hE Za ld rfl (KA) ?_; intro a hE
     obtain ⟨x27, e28, hs19⟩ := bind_some hs19
     have hi26 := Zj e28
     refine Zn hE Za ld rfl rfl Tryz.underlying70 ty5 hi26.1 ?_; intro a hE
     have hM := hM.toOsl (List.getElem?_eq_some_iff.1 hi25.2).1
     refine KC (i := (s4.2.2).toNat) (k0 := 0 + 2 + (s18.2.2).toNat * 1) (seg := [(vB (Zr s18.2.1))]) (xo := x23) (xn := (⟨x23.Number, x23.Version, (x23.Nonce.setIfInBounds (s18.2.2).toNat (Zr s18.2.1)), x23.Label, x23.Body, x23.Tag⟩ : GRecord)) hE hM noB Za (H8 rfl (by show _ = _ + _ * 52 + _; omega)) rfl rfl ty5 rfl (Flat.cell (Zr s18.2.1 : UInt8)) hi25.2 (BW (m := 1) hi26.1 rfl (by decide)) (fun S w cs f h => by obtain ⟨y1, y2, _, _, rfl, rfl, s1, s2⟩ := UF h; exact JA (VV (o' := 0 + (s18.2.2).toNat * 1) (pre := [[vI x23.Number], [vI x23.Version]]) (seg := enc x23.Nonce) (post := [[y1], [y2], enc x23.Tag]) (cl1 (n := 1) (m := 1) rfl (cl1 (n := 1) (m := 0) rfl cl0)) (ZQ (v := x23.Nonce) (x := Zr s18.2.1) hi26.1) (ZJ (v := x23.Nonce) (x := Zr s18.2.1) hi26.1) (by first | omega | (simp only [Flat.n] <;> omega))) (UG s1 s2 (by simp))) ?_; intro w a hM hE
     have hM := hM.toOwn noB
     refine Zf (wp_region_lit (Zd hE Za ld rfl fun a hE => Zh hE Za ld rfl rfl rfl fun a hE => Ze hE Za ld rfl fun a hE => Zi (Ye (Zz (wp_region_lit (Zd hE Za ld rfl fun a hE => Zh hE Za ld rfl rfl rfl fun a hE => Ze hE Za ld rfl fun a hE => Zi (Zl ?_)))))))
     exact ⟨_, (Option.some.inj hs19).symm, hE.sub ⟨rfl, rfl, rfl, rfl, trivial⟩, hM⟩
    ·intro hb22
     have hs19 := ZB hs19 hb22
     refine wp_exit (Zp (Zp (Yc ?_)))
     have ht29 := hx20 _ (Option.some.inj hs19).symm
     subst ht29
     refine Zl ?_
     exact ⟨hE.sub ⟨rfl, rfl, rfl, trivial⟩, hM⟩
   ·skip
    rintro a w ⟨hE, hM⟩
    refine Zz (Zc (Zd hE Za ld rfl fun a hE => Zd hE Za ld rfl ?_)); intro a hE
    obtain ⟨x30, e31, hF17⟩ := bind_some hF17
    have hi32 := ZO e31
    refine ZN hE Za ld rfl rfl Tryz.underlying33 Wx (hM.ro (pre := []) noB) hi32.1 fun a hE => Zg hE Za ld rfl (Qn) ?_; intro a hE
    have hM := (hM.toOsl (List.getElem?_eq_some_iff.1 hi32.2).1).open1 noB hi32.2
    obtain ⟨cs33, hM, hA34⟩ := hM
    obtain ⟨_, hx, _⟩ := hM.head
    obtain ⟨u35, u36, _, _, rfl, _, _, _⟩ := UF hx
    have hM := hM.unpackL (m := [own NoB (x30.Label : (List UInt8)) [u35], own NoB (x30.Body : (List UInt8)) [u36]]) (fun fp h => by obtain ⟨_, _, rfl, s1, s2⟩ := HB h; exact (XO.cons (Ve noB) s1 (XO.one (Ve noB) s2)))
    simp only [List.cons_append, List.nil_append] at hM
    refine Zq (v := u35) hE Za ld rfl Ua rfl (At.cat (pre := [[vI x30.Number], [vI x30.Version], enc x30.Nonce]) hA34 (cl1 (n := 1) (m := 17) rfl (cl1 (n := 1) (m := 16) rfl (cl1 (n := 16) (m := 0) (Flat.len _) cl0)))) fun a hE => Zd hE Za ld rfl ?_; intro a hE
    obtain ⟨r39, e40, hF17⟩ := bind_some hF17
    refine Zs hE Za ld rfl cb30 (TS _ _ _ _ x30.Label u35 j15.2 hM r39 e40) ?_
    rintro v w a ⟨rfl, hM⟩ hE
    have hM := hM.pull (pre := [_, _])
    have hM := hM.pull (pre := [_, _])
    have hM := hM.pull (pre := [_, _])
    have hM := hM.packL (m := [own NoB (r39.1 : (List UInt8)) [u35], own NoB (x30.Body : (List UInt8)) [u36]]) (it := own NoB (⟨x30.Number, x30.Version, x30.Nonce, r39.1, x30.Body, x30.Tag⟩ : GRecord) (cat [[vI x30.Number], [vI x30.Version], enc x30.Nonce, [u35], [u36], enc x30.Tag])) (Ve noB) (fun fp h => by obtain ⟨_, _, rfl, _, s1, _, _, rfl, _, s2, rfl⟩ := h; exact UG s1 s2 (by simp))
    have hM := (hM.close1 noB).toOwn noB
    refine Ze hE Za ld rfl fun a hE => Zf (Zc (Zd hE Za ld rfl fun a hE => Zd hE Za ld rfl ?_)); intro a hE
    obtain ⟨x41, e42, hF17⟩ := bind_some hF17
    have hi43 := ZO e42
    refine ZN hE Za ld rfl rfl Tryz.underlying33 Wx (hM.ro (pre := []) noB) hi43.1 fun a hE => Zg hE Za ld rfl (QA) ?_; intro a hE
    have hM := (hM.toOsl (List.getElem?_eq_some_iff.1 hi43.2).1).open1 noB hi43.2
    obtain ⟨cs44, hM, hA45⟩ := hM
    obtain ⟨_, hx, _⟩ := hM.head
    obtain ⟨u46, u47, _, _, rfl, _, _, _⟩ := UF hx
    have hM := hM.unpackL (m := [own NoB (x41.Label : (List UInt8)) [u46], own NoB (x41.Body : (List UInt8)) [u47]]) (fun fp h => by obtain ⟨_, _, rfl, s1, s2⟩ := HB h; exact (XO.cons (Ve noB) s1 (XO.one (Ve noB) s2)))
    simp only [List.cons_append, List.nil_append] at hM
    refine Zq (v := u47) hE Za ld rfl Ua rfl (At.cat (pre := [[vI x41.Number], [vI x41.Version], enc x41.Nonce, [u46]]) hA45 (cl1 (n := 1) (m := 18) rfl (cl1 (n := 1) (m := 17) rfl (cl1 (n := 16) (m := 1) (Flat.len _) (cl1 (n := 1) (m := 0) rfl cl0))))) fun a hE => Zd hE Za ld rfl ?_; intro a hE
    have hM := hM.pull (pre := [_])
    obtain ⟨r50, e51, hF17⟩ := bind_some hF17
    refine Zs hE Za ld rfl cb30 (TS _ _ _ _ x41.Body u47 r39.2 hM r50 e51) ?_
    rintro v w a ⟨rfl, hM⟩ hE
    have hM := hM.pull (pre := [_, _])
    have hM := hM.pull (pre := [_])
    have hM := hM.pull (pre := [_, _])
    have hM := hM.packL (m := [own NoB (x41.Label : (List UInt8)) [u46], own NoB (r50.1 : (List UInt8)) [u47]]) (it := own NoB (⟨x41.Number, x41.Version, x41.Nonce, x41.Label, r50.1, x41.Tag⟩ : GRecord) (cat [[vI x41.Number], [vI x41.Version], enc x41.Nonce, [u46], [u47], enc x41.Tag])) (Ve noB) (fun fp h => by obtain ⟨_, _, rfl, _, s1, _, _, rfl, _, s2, rfl⟩ := h; exact UG s1 s2 (by simp))
    have hM := (hM.close1 noB).toOwn noB
    refine Ze hE Za ld rfl fun a hE => Zf (Zc (Ze hE Za ld rfl fun a hE => Zf ?_))
    obtain ⟨j52, hl53, hF54⟩ := bind_some hF17
    refine ZR (fun a w => Env 71 a [(0, v0_1), (1, vI j52.2), (5, vI s4.2.2)] ∧ M St W w (own NoB (j52.1 : (List GRecord)) [v0_1] :: its)) ?_ ?_
    ·skip
     refine wp_block ?_
     refine ZK (fun (s55 : (List GRecord) × Int × Int) a w => Env 71 a [(0, v0_1), (1, vI s55.2.1), (5, vI s4.2.2), (7, vI s55.2.2)] ∧ M St W w (own NoB (s55.1 : (List GRecord)) [v0_1] :: its)) hl53 ⟨hE.sub ⟨rfl, rfl, rfl, rfl, trivial⟩, hM⟩ ?_
     rintro s55 a w ⟨hE, hM⟩ o58 hs56 hx57
     unfold Vp at hs56
     refine wp_seq (Zc (Zd hE Za ld rfl fun a hE => Zh hE Za ld rfl rfl rfl fun a hE => Zf ?_))
     refine Zv hE rfl ?_ ?_
     ·intro hb59
      have hs56 := ZA hs56 hb59
      refine wp_skip (Zz (wp_seq (wp_block (Zc (Zd hE Za ld rfl fun a hE => Zd hE Za ld rfl fun a hE => Zd hE Za ld rfl fun a hE => Zd hE Za ld rfl fun a hE => Yj hE Za ld rfl Tryz.underlying3 Tryz.underlying5 ?_))))); intro a hE
      rw [ZW] at hE
      obtain ⟨x60, e61, hs56⟩ := bind_some hs56
      have hi62 := ZO e61
      refine ZN hE Za ld rfl rfl Tryz.underlying33 Wx (hM.ro (pre := []) noB) hi62.1 fun a hE => Zg hE Za ld rfl (J9) ?_; intro a hE
      obtain ⟨x64, e65, hs56⟩ := bind_some hs56
      have hi63 := Zj e65
      refine Zn hE Za ld rfl rfl Tryz.underlying29 ty5 hi63.1 ?_; intro a hE
      have hM := hM.toOsl (List.getElem?_eq_some_iff.1 hi62.2).1
      refine KC (i := (s4.2.2).toNat) (k0 := 0 + 20 + (s55.2.2).toNat * 1) (seg := [(vB (Zr s55.2.1))]) (xo := x60) (xn := (⟨x60.Number, x60.Version, x60.Nonce, x60.Label, x60.Body, (x60.Tag.setIfInBounds (s55.2.2).toNat (Zr s55.2.1))⟩ : GRecord)) hE hM noB Za (H8 rfl (by show _ = _ + _ * 52 + _; omega)) rfl rfl ty5 rfl (Flat.cell (Zr s55.2.1 : UInt8)) hi62.2 (BW (m := 1) hi63.1 rfl (by decide)) (fun S w cs f h => by obtain ⟨y1, y2, _, _, rfl, rfl, s1, s2⟩ := UF h; exact JA (VV (o' := 0 + (s55.2.2).toNat * 1) (pre := [[vI x60.Number], [vI x60.Version], enc x60.Nonce, [y1], [y2]]) (seg := enc x60.Tag) (post := []) (cl1 (n := 1) (m := 19) rfl (cl1 (n := 1) (m := 18) rfl (cl1 (n := 16) (m := 2) (Flat.len _) (cl1 (n := 1) (m := 1) rfl (cl1 (n := 1) (m := 0) rfl cl0))))) (ZQ (v := x60.Tag) (x := Zr s55.2.1) hi63.1) (ZJ (v := x60.Tag) (x := Zr s55.2.1) hi63.1) (by first | omega | (simp only [Flat.n] <;> omega))) (UG s1 s2 (by simp))) ?_; intro w a hM hE
      have hM := hM.toOwn noB
      refine Zf (wp_region_lit (Zd hE Za ld rfl fun a hE => Zh hE Za ld rfl rfl rfl fun a hE => Ze hE Za ld rfl fun a hE => Zi (Ye (Zz (wp_region_lit (Zd hE Za ld rfl fun a hE => Zh hE Za ld rfl rfl rfl fun a hE => Ze hE Za ld rfl fun a hE => Zi (Zl ?_)))))))
      exact ⟨_, (Option.some.inj hs56).symm, hE.sub ⟨rfl, rfl, rfl, rfl, trivial⟩, hM⟩
     ·intro hb59
      have hs56 := ZB hs56 hb59
      refine wp_exit (Zp (Zp (Yc ?_)))
      have ht66 := hx57 _ (Option.some.inj hs56).symm
      subst ht66
      refine Zl ?_
      exact ⟨hE.sub ⟨rfl, rfl, rfl, trivial⟩, hM⟩
    ·skip
     rintro a w ⟨hE, hM⟩
     refine Ye (Zz (wp_region_lit (Zd hE Za ld rfl fun a hE => Zh hE Za ld rfl rfl rfl fun a hE => Ze hE Za ld rfl fun a hE => Zi (Zl ?_))))
     exact ⟨_, (Option.some.inj hF54).symm, hE.sub ⟨rfl, rfl, rfl, trivial⟩, hM⟩
  ·intro hb8
   have hs5 := ZB hs5 hb8
   refine wp_exit (Zp (Zp (Yc ?_)))
   have ht67 := hx6 _ (Option.some.inj hs5).symm
   subst ht67
   refine Zl ?_
   exact ⟨hE.sub ⟨rfl, rfl, trivial⟩, hM⟩
 ·skip
  rintro a w ⟨hE, hM⟩
  refine Zz (Zc (Zd hE Za ld rfl fun a hE => Ze hE Za ld rfl fun a hE => Zf ?_))
  have hr := Option.some.inj hF3
  subst hr
  exact wp_ret (Zy hE (by rfl) (Zu hE rfl) ⟨_, rfl, rfl, hM⟩)
noncomputable def VY (s4 : (List GEvent) × Int × Int) (s18 : (List GEvent) × Int × Int) : Option (Fl ((List GEvent) × Int × Int) ((List GEvent) × Int)) :=
 if (decide (s18.2.2 < 32)) = true then ((idx s18.1 s4.2.2).bind fun x23 => (ZM x23.Tag s18.2.2).bind fun x27 => some (Fl.nx ((s18.1.set (s4.2.2).toNat (⟨x23.Kind, x23.Number, (x23.Tag.setIfInBounds (s18.2.2).toNat (Zr s18.2.1))⟩ : GEvent)), wr (s18.2.1 + 1), wr (s18.2.2 + 1)))) else (some (Fl.ex (s18.1, s18.2.1)))
noncomputable def Xw (s4 : (List GEvent) × Int × Int) : Option (Fl ((List GEvent) × Int × Int) ((List GEvent) × Int)) :=
 if (decide (s4.2.2 < (s4.1.length : Int))) = true then ((idx s4.1 s4.2.2).bind fun x9 => (idx (s4.1.set (s4.2.2).toNat (⟨s4.2.1, x9.Number, x9.Tag⟩ : GEvent)) s4.2.2).bind fun x12 => (ZG (VY s4) (((s4.1.set (s4.2.2).toNat (⟨s4.2.1, x9.Number, x9.Tag⟩ : GEvent)).set (s4.2.2).toNat (⟨x12.Kind, wr (s4.2.1 + 1), x12.Tag⟩ : GEvent)), wr ((wr (s4.2.1 + 1)) + 1), 0) : Option ((List GEvent) × Int)).bind fun j15 => some (Fl.nx (j15.1, j15.2, wr (s4.2.2 + 1)))) else (some (Fl.ex (s4.1, s4.2.1)))
noncomputable def W4 (p0 : (List GEvent)) (p1 : Int) : Option ((List GEvent) × Int) :=
 (ZG (Xw) (p0, p1, 0) : Option ((List GEvent) × Int)).bind fun j1 => some (j1.1, j1.2)
theorem JS (St : Nat → Prop) (W w0 : World) (its : List Item) (p0 : (List GEvent)) (v0_1 : Value) (p1 : Int) (hM : M St W w0 (own NoB (p0 : (List GEvent)) [v0_1] :: its)) (r : (List GEvent) × Int) (hF : W4 p0 p1 = some r) :
  Calls Tryz.prog 92 [v0_1, vI p1].toArray w0 (fun en w' => ∃ v, en = .returned v ∧ (v = (vI r.2) ∧ M St W w' (own NoB (r.1 : (List GEvent)) [v0_1] :: its))) := by
 refine ZD (n := 42) Tryz.func92 rfl rfl (Nat.le_of_ble_eq_true rfl) rfl ?_
 intro a hE
 unfold W4 at hF
 refine Zc (Ze hE Za ld rfl fun a hE => Zf (wp_seq (Zc (Ze hE Za ld rfl fun a hE => Zf ?_))))
 obtain ⟨j1, hl2, hF3⟩ := bind_some hF
 refine ZR (fun a w => Env 42 a [(0, v0_1), (1, vI j1.2)] ∧ M St W w (own NoB (j1.1 : (List GEvent)) [v0_1] :: its)) ?_ ?_
 ·skip
  refine wp_block ?_
  refine ZK (fun (s4 : (List GEvent) × Int × Int) a w => Env 42 a [(0, v0_1), (1, vI s4.2.1), (5, vI s4.2.2)] ∧ M St W w (own NoB (s4.1 : (List GEvent)) [v0_1] :: its)) hl2 ⟨hE.sub ⟨rfl, rfl, rfl, trivial⟩, hM⟩ ?_
  rintro s4 a w ⟨hE, hM⟩ o7 hs5 hx6
  unfold Xw at hs5
  refine wp_seq (Zc (Zd hE Za ld rfl fun a hE => Zd hE Za ld rfl fun a hE => Z6 hE Za ld rfl Tryz.underlying34 (hM.ro (pre := []) noB) fun a hE => Zh hE Za ld rfl rfl rfl fun a hE => Zf ?_))
  refine Zv hE rfl ?_ ?_
  ·intro hb8
   have hs5 := ZA hs5 hb8
   refine wp_skip (Zz (wp_seq (wp_block (Zc (Zd hE Za ld rfl fun a hE => Zd hE Za ld rfl fun a hE => Zd hE Za ld rfl ?_))))); intro a hE
   obtain ⟨x9, e10, hs5⟩ := bind_some hs5
   have hi11 := ZO e10
   refine ZN hE Za ld rfl rfl Tryz.underlying34 UJ (hM.ro (pre := []) noB) hi11.1 fun a hE => Zg hE Za ld rfl (KJ) ?_; intro a hE
   have hM := hM.toOsl (List.getElem?_eq_some_iff.1 hi11.2).1
   refine TH (i := (s4.2.2).toNat) (k0 := 0 + 0) (seg := [vI s4.2.1]) (xo := x9) (xn := (⟨s4.2.1, x9.Number, x9.Tag⟩ : GEvent)) hE hM Za rfl rfl rfl ty2 rfl (Flat.cell (s4.2.1 : Int)) hi11.2 (Qf (m := 1) rfl (by decide)) (Ys (pre := []) cl0 rfl) ?_; intro w a hM hE
   have hM := hM.toOwn noB
   refine Zf (Zc (Zd hE Za ld rfl fun a hE => Zh hE Za ld rfl rfl rfl fun a hE => Ze hE Za ld rfl fun a hE => Zf (Zc (Zd hE Za ld rfl fun a hE => Zd hE Za ld rfl fun a hE => Zd hE Za ld rfl ?_)))); intro a hE
   obtain ⟨x12, e13, hs5⟩ := bind_some hs5
   have hi14 := ZO e13
   refine ZN hE Za ld rfl rfl Tryz.underlying34 UJ (hM.ro (pre := []) noB) hi14.1 fun a hE => Zg hE Za ld rfl (KK) ?_; intro a hE
   have hM := hM.toOsl (List.getElem?_eq_some_iff.1 hi14.2).1
   refine TH (i := (s4.2.2).toNat) (k0 := 0 + 1) (seg := [(vI (wr (s4.2.1 + 1)))]) (xo := x12) (xn := (⟨x12.Kind, wr (s4.2.1 + 1), x12.Tag⟩ : GEvent)) hE hM Za rfl rfl rfl ty2 rfl (Flat.cell (wr (s4.2.1 + 1) : Int)) hi14.2 (Qf (m := 1) rfl (by decide)) (Ys (pre := [[vI x12.Kind]]) (cl1 (n := 1) (m := 0) rfl cl0) rfl) ?_; intro w a hM hE
   have hM := hM.toOwn noB
   refine Zf (Zc (Zd hE Za ld rfl fun a hE => Zh hE Za ld rfl rfl rfl fun a hE => Ze hE Za ld rfl fun a hE => Zf (Zc (Ze hE Za ld rfl fun a hE => Zf ?_))))
   obtain ⟨j15, hl16, hF17⟩ := bind_some hs5
   refine ZR (fun a w => Env 42 a [(0, v0_1), (1, vI j15.2), (5, vI s4.2.2)] ∧ M St W w (own NoB (j15.1 : (List GEvent)) [v0_1] :: its)) ?_ ?_
   ·skip
    refine wp_block ?_
    refine ZK (fun (s18 : (List GEvent) × Int × Int) a w => Env 42 a [(0, v0_1), (1, vI s18.2.1), (5, vI s4.2.2), (6, vI s18.2.2)] ∧ M St W w (own NoB (s18.1 : (List GEvent)) [v0_1] :: its)) hl16 ⟨hE.sub ⟨rfl, rfl, rfl, rfl, trivial⟩, hM⟩ ?_
    rintro s18 a w ⟨hE, hM⟩ o21 hs19 hx20
    unfold VY at hs19
    refine wp_seq (Zc (Zd hE Za ld rfl fun a hE => Zh hE Za ld rfl rfl rfl fun a hE => Zf ?_))
    refine Zv hE rfl ?_ ?_
    ·intro hb22
     have hs19 := ZA hs19 hb22
     refine wp_skip (Zz (wp_seq (wp_block (Zc (Zd hE Za ld rfl fun a hE => Zd hE Za ld rfl fun a hE => Zd hE Za ld rfl fun a hE => Zd hE Za ld rfl fun a hE => Yj hE Za ld rfl Tryz.underlying3 Tryz.underlying5 ?_))))); intro a hE
     rw [ZW] at hE
     obtain ⟨x23, e24, hs19⟩ := bind_some hs19
     have hi25 := ZO e24
     refine ZN hE Za ld rfl rfl Tryz.underlying34 UJ (hM.ro (pre := []) noB) hi25.1 fun a hE => Zg hE Za ld rfl (Bh) ?_; intro a hE
     obtain ⟨x27, e28, hs19⟩ := bind_some hs19
     have hi26 := Zj e28
     refine Zn hE Za ld rfl rfl Tryz.underlying29 ty5 hi26.1 ?_; intro a hE
     have hM := hM.toOsl (List.getElem?_eq_some_iff.1 hi25.2).1
     refine TH (i := (s4.2.2).toNat) (k0 := 0 + 2 + (s18.2.2).toNat * 1) (seg := [(vB (Zr s18.2.1))]) (xo := x23) (xn := (⟨x23.Kind, x23.Number, (x23.Tag.setIfInBounds (s18.2.2).toNat (Zr s18.2.1))⟩ : GEvent)) hE hM Za (H8 rfl (by show _ = _ + _ * 34 + _; omega)) rfl rfl ty5 rfl (Flat.cell (Zr s18.2.1 : UInt8)) hi25.2 (BW (m := 1) hi26.1 rfl (by decide)) (VV (o' := 0 + (s18.2.2).toNat * 1) (pre := [[vI x23.Kind], [vI x23.Number]]) (seg := enc x23.Tag) (post := []) (cl1 (n := 1) (m := 1) rfl (cl1 (n := 1) (m := 0) rfl cl0)) (ZQ (v := x23.Tag) (x := Zr s18.2.1) hi26.1) (ZJ (v := x23.Tag) (x := Zr s18.2.1) hi26.1) (by first | omega | (simp only [Flat.n] <;> omega))) ?_; intro w a hM hE
     have hM := hM.toOwn noB
     refine Zf (wp_region_lit (Zd hE Za ld rfl fun a hE => Zh hE Za ld rfl rfl rfl fun a hE => Ze hE Za ld rfl fun a hE => Zi (Ye (Zz (wp_region_lit (Zd hE Za ld rfl fun a hE => Zh hE Za ld rfl rfl rfl fun a hE => Ze hE Za ld rfl fun a hE => Zi (Zl ?_)))))))
     exact ⟨_, (Option.some.inj hs19).symm, hE.sub ⟨rfl, rfl, rfl, rfl, trivial⟩, hM⟩
    ·intro hb22
     have hs19 := ZB hs19 hb22
     refine wp_exit (Zp (Zp (Yc ?_)))
     have ht29 := hx20 _ (Option.some.inj hs19).symm
     subst ht29
     refine Zl ?_
     exact ⟨hE.sub ⟨rfl, rfl, rfl, trivial⟩, hM⟩
   ·skip
    rintro a w ⟨hE, hM⟩
    refine Ye (Zz (wp_region_lit (Zd hE Za ld rfl fun a hE => Zh hE Za ld rfl rfl rfl fun a hE => Ze hE Za ld rfl fun a hE => Zi (Zl ?_))))
    exact ⟨_, (Option.some.inj hF17).symm, hE.sub ⟨rfl, rfl, rfl, trivial⟩, hM⟩
  ·intro hb8
   have hs5 := ZB hs5 hb8
   refine wp_exit (Zp (Zp (Yc ?_)))
   have ht30 := hx6 _ (Option.some.inj hs5).symm
   subst ht30
   refine Zl ?_
   exact ⟨hE.sub ⟨rfl, rfl, trivial⟩, hM⟩
 ·skip
  rintro a w ⟨hE, hM⟩
  refine Zz (Zc (Zd hE Za ld rfl fun a hE => Ze hE Za ld rfl fun a hE => Zf ?_))
  have hr := Option.some.inj hF3
  subst hr
  exact wp_ret (Zy hE (by rfl) (Zu hE rfl) ⟨_, rfl, rfl, hM⟩)
noncomputable def VC (p0 : GVault) (p1 : Int) : Option (GVault × Int) :=
 (Vh p0.Keys p1).bind fun r3 => (WN p0.Records r3.2).bind fun r5 => (W4 p0.Events r5.2).bind fun r7 => some ((⟨r3.1, p0.Next, r5.1, r7.1, p0.Head⟩ : GVault), r7.2)
theorem J7 (St : Nat → Prop) (W w0 : World) (its : List Item) (p0 : GVault) (v0_1 : Value) (v0_2 : Value) (v0_3 : Value) (p1 : Int) (hM : M St W w0 (own NoB (p0.Keys : (List (Vector UInt8 16))) [v0_1] :: own NoB (p0.Records : (List GRecord)) [v0_2] :: own NoB (p0.Events : (List GEvent)) [v0_3] :: its)) (r : GVault × Int) (hF : VC p0 p1 = some r) :
  Calls Tryz.prog 29 [(Value.agg (cat [[v0_1], [vI p0.Next], [v0_2], [v0_3], enc p0.Head]).toArray), vI p1].toArray w0 (fun en w' => ∃ v, en = .returned v ∧ (v = (vI r.2) ∧ M St W w' (own NoB (r.1.Keys : (List (Vector UInt8 16))) [v0_1] :: own NoB (r.1.Records : (List GRecord)) [v0_2] :: own NoB (r.1.Events : (List GEvent)) [v0_3] :: its))) := by
 refine ZD (n := 18) Tryz.func29 rfl rfl (Nat.le_of_ble_eq_true rfl) rfl ?_
 intro a hE
 unfold VC at hF
 refine Zc (ZX (cs := cat [[v0_1], [vI p0.Next], [v0_2], [v0_3], enc p0.Head]) hE hM Za ld rfl rfl fun b1 w a hM hE => Ze hE Za ld rfl fun a hE => Zf (Zc (Zg hE Za ld rfl (Tu) fun a hE => Zq (v := v0_1) hE Za ld rfl KN rfl (At.cat (pre := []) (hM.rawAt (pre := [])) cl0) fun a hE => Zd hE Za ld rfl ?_))); intro a hE
 have hM := hM.pull (pre := [_])
 obtain ⟨r3, e4, hF⟩ := bind_some hF
 refine Zs hE Za ld rfl cb90 (JF _ _ _ _ p0.Keys v0_1 p1 hM r3 e4) ?_
 rintro v w a ⟨rfl, hM⟩ hE
 refine Ze hE Za ld rfl fun a hE => Zf (Zc (Zg hE Za ld rfl (Ut) fun a hE => Zq (v := v0_2) hE Za ld rfl QV rfl (At.cat (pre := [[v0_1], [vI p0.Next]]) (hM.rawAt (pre := [_])) (cl1 (n := 1) (m := 1) rfl (cl1 (n := 1) (m := 0) rfl cl0))) fun a hE => Zd hE Za ld rfl ?_)); intro a hE
 have hM := hM.pull (pre := [_, _])
 obtain ⟨r5, e6, hF⟩ := bind_some hF
 refine Zs hE Za ld rfl cb91 (K5 _ _ _ _ p0.Records v0_2 r3.2 hM r5 e6) ?_
 rintro v w a ⟨rfl, hM⟩ hE
 refine Ze hE Za ld rfl fun a hE => Zf (Zc (Zg hE Za ld rfl (QW) fun a hE => Zq (v := v0_3) hE Za ld rfl Ap rfl (At.cat (pre := [[v0_1], [vI p0.Next], [v0_2]]) (hM.rawAt (pre := [_, _])) (cl1 (n := 1) (m := 2) rfl (cl1 (n := 1) (m := 1) rfl (cl1 (n := 1) (m := 0) rfl cl0)))) fun a hE => Zd hE Za ld rfl ?_)); intro a hE
 have hM := hM.pull (pre := [_, _, _])
 obtain ⟨r7, e8, hF⟩ := bind_some hF
 refine Zs hE Za ld rfl cb92 (JS _ _ _ _ p0.Events v0_3 r5.2 hM r7 e8) ?_
 rintro v w a ⟨rfl, hM⟩ hE
 refine Ze hE Za ld rfl fun a hE => Zf (Zc (Zd hE Za ld rfl fun a hE => Ze hE Za ld rfl fun a hE => Zf ?_))
 have hr := Option.some.inj hF
 subst hr
 have hM := hM.pull (pre := [_])
 have hM := hM.pull (pre := [_, _])
 have hM := (hM.pull (pre := [_, _, _])).drop
 exact wp_ret (Zy hE (by rfl) (Zu hE rfl) ⟨_, rfl, rfl, hM⟩)
noncomputable def W9 (p0 : (List UInt8)) (s5 : Int × Int) : Option (Fl (Int × Int) (Fl Int Int)) :=
 if (decide (s5.2 < (p0.length : Int))) = true then ((idx p0 s5.2).bind fun x10 => if (x10 != (Zr s5.1)) = true then (some (Fl.ex (Fl.ex (-1)))) else (some (Fl.nx (wr (s5.1 + 1), wr (s5.2 + 1))))) else (some (Fl.ex (Fl.nx s5.1)))
noncomputable def Wu (p0 : (List UInt8)) (p1 : Int) : Option (Int) :=
 (ZG (W9 p0) (p1, 0) : Option (Fl Int Int)).bind fun j1 => j1.el (fun s4 => some s4) (fun r => some r)
theorem QL (w0 : World) (p0 : (List UInt8)) (v0_1 : Value) (hv0_1 : Ro w0 p0 [v0_1]) (p1 : Int) (r : Int) (hF : Wu p0 p1 = some r) :
  Calls Tryz.prog 31 [v0_1, vI p1].toArray w0 (fun en w' => ∃ v, en = .returned v ∧ (v = (vI r) ∧ Kept (Old w0) w0 w')) := by
 refine ZD (n := 22) Tryz.func31 rfl rfl (Nat.le_of_ble_eq_true rfl) rfl ?_
 intro a hE
 have hM := M.start w0
 unfold Wu at hF
 refine Zc (Ze hE Za ld rfl fun a hE => Zf (wp_seq (Zc (Ze hE Za ld rfl fun a hE => Zf ?_))))
 obtain ⟨j1, hl2, hF3⟩ := bind_some hF
 refine ZR (fun a w => ∃ s4 : Int, j1 = Fl.nx s4 ∧ Env 22 a [(1, vI s4)] ∧ M (Old w0) w0 w []) ?_ ?_
 ·skip
  refine wp_block ?_
  refine ZK (fun (s5 : Int × Int) a w => Env 22 a [(0, v0_1), (1, vI s5.1), (5, vI s5.2)] ∧ M (Old w0) w0 w []) hl2 ⟨hE.sub ⟨rfl, rfl, rfl, trivial⟩, hM⟩ ?_
  rintro s5 a w ⟨hE, hM⟩ o8 hs6 hx7
  unfold W9 at hs6
  refine wp_seq (Zc (Zd hE Za ld rfl fun a hE => Zd hE Za ld rfl fun a hE => Z6 hE Za ld rfl Tryz.underlying57 (hM.rd hv0_1) fun a hE => Zh hE Za ld rfl rfl rfl fun a hE => Zf ?_))
  refine Zv hE rfl ?_ ?_
  ·intro hb9
   have hs6 := ZA hs6 hb9
   refine wp_skip (Zz (wp_seq (wp_block (wp_seq (Zc (Zd hE Za ld rfl fun a hE => Zd hE Za ld rfl ?_)))))); intro a hE
   obtain ⟨x10, e11, hs6⟩ := bind_some hs6
   have hi12 := ZO e11
   refine ZN hE Za ld rfl rfl Tryz.underlying57 ty5 (hM.rd hv0_1) hi12.1 fun a hE => Zq (v := (vB x10)) hE Za ld rfl ty5 rfl (Xa (hM.rd hv0_1) hi12.2) fun a hE => Zd hE Za ld rfl fun a hE => Yj hE Za ld rfl Tryz.underlying3 Tryz.underlying5 ?_; intro a hE
   rw [ZW] at hE
   refine Zh hE Za ld rfl rfl (BJ x10 (Zr s5.1)) fun a hE => Zf ?_
   refine Zv hE rfl ?_ ?_
   ·intro hb13
    have hs6 := ZA hs6 hb13
    refine Zc (Ze hE Za ld rfl fun a hE => Zf ?_)
    have ht14 := hx7 _ (Option.some.inj hs6).symm
    subst ht14
    have hr := Option.some.inj hF3
    subst hr
    exact wp_ret (ZE (Wl (ZE (ZE (Wl (ZE (ZE (Zy hE rfl (Zu hE rfl) ⟨_, rfl, rfl, hM.kept⟩))))))))
   ·intro hb13
    have hs6 := ZB hs6 hb13
    refine wp_skip (Zz (wp_region_lit (Zd hE Za ld rfl fun a hE => Zh hE Za ld rfl rfl rfl fun a hE => Ze hE Za ld rfl fun a hE => Zi (Ye (Zz (wp_region_lit (Zd hE Za ld rfl fun a hE => Zh hE Za ld rfl rfl rfl fun a hE => Ze hE Za ld rfl fun a hE => Zi (Zl ?_))))))))
    exact ⟨_, (Option.some.inj hs6).symm, hE.sub ⟨rfl, rfl, rfl, trivial⟩, hM⟩
  ·intro hb9
   have hs6 := ZB hs6 hb9
   refine wp_exit (Zp (Zp (Yc ?_)))
   have ht15 := hx7 _ (Option.some.inj hs6).symm
   subst ht15
   refine Zl ?_
   exact ⟨s5.1, rfl, hE.sub ⟨rfl, trivial⟩, hM⟩
 ·skip
  rintro a w ⟨s4, ht, hE, hM⟩
  subst ht
  have hF3 := Qo hF3
  refine Zz (Zc (Zd hE Za ld rfl fun a hE => Ze hE Za ld rfl fun a hE => Zf ?_))
  have hr := Option.some.inj hF3
  subst hr
  exact wp_ret (Zy hE rfl (Zu hE rfl) ⟨_, rfl, rfl, hM.kept⟩)
noncomputable def XA (p0 : GVault) (p1 : Int) : Option (Bool) :=
 (TM p0 1048576).bind fun r3 => if (decide (r3 < 0)) = true then (some true) else ((XD p0).bind fun r6 => (W6 r6 p1).bind fun r11 => (XD p0).bind fun r14 => (X6 r14 p1).bind fun r21 => ((Y9 r21.1 r11.1).bind fun r27 => if (!r27) = true then (some true) else (some (r21.2 != r11.2)) : Option (Bool)).bind fun j24 => if j24 = true then (some false) else (((XD p0).bind fun r37 => (UP r14 r37).bind fun r46 => some (!r46) : Option (Bool)).bind fun j33 => if j33 = true then (some false) else ((VC r14 1).bind fun r50 => (if (decide (r50.2 < 0)) = true then (some true) else ((Y9 r21.1 r11.1).bind fun r57 => if (!r57) = true then (some true) else (some (r21.2 != r11.2))) : Option (Bool)).bind fun j52 => if j52 = true then (some false) else ((Yo r21.1 1).bind fun r63 => (Wu r63.1 1).bind fun r65 => if (decide (r65 < 0)) = true then (some false) else (if (r65 != r63.2) = true then (some false) else ((XD p0).bind fun r69 => (X6 r69 p1).bind fun r74 => ((Y9 r74.1 r11.1).bind fun r80 => if (!r80) = true then (some true) else (some (r74.2 != r11.2)) : Option (Bool)).bind fun j77 => if j77 = true then (some false) else ((Wu r63.1 1).bind fun r86 => if (decide (r86 < 0)) = true then (some false) else (if (r86 != r63.2) = true then (some false) else (some true)))))))))
theorem QC (w0 : World) (p0 : GVault) (v0_1 : Value) (hv0_1 : Ro w0 p0.Keys [v0_1]) (v0_2 : Value) (hv0_2 : Ro w0 p0.Records [v0_2]) (v0_3 : Value) (hv0_3 : Ro w0 p0.Events [v0_3]) (p1 : Int) (r : Bool) (hF : XA p0 p1 = some r) :
  Calls Tryz.prog 5 [(Value.agg (cat [[v0_1], [vI p0.Next], [v0_2], [v0_3], enc p0.Head]).toArray), vI p1].toArray w0 (fun en w' => ∃ v, en = .returned v ∧ (v = (vT r) ∧ Kept (Old w0) w0 w')) := by
 refine ZD (n := 101) Tryz.func5 rfl rfl (Nat.le_of_ble_eq_true rfl) rfl ?_
 intro a hE
 have hM := M.start w0
 unfold XA at hF
 refine Zc (ZX (cs := cat [[v0_1], [vI p0.Next], [v0_2], [v0_3], enc p0.Head]) hE hM Za ld rfl rfl fun b1 w a hM hE => Ze hE Za ld rfl fun a hE => Zf (Zc (Ze hE Za ld rfl fun a hE => Zf (Zc (Zm (cs := cat [[v0_1], [vI p0.Next], [v0_2], [v0_3], enc p0.Head]) hE Za ld rfl Aa rfl (hM.rawAt (pre := [])) (ZC (cl1 (n := 1) (m := 35) rfl (cl1 (n := 1) (m := 34) rfl (cl1 (n := 1) (m := 33) rfl (cl1 (n := 1) (m := 32) rfl (cl1 (n := 32) (m := 0) (Flat.len _) cl0)))))) fun a hE => Zd hE Za ld rfl ?_))))); intro a hE
 obtain ⟨r3, e4, hF⟩ := bind_some hF
 refine Zs hE Za ld rfl cb12 (Bk _ p0 v0_1 (hM.rdo hv0_1) v0_2 (hM.rdo hv0_2) v0_3 (hM.rdo hv0_3) 1048576 r3 e4) ?_
 rintro v w a ⟨rfl, hK⟩ hE
 have hM := hM.keep hK
 refine Ze hE Za ld rfl fun a hE => Zf (wp_seq (Zc (Zd hE Za ld rfl fun a hE => Zh hE Za ld rfl rfl rfl fun a hE => Zf ?_)))
 refine Zv hE rfl ?_ ?_
 ·intro hb5
  have hF := ZA hF hb5
  refine Zc (Ze hE Za ld rfl fun a hE => Zf ?_)
  have hr := Option.some.inj hF
  subst hr
  have hM := M.fst (l := []) hM
  exact wp_ret (ZE (Zy hE rfl (Zu hE rfl) ⟨_, rfl, rfl, hM.kept⟩))
 ·intro hb5
  have hF := ZB hF hb5
  refine wp_skip (Zz (Zc (Zm (cs := cat [[v0_1], [vI p0.Next], [v0_2], [v0_3], enc p0.Head]) hE Za ld rfl Aa rfl (hM.rawAt (pre := [])) (ZC (cl1 (n := 1) (m := 35) rfl (cl1 (n := 1) (m := 34) rfl (cl1 (n := 1) (m := 33) rfl (cl1 (n := 1) (m := 32) rfl (cl1 (n := 32) (m := 0) (Flat.len _) cl0)))))) ?_))); intro a hE
  obtain ⟨r6, e7, hF⟩ := bind_some hF
  refine Zs hE Za ld rfl cb14 (TN _ p0 v0_1 (hM.rdo hv0_1) v0_2 (hM.rdo hv0_2) v0_3 (hM.rdo hv0_3) r6 e7) ?_
  rintro v w a ⟨u8, u9, u10, rfl, hFr, hK⟩ hE
  have hM := hM.add hK hFr
  refine Zd hE Za ld rfl ?_; intro a hE
  obtain ⟨r11, e12, hF⟩ := bind_some hF
  refine Zs hE Za ld rfl cb26 (Jw _ r6 u8 (hM.sl (pre := []) noB) u9 (hM.sl (pre := [_]) noB) u10 (hM.sl (pre := [_, _]) noB) p1 r11 e12) ?_
  rintro v w a ⟨u13, rfl, hFr, hK⟩ hE
  have hM := hM.add hK hFr
  refine Zd hE Za ld rfl fun a hE => W2 hE Za ld rfl rfl fun a hE => W2 hE Za ld rfl rfl fun a hE => Ze hE Za ld rfl fun a hE => Ze hE Za ld rfl fun a hE => Zf (Zc (Zm (cs := cat [[v0_1], [vI p0.Next], [v0_2], [v0_3], enc p0.Head]) hE Za ld rfl Aa rfl (hM.rawAt (pre := [_, _, _, _])) (ZC (cl1 (n := 1) (m := 35) rfl (cl1 (n := 1) (m := 34) rfl (cl1 (n := 1) (m := 33) rfl (cl1 (n := 1) (m := 32) rfl (cl1 (n := 32) (m := 0) (Flat.len _) cl0)))))) ?_)); intro a hE
  obtain ⟨r14, e15, hF⟩ := bind_some hF
  refine Zs hE Za ld rfl cb14 (TN _ p0 v0_1 (hM.rdo hv0_1) v0_2 (hM.rdo hv0_2) v0_3 (hM.rdo hv0_3) r14 e15) ?_
  rintro v w a ⟨u16, u17, u18, rfl, hFr, hK⟩ hE
  have hM := hM.add hK hFr
  refine ZI hE hM Za ld Qd fun b19 w a hM hE => Zt (seg := cat [[u16], [vI r14.Next], [u17], [u18], enc r14.Head]) (cs' := cat [[u16], [vI r14.Next], [u17], [u18], enc r14.Head]) hE hM Za rfl rfl rfl Qd (ZC (cl1 (n := 1) (m := 35) rfl (cl1 (n := 1) (m := 34) rfl (cl1 (n := 1) (m := 33) rfl (cl1 (n := 1) (m := 32) rfl (cl1 (n := 32) (m := 0) (Flat.len _) cl0)))))) (Nat.le_of_eq ((Nat.zero_add _).trans (Eq.trans (ZC (cl1 (n := 1) (m := 35) rfl (cl1 (n := 1) (m := 34) rfl (cl1 (n := 1) (m := 33) rfl (cl1 (n := 1) (m := 32) rfl (cl1 (n := 32) (m := 0) (Flat.len _) cl0)))))) (Eq.symm (ZC (cl1 (n := 1) (m := 35) rfl (cl1 (n := 1) (m := 34) rfl (cl1 (n := 1) (m := 33) rfl (cl1 (n := 1) (m := 32) rfl (cl1 (n := 32) (m := 0) (Flat.len _) cl0)))))))))) (WD (cc1 (Rep.cell (hM.sl (pre := [_]) noB)) (cc1 (Flat.cell (r14.Next : Int)) (cc1 (Rep.cell (hM.sl (pre := [_, _]) noB)) (cc1 (Rep.cell (hM.sl (pre := [_, _, _]) noB)) (cc1 (Flat.cell _) cc0)))))) (Zo (Eq.trans (ZC (cl1 (n := 1) (m := 35) rfl (cl1 (n := 1) (m := 34) rfl (cl1 (n := 1) (m := 33) rfl (cl1 (n := 1) (m := 32) rfl (cl1 (n := 32) (m := 0) (Flat.len _) cl0)))))) (Eq.symm (ZC (cl1 (n := 1) (m := 35) rfl (cl1 (n := 1) (m := 34) rfl (cl1 (n := 1) (m := 33) rfl (cl1 (n := 1) (m := 32) rfl (cl1 (n := 32) (m := 0) (Flat.len _) cl0))))))))) fun w a hM hE => Zf (Zc (Zm (cs := cat [[u16], [vI r14.Next], [u17], [u18], enc r14.Head]) hE Za ld rfl Qd rfl (hM.rawAt (pre := [])) (ZC (cl1 (n := 1) (m := 35) rfl (cl1 (n := 1) (m := 34) rfl (cl1 (n := 1) (m := 33) rfl (cl1 (n := 1) (m := 32) rfl (cl1 (n := 32) (m := 0) (Flat.len _) cl0)))))) fun a hE => Zd hE Za ld rfl ?_)); intro a hE
  obtain ⟨r21, e22, hF⟩ := bind_some hF
  refine Zs hE Za ld rfl cb27 (Qu _ r14 u16 (hM.sl (pre := [_]) noB) u17 (hM.sl (pre := [_, _]) noB) u18 (hM.sl (pre := [_, _, _]) noB) p1 r21 e22) ?_
  rintro v w a ⟨u23, rfl, hFr, hK⟩ hE
  have hM := hM.add hK hFr
  refine Zd hE Za ld rfl fun a hE => W2 hE Za ld rfl rfl fun a hE => W2 hE Za ld rfl rfl fun a hE => Ze hE Za ld rfl fun a hE => Ze hE Za ld rfl fun a hE => Zf (wp_seq ?_)
  obtain ⟨j24, hl25, hF26⟩ := bind_some hF
  refine ZU (fun a w => Env 101 a [(1, vI p1), (2, (ptr b1 0)), (6, u13), (7, vI r11.2), (8, (ptr b19 0)), (9, u23), (10, vI r21.2), (44, vT j24)] ∧ M (Old w0) w0 w [osl NoB (r21.1 : List UInt8) u23, raw b19 (cat [[u16], [vI r14.Next], [u17], [u18], enc r14.Head]), osl NoB (r14.Keys : List (Vector UInt8 16)) u16, osl NoB (r14.Records : List GRecord) u17, osl NoB (r14.Events : List GEvent) u18, osl NoB (r11.1 : List UInt8) u13, raw b1 (cat [[v0_1], [vI p0.Next], [v0_2], [v0_3], enc p0.Head])]) ?_ ?_
  ·skip
   refine wp_region_lit (Zd hE Za ld rfl fun a hE => Zd hE Za ld rfl ?_); intro a hE
   obtain ⟨r27, e28, hl25⟩ := bind_some hl25
   refine Zs hE Za ld rfl cb28 (UO _ r21.1 u23 (hM.sl (pre := []) noB) r11.1 u13 (hM.sl (pre := [_, _, _, _, _]) noB) r27 e28) ?_
   rintro v w a ⟨rfl, hK⟩ hE
   have hM := hM.keep hK
   refine WA hE Za ld rfl fun a hE => Zd hE Za ld rfl ?_; intro a hE
   refine Wc (!r27) (fun hb29 => ?_) (fun hb29 => ?_)
   ·have hl25 := ZA hl25 hb29
    refine Zw hE rfl (lkb rfl hb29) rfl (by decide) fun a hE => Zw hE rfl (lkb rfl hb29) rfl (by decide) fun a hE => Zw hE rfl (lkb rfl hb29) rfl (by decide) fun a hE => Z9 hE Za ld (lkb rfl hb29) rfl fun a hE => Zi ?_
    have ht30 := Option.some.inj hl25
    subst ht30
    refine Zl ?_
    have hM := hM.pull (pre := [_, _, _, _, _, _, _, _, _])
    have hM := hM.pull (pre := [_, _, _, _, _, _])
    have hM := hM.pull (pre := [_, _, _, _, _, _])
    have hM := hM.pull (pre := [_, _, _, _, _, _])
    have hM := hM.pull (pre := [_, _, _, _, _, _])
    have hM := hM.pull (pre := [_, _, _, _, _, _])
    have hM := hM.pull (pre := [_, _, _, _, _, _])
    have hM := M.fst (l := [_, _, _, _, _, _, _]) hM
    exact ⟨hE.sub ⟨rfl, rfl, rfl, rfl, rfl, rfl, rfl, rfl, trivial⟩, hM⟩
   ·have hl25 := ZB hl25 hb29
    refine Zd hE (Zx hE rfl (lkb rfl hb29)) (by decide) rfl fun a hE => Zd hE (Zx hE rfl (lkb rfl hb29)) (by decide) rfl fun a hE => Zh hE (Zx hE rfl (lkb rfl hb29)) (by decide) rfl rfl rfl fun a hE => YL hE Za ld (lkb rfl hb29) rfl fun a hE => Zi ?_
    have ht31 := Option.some.inj hl25
    subst ht31
    refine Zl ?_
    have hM := hM.pull (pre := [_, _, _, _, _, _, _, _, _])
    have hM := hM.pull (pre := [_, _, _, _, _, _])
    have hM := hM.pull (pre := [_, _, _, _, _, _])
    have hM := hM.pull (pre := [_, _, _, _, _, _])
    have hM := hM.pull (pre := [_, _, _, _, _, _])
    have hM := hM.pull (pre := [_, _, _, _, _, _])
    have hM := hM.pull (pre := [_, _, _, _, _, _])
    have hM := M.fst (l := [_, _, _, _, _, _, _]) hM
    exact ⟨hE.sub ⟨rfl, rfl, rfl, rfl, rfl, rfl, rfl, rfl, trivial⟩, hM⟩
  ·skip
   rintro a w ⟨hE, hM⟩
   refine Zv hE rfl ?_ ?_
   ·intro hb32
    have hF26 := ZA hF26 hb32
    refine Zc (Ze hE Za ld rfl fun a hE => Zf ?_)
    have hr := Option.some.inj hF26
    subst hr
    have hM := M.fst (l := []) hM
    exact wp_ret (ZE (Zy hE rfl (Zu hE rfl) ⟨_, rfl, rfl, hM.kept⟩))
   ·intro hb32
    have hF26 := ZB hF26 hb32
    refine wp_skip (Zz (wp_seq ?_))
    obtain ⟨j33, hl34, hF35⟩ := bind_some hF26
    refine ZU (fun a w => Env 101 a [(1, vI p1), (2, (ptr b1 0)), (6, u13), (7, vI r11.2), (8, (ptr b19 0)), (9, u23), (10, vI r21.2), (49, vT j33)] ∧ M (Old w0) w0 w [osl NoB (r21.1 : List UInt8) u23, raw b19 (cat [[u16], [vI r14.Next], [u17], [u18], enc r14.Head]), osl NoB (r14.Keys : List (Vector UInt8 16)) u16, osl NoB (r14.Records : List GRecord) u17, osl NoB (r14.Events : List GEvent) u18, osl NoB (r11.1 : List UInt8) u13, raw b1 (cat [[v0_1], [vI p0.Next], [v0_2], [v0_3], enc p0.Head])]) ?_ ?_
    ·skip
     obtain ⟨r37, e38, hl34⟩ := bind_some hl34
     refine KG (n := 101) (hd := [_, _, _]) (tl := [_, _]) (its := [osl NoB (r21.1 : List UInt8) u23, raw b19 (cat [[u16], [vI r14.Next], [u17], [u18], enc r14.Head]), osl NoB (r14.Keys : List (Vector UInt8 16)) u16, osl NoB (r14.Records : List GRecord) u17, osl NoB (r14.Events : List GEvent) u18, osl NoB (r11.1 : List UInt8) u13, raw b1 (cat [[v0_1], [vI p0.Next], [v0_2], [v0_3], enc p0.Head])]) YN rfl rfl [45, 46, 47] (by decide) [(2, fun v => own NoB r37 (Value.cells v).toList)] rfl (fun j => ([fun v => v = (Value.agg (cat [[u16], [vI r14.Next], [u17], [u18], enc r14.Head]).toArray), fun v => v = (Value.agg (cat [[v0_1], [vI p0.Next], [v0_2], [v0_3], enc p0.Head]).toArray), fun v => ∃ cs, v = .agg cs] : List (Value → Prop)).getD j (fun _ => True)) hE hM.drew (ZL (Zb ?_ (Zb ?_ (Zb ?_ ZF)))) ?_
     ·intro a w ux36 D hE hM hD hp
      have hM0 := hM
      have hM : M (Old w0) w0 w [osl NoB (r21.1 : List UInt8) u23, raw b19 (cat [[u16], [vI r14.Next], [u17], [u18], enc r14.Head]), osl NoB (r14.Keys : List (Vector UInt8 16)) u16, osl NoB (r14.Records : List GRecord) u17, osl NoB (r14.Events : List GEvent) u18, osl NoB (r11.1 : List UInt8) u13, raw b1 (cat [[v0_1], [vI p0.Next], [v0_2], [v0_3], enc p0.Head]), opt (D 2) (own NoB r37 (Value.cells (ux36 2)).toList)] := hM
      exact Zm (cs := cat [[u16], [vI r14.Next], [u17], [u18], enc r14.Head]) hE Za ld rfl Qd rfl (hM.rawAt (pre := [_])) (ZC (cl1 (n := 1) (m := 35) rfl (cl1 (n := 1) (m := 34) rfl (cl1 (n := 1) (m := 33) rfl (cl1 (n := 1) (m := 32) rfl (cl1 (n := 32) (m := 0) (Flat.len _) cl0)))))) fun a hE => ⟨_, _, rfl, hE, rfl, hM0.optKeep rfl⟩
     ·intro a w ux36 D hE hM hD hp
      have hM0 := hM
      have hM : M (Old w0) w0 w [osl NoB (r21.1 : List UInt8) u23, raw b19 (cat [[u16], [vI r14.Next], [u17], [u18], enc r14.Head]), osl NoB (r14.Keys : List (Vector UInt8 16)) u16, osl NoB (r14.Records : List GRecord) u17, osl NoB (r14.Events : List GEvent) u18, osl NoB (r11.1 : List UInt8) u13, raw b1 (cat [[v0_1], [vI p0.Next], [v0_2], [v0_3], enc p0.Head]), opt (D 2) (own NoB r37 (Value.cells (ux36 2)).toList)] := hM
      exact Zm (cs := cat [[v0_1], [vI p0.Next], [v0_2], [v0_3], enc p0.Head]) hE Za ld rfl Aa rfl (hM.rawAt (pre := [_, _, _, _, _, _])) (ZC (cl1 (n := 1) (m := 35) rfl (cl1 (n := 1) (m := 34) rfl (cl1 (n := 1) (m := 33) rfl (cl1 (n := 1) (m := 32) rfl (cl1 (n := 32) (m := 0) (Flat.len _) cl0)))))) fun a hE => ⟨_, _, rfl, hE, rfl, hM0.optKeep rfl⟩
     ·intro a w ux36 D hE hM hD hp
      have f1 : ux36 1 = (Value.agg (cat [[v0_1], [vI p0.Next], [v0_2], [v0_3], enc p0.Head]).toArray) := (hp 0 _ rfl rfl).2
      have hM0 := hM
      have hM : M (Old w0) w0 w [osl NoB (r21.1 : List UInt8) u23, raw b19 (cat [[u16], [vI r14.Next], [u17], [u18], enc r14.Head]), osl NoB (r14.Keys : List (Vector UInt8 16)) u16, osl NoB (r14.Records : List GRecord) u17, osl NoB (r14.Events : List GEvent) u18, osl NoB (r11.1 : List UInt8) u13, raw b1 (cat [[v0_1], [vI p0.Next], [v0_2], [v0_3], enc p0.Head]), opt (D 2) (own NoB r37 (Value.cells (ux36 2)).toList)] := hM
      refine Zs hE Za ld (ZY (ZS (lk rfl f1) YT)) cb14 (TN _ p0 v0_1 (hM.rdo hv0_1) v0_2 (hM.rdo hv0_2) v0_3 (hM.rdo hv0_3) r37 e38) ?_
      rintro _ w a ⟨u39, u40, u41, rfl, hFr, hK⟩ hE
      have hM := hM0.add hK hFr
      have hM := hM.packL (m := [osl NoB (r37.Keys : List (Vector UInt8 16)) u39, osl NoB (r37.Records : List GRecord) u40, osl NoB (r37.Events : List GEvent) u41]) (it := own NoB r37 (cat [[u39], [vI r37.Next], [u40], [u41], enc r37.Head])) (Ve noB) (fun fp h => by obtain ⟨_, _, rfl, _, s1, _, _, rfl, _, s2, _, _, rfl, _, s3, rfl⟩ := h; exact AX (WP.sat s1) (WP.sat s2) (WP.sat s3) (by simp))
      exact ⟨_, _, rfl, hE, ⟨_, rfl⟩, M.optFill (mk1 := []) (mk2 := []) (f := (fun v => own NoB r37 (Value.cells v).toList)) hM rfl hD⟩
     ·intro a w ux36 hE hM hg
      have hM : M (Old w0) w0 w [osl NoB (r21.1 : List UInt8) u23, raw b19 (cat [[u16], [vI r14.Next], [u17], [u18], enc r14.Head]), osl NoB (r14.Keys : List (Vector UInt8 16)) u16, osl NoB (r14.Records : List GRecord) u17, osl NoB (r14.Events : List GEvent) u18, osl NoB (r11.1 : List UInt8) u13, raw b1 (cat [[v0_1], [vI p0.Next], [v0_2], [v0_3], enc p0.Head]), own NoB r37 (Value.cells (ux36 2)).toList] := hM
      obtain ⟨q2_1, q2_2, q2_3, hcz, hq2_1, hq2_2, hq2_3⟩ := AM (hM.ro (pre := [_, _, _, _, _, _, _]) noB)
      obtain ⟨cz, hvz⟩ := hg 2 (by decide)
      have f2 : ux36 2 = (Value.agg (cat [[q2_1], [vI r37.Next], [q2_2], [q2_3], enc r37.Head]).toArray) := by rw [hvz] at hcz ⊢; exact congrArg Value.agg (AP hcz)
      have hM := hM.pull (pre := [_, _, _, _, _, _, _])
      rw [f2] at hM
      have hM := hM.unpackL (m := [own NoB (r37.Keys : (List (Vector UInt8 16))) [q2_1], own NoB (r37.Records : (List GRecord)) [q2_2], own NoB (r37.Events : (List GEvent)) [q2_3]]) (fun fp h => by obtain ⟨_, _, _, rfl, s1, s2, s3⟩ := yo h; exact (XO.cons (Ve noB) s1 (XO.cons (Ve noB) s2 (XO.one (Ve noB) s3))))
      simp only [List.cons_append, List.nil_append] at hM
      have hE := hE.sub (e' := [(45, (Value.agg (cat [[u16], [vI r14.Next], [u17], [u18], enc r14.Head]).toArray)), (47, (Value.agg (cat [[q2_1], [vI r37.Next], [q2_2], [q2_3], enc r37.Head]).toArray)), (1, vI p1), (2, (ptr b1 0)), (6, u13), (7, vI r11.2), (8, (ptr b19 0)), (9, u23), (10, vI r21.2), (44, vT j24)]) ⟨lk rfl (hg 0 (by decide)), lk rfl f2, rfl, rfl, rfl, rfl, rfl, rfl, rfl, rfl, trivial⟩
      obtain ⟨r46, e47, hl34⟩ := bind_some hl34
      refine Zs hE Za ld rfl cb17 (Br _ r14 u16 (hM.sl (pre := [_, _, _, _, _]) noB) u17 (hM.sl (pre := [_, _, _, _, _, _]) noB) u18 (hM.sl (pre := [_, _, _, _, _, _, _]) noB) r37 q2_1 (hM.ro (pre := []) noB) q2_2 (hM.ro (pre := [_]) noB) q2_3 (hM.ro (pre := [_, _]) noB) r46 e47) ?_
      rintro v w a ⟨rfl, hK⟩ hE
      have hM := hM.keep hK
      refine WA hE Za ld rfl fun a hE => Zi ?_
      have ht48 := Option.some.inj hl34
      subst ht48
      refine Zl ?_
      have hM := hM.pull (pre := [_, _, _, _, _, _, _, _, _])
      have hM := hM.pull (pre := [_, _, _, _, _, _, _, _, _])
      have hM := hM.pull (pre := [_, _, _, _, _, _, _, _, _])
      have hM := hM.pull (pre := [_, _, _, _, _, _, _, _, _])
      have hM := hM.pull (pre := [_, _, _, _, _, _, _, _, _])
      have hM := hM.pull (pre := [_, _, _, _, _, _, _, _, _])
      have hM := hM.pull (pre := [_, _, _, _, _, _, _, _, _])
      have hM := M.fst (l := [_, _, _, _, _, _, _]) hM
      exact ⟨hE.sub ⟨rfl, rfl, rfl, rfl, rfl, rfl, rfl, rfl, trivial⟩, hM⟩
    ·skip
     rintro a w ⟨hE, hM⟩
     refine Zv hE rfl ?_ ?_
     ·intro hb49
      have hF35 := ZA hF35 hb49
      refine Zc (Ze hE Za ld rfl fun a hE => Zf ?_)
      have hr := Option.some.inj hF35
      subst hr
      have hM := M.fst (l := []) hM
      exact wp_ret (ZE (Zy hE rfl (Zu hE rfl) ⟨_, rfl, rfl, hM.kept⟩))
     ·intro hb49
      have hF35 := ZB hF35 hb49
      refine wp_skip (Zz (Zc (Ze hE Za ld rfl fun a hE => Zf (Zc (Zm (cs := cat [[u16], [vI r14.Next], [u17], [u18], enc r14.Head]) hE Za ld rfl Qd rfl (hM.rawAt (pre := [_])) (ZC (cl1 (n := 1) (m := 35) rfl (cl1 (n := 1) (m := 34) rfl (cl1 (n := 1) (m := 33) rfl (cl1 (n := 1) (m := 32) rfl (cl1 (n := 32) (m := 0) (Flat.len _) cl0)))))) fun a hE => Zd hE Za ld rfl ?_))))); intro a hE
      have hM := hM.pull (pre := [_, _])
      have hM := hM.toOwn noB
      have hM := hM.pull (pre := [_, _, _])
      have hM := hM.toOwn noB
      have hM := hM.pull (pre := [_, _, _, _])
      have hM := hM.toOwn noB
      have hM := hM.pull (pre := [_])
      have hM := hM.pull (pre := [_, _])
      obtain ⟨r50, e51, hF35⟩ := bind_some hF35
      refine Zs hE Za ld rfl cb29 (J7 _ _ _ _ r14 u16 u17 u18 1 hM r50 e51) ?_
      rintro v w a ⟨rfl, hM⟩ hE
      refine Ze hE Za ld rfl fun a hE => Zf (wp_seq ?_)
      obtain ⟨j52, hl53, hF54⟩ := bind_some hF35
      refine ZU (fun a w => Env 101 a [(1, vI p1), (2, (ptr b1 0)), (6, u13), (7, vI r11.2), (9, u23), (65, vT j52)] ∧ M (Old w0) w0 w [osl NoB (r21.1 : List UInt8) u23, osl NoB (r11.1 : List UInt8) u13, raw b1 (cat [[v0_1], [vI p0.Next], [v0_2], [v0_3], enc p0.Head])]) ?_ ?_
      ·skip
       refine wp_region_lit (Zd hE Za ld rfl fun a hE => Zh hE Za ld rfl rfl rfl fun a hE => Zd hE Za ld rfl ?_); intro a hE
       refine Wc (decide (r50.2 < 0)) (fun hb55 => ?_) (fun hb55 => ?_)
       ·have hl53 := ZA hl53 hb55
        refine Zw hE rfl (lkb rfl hb55) rfl (by decide) fun a hE => Zw hE rfl (lkb rfl hb55) rfl (by decide) fun a hE => Zw hE rfl (lkb rfl hb55) rfl (by decide) fun a hE => Zw hE rfl (lkb rfl hb55) rfl (by decide) fun a hE => Z9 hE Za ld (lkb rfl hb55) rfl fun a hE => Zd hE Za ld rfl fun a hE => Zw hE rfl rfl rfl (by decide) ?_; intro a hE
        refine Zw hE rfl rfl rfl (by decide) fun a hE => Zw hE rfl rfl rfl (by decide) fun a hE => Z9 hE Za ld rfl rfl fun a hE => Zi ?_
        have ht56 := Option.some.inj hl53
        subst ht56
        refine Zl ?_
        have hM := hM.pull (pre := [_, _, _, _, _, _])
        have hM := hM.pull (pre := [_, _, _, _, _, _])
        have hM := hM.pull (pre := [_, _, _, _, _])
        have hM := M.fst (l := [_, _, _]) hM
        exact ⟨hE.sub ⟨rfl, rfl, rfl, rfl, rfl, rfl, trivial⟩, hM⟩
       ·have hl53 := ZB hl53 hb55
        refine Zd hE (Zx hE rfl (lkb rfl hb55)) (by decide) rfl fun a hE => Zd hE (Zx hE rfl (lkb rfl hb55)) (by decide) rfl ?_; intro a hE
        obtain ⟨r57, e58, hl53⟩ := bind_some hl53
        refine Zs hE (Zx hE rfl (lkb rfl hb55)) (by decide) rfl cb28 (UO _ r21.1 u23 (hM.sl (pre := [_, _, _]) noB) r11.1 u13 (hM.sl (pre := [_, _, _, _, _]) noB) r57 e58) ?_
        rintro v w a ⟨rfl, hK⟩ hE
        have hM := hM.keep hK
        refine WA hE (Zx hE rfl (lkb rfl hb55)) (by decide) rfl fun a hE => YL hE Za ld (lkb rfl hb55) rfl fun a hE => Zd hE Za ld rfl ?_; intro a hE
        refine Wc (!r57) (fun hb59 => ?_) (fun hb59 => ?_)
        ·have hl53 := ZA hl53 hb59
         refine Zw hE rfl (lkb rfl hb59) rfl (by decide) fun a hE => Zw hE rfl (lkb rfl hb59) rfl (by decide) fun a hE => Zw hE rfl (lkb rfl hb59) rfl (by decide) fun a hE => Z9 hE Za ld (lkb rfl hb59) rfl fun a hE => Zi ?_
         have ht60 := Option.some.inj hl53
         subst ht60
         refine Zl ?_
         have hM := hM.pull (pre := [_, _, _, _, _, _])
         have hM := hM.pull (pre := [_, _, _, _, _, _])
         have hM := hM.pull (pre := [_, _, _, _, _])
         have hM := M.fst (l := [_, _, _]) hM
         exact ⟨hE.sub ⟨rfl, rfl, rfl, rfl, rfl, rfl, trivial⟩, hM⟩
        ·have hl53 := ZB hl53 hb59
         refine Zd hE (Zx hE rfl (lkb rfl hb59)) (by decide) rfl fun a hE => Zd hE (Zx hE rfl (lkb rfl hb59)) (by decide) rfl fun a hE => Zh hE (Zx hE rfl (lkb rfl hb59)) (by decide) rfl rfl rfl fun a hE => YL hE Za ld (lkb rfl hb59) rfl fun a hE => Zi ?_
         have ht61 := Option.some.inj hl53
         subst ht61
         refine Zl ?_
         have hM := hM.pull (pre := [_, _, _, _, _, _])
         have hM := hM.pull (pre := [_, _, _, _, _, _])
         have hM := hM.pull (pre := [_, _, _, _, _])
         have hM := M.fst (l := [_, _, _]) hM
         exact ⟨hE.sub ⟨rfl, rfl, rfl, rfl, rfl, rfl, trivial⟩, hM⟩
      ·skip
       rintro a w ⟨hE, hM⟩
       refine Zv hE rfl ?_ ?_
       ·intro hb62
        have hF54 := ZA hF54 hb62
        refine Zc (Ze hE Za ld rfl fun a hE => Zf ?_)
        have hr := Option.some.inj hF54
        subst hr
        have hM := M.fst (l := []) hM
        exact wp_ret (ZE (Zy hE rfl (Zu hE rfl) ⟨_, rfl, rfl, hM.kept⟩))
       ·intro hb62
        have hF54 := ZB hF54 hb62
        refine wp_skip (Zz (Zc (Ze hE Za ld rfl fun a hE => Zf (Zc (Zd hE Za ld rfl fun a hE => Zd hE Za ld rfl ?_))))); intro a hE
        have hM := hM.toOwn noB
        obtain ⟨r63, e64, hF54⟩ := bind_some hF54
        refine Zs hE Za ld rfl cb30 (TS _ _ _ _ r21.1 u23 1 hM r63 e64) ?_
        rintro v w a ⟨rfl, hM⟩ hE
        refine Ze hE Za ld rfl fun a hE => Zf (Zc (Ze hE Za ld rfl fun a hE => Zf (Zc (Zd hE Za ld rfl fun a hE => Zd hE Za ld rfl ?_)))); intro a hE
        obtain ⟨r65, e66, hF54⟩ := bind_some hF54
        refine Zs hE Za ld rfl cb31 (QL _ r63.1 u23 (hM.ro (pre := []) noB) 1 r65 e66) ?_
        rintro v w a ⟨rfl, hK⟩ hE
        have hM := hM.keep hK
        refine Ze hE Za ld rfl fun a hE => Zf (wp_seq (Zc (Zd hE Za ld rfl fun a hE => Zh hE Za ld rfl rfl rfl fun a hE => Zf ?_)))
        refine Zv hE rfl ?_ ?_
        ·intro hb67
         have hF54 := ZA hF54 hb67
         refine Zc (Ze hE Za ld rfl fun a hE => Zf ?_)
         have hr := Option.some.inj hF54
         subst hr
         have hM := M.fst (l := []) hM
         exact wp_ret (ZE (Zy hE rfl (Zu hE rfl) ⟨_, rfl, rfl, hM.kept⟩))
        ·intro hb67
         have hF54 := ZB hF54 hb67
         refine wp_skip (Zz (wp_seq (Zc (Zd hE Za ld rfl fun a hE => Zd hE Za ld rfl fun a hE => Zh hE Za ld rfl rfl rfl fun a hE => Zf ?_))))
         refine Zv hE rfl ?_ ?_
         ·intro hb68
          have hF54 := ZA hF54 hb68
          refine Zc (Ze hE Za ld rfl fun a hE => Zf ?_)
          have hr := Option.some.inj hF54
          subst hr
          have hM := M.fst (l := []) hM
          exact wp_ret (ZE (Zy hE rfl (Zu hE rfl) ⟨_, rfl, rfl, hM.kept⟩))
         ·intro hb68
          have hF54 := ZB hF54 hb68
          refine wp_skip (Zz (Zc (Zm (cs := cat [[v0_1], [vI p0.Next], [v0_2], [v0_3], enc p0.Head]) hE Za ld rfl Aa rfl (hM.rawAt (pre := [_, _])) (ZC (cl1 (n := 1) (m := 35) rfl (cl1 (n := 1) (m := 34) rfl (cl1 (n := 1) (m := 33) rfl (cl1 (n := 1) (m := 32) rfl (cl1 (n := 32) (m := 0) (Flat.len _) cl0)))))) ?_))); intro a hE
          obtain ⟨r69, e70, hF54⟩ := bind_some hF54
          refine Zs hE Za ld rfl cb14 (TN _ p0 v0_1 (hM.rdo hv0_1) v0_2 (hM.rdo hv0_2) v0_3 (hM.rdo hv0_3) r69 e70) ?_
          rintro v w a ⟨u71, u72, u73, rfl, hFr, hK⟩ hE
          have hM := hM.add hK hFr
          refine Zd hE Za ld rfl ?_; intro a hE
          obtain ⟨r74, e75, hF54⟩ := bind_some hF54
          refine Zs hE Za ld rfl cb27 (Qu _ r69 u71 (hM.sl (pre := []) noB) u72 (hM.sl (pre := [_]) noB) u73 (hM.sl (pre := [_, _]) noB) p1 r74 e75) ?_
          rintro v w a ⟨u76, rfl, hFr, hK⟩ hE
          have hM := hM.add hK hFr
          refine Zd hE Za ld rfl fun a hE => W2 hE Za ld rfl rfl fun a hE => W2 hE Za ld rfl rfl fun a hE => Ze hE Za ld rfl fun a hE => Ze hE Za ld rfl fun a hE => Zf (wp_seq ?_)
          obtain ⟨j77, hl78, hF79⟩ := bind_some hF54
          refine ZU (fun a w => Env 101 a [(9, u23), (12, vI r63.2), (92, vT j77)] ∧ M (Old w0) w0 w [own NoB (r63.1 : (List UInt8)) [u23]]) ?_ ?_
          ·skip
           refine wp_region_lit (Zd hE Za ld rfl fun a hE => Zd hE Za ld rfl ?_); intro a hE
           obtain ⟨r80, e81, hl78⟩ := bind_some hl78
           refine Zs hE Za ld rfl cb28 (UO _ r74.1 u76 (hM.sl (pre := []) noB) r11.1 u13 (hM.sl (pre := [_, _, _, _, _]) noB) r80 e81) ?_
           rintro v w a ⟨rfl, hK⟩ hE
           have hM := hM.keep hK
           refine WA hE Za ld rfl fun a hE => Zd hE Za ld rfl ?_; intro a hE
           refine Wc (!r80) (fun hb82 => ?_) (fun hb82 => ?_)
           ·have hl78 := ZA hl78 hb82
            refine Zw hE rfl (lkb rfl hb82) rfl (by decide) fun a hE => Zw hE rfl (lkb rfl hb82) rfl (by decide) fun a hE => Zw hE rfl (lkb rfl hb82) rfl (by decide) fun a hE => Z9 hE Za ld (lkb rfl hb82) rfl fun a hE => Zi ?_
            have ht83 := Option.some.inj hl78
            subst ht83
            refine Zl ?_
            have hM := hM.pull (pre := [_, _, _, _])
            have hM := M.fst (l := [_]) hM
            exact ⟨hE.sub ⟨rfl, rfl, rfl, trivial⟩, hM⟩
           ·have hl78 := ZB hl78 hb82
            refine Zd hE (Zx hE rfl (lkb rfl hb82)) (by decide) rfl fun a hE => Zd hE (Zx hE rfl (lkb rfl hb82)) (by decide) rfl fun a hE => Zh hE (Zx hE rfl (lkb rfl hb82)) (by decide) rfl rfl rfl fun a hE => YL hE Za ld (lkb rfl hb82) rfl fun a hE => Zi ?_
            have ht84 := Option.some.inj hl78
            subst ht84
            refine Zl ?_
            have hM := hM.pull (pre := [_, _, _, _])
            have hM := M.fst (l := [_]) hM
            exact ⟨hE.sub ⟨rfl, rfl, rfl, trivial⟩, hM⟩
          ·skip
           rintro a w ⟨hE, hM⟩
           refine Zv hE rfl ?_ ?_
           ·intro hb85
            have hF79 := ZA hF79 hb85
            refine Zc (Ze hE Za ld rfl fun a hE => Zf ?_)
            have hr := Option.some.inj hF79
            subst hr
            have hM := M.fst (l := []) hM
            exact wp_ret (ZE (Zy hE rfl (Zu hE rfl) ⟨_, rfl, rfl, hM.kept⟩))
           ·intro hb85
            have hF79 := ZB hF79 hb85
            refine wp_skip (Zz (Zc (Ze hE Za ld rfl fun a hE => Zf (Zc (Zd hE Za ld rfl fun a hE => Zd hE Za ld rfl ?_))))); intro a hE
            obtain ⟨r86, e87, hF79⟩ := bind_some hF79
            refine Zs hE Za ld rfl cb31 (QL _ r63.1 u23 (hM.ro (pre := []) noB) 1 r86 e87) ?_
            rintro v w a ⟨rfl, hK⟩ hE
            have hM := hM.keep hK
            refine Ze hE Za ld rfl fun a hE => Zf (wp_seq (Zc (Zd hE Za ld rfl fun a hE => Zh hE Za ld rfl rfl rfl fun a hE => Zf ?_)))
            refine Zv hE rfl ?_ ?_
            ·intro hb88
             have hF79 := ZA hF79 hb88
             refine Zc (Ze hE Za ld rfl fun a hE => Zf ?_)
             have hr := Option.some.inj hF79
             subst hr
             have hM := M.fst (l := []) hM
             exact wp_ret (ZE (Zy hE rfl (Zu hE rfl) ⟨_, rfl, rfl, hM.kept⟩))
            ·intro hb88
             have hF79 := ZB hF79 hb88
             refine wp_skip (Zz (wp_seq (Zc (Zd hE Za ld rfl fun a hE => Zd hE Za ld rfl fun a hE => Zh hE Za ld rfl rfl rfl fun a hE => Zf ?_))))
             refine Zv hE rfl ?_ ?_
             ·intro hb89
              have hF79 := ZA hF79 hb89
              refine Zc (Ze hE Za ld rfl fun a hE => Zf ?_)
              have hr := Option.some.inj hF79
              subst hr
              have hM := M.fst (l := []) hM
              exact wp_ret (ZE (Zy hE rfl (Zu hE rfl) ⟨_, rfl, rfl, hM.kept⟩))
             ·intro hb89
              have hF79 := ZB hF79 hb89
              refine wp_skip (Zz (Zc (Ze hE Za ld rfl fun a hE => Zf ?_)))
              have hr := Option.some.inj hF79
              subst hr
              have hM := M.fst (l := []) hM
              exact wp_ret (Zy hE rfl (Zu hE rfl) ⟨_, rfl, rfl, hM.kept⟩)
end Go.Proofs.YtifdeoikcebbjaaGreat
