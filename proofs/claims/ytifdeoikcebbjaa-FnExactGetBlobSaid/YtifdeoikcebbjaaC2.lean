/- The walk of what the law reaches: contracts of functions. -/
import Derived.Test.YtifdeoikcebbjaaC1
set_option linter.unusedVariables false
set_option linter.unusedSimpArgs false
set_option maxRecDepth 20000
set_option maxHeartbeats 400000
namespace Go.Proofs.Ytifdeoikcebbjaa
open Go
theorem c_spec_l08Of (w0 : World) (p0 : GCipher) (p1 : (List UInt8)) (v1_1 : Value) (hv1_1 : Ro w0 p1 [v1_1]) (r : (Vector UInt8 32)) (hF : UI p0 p1 = some r) :
  Calls Try.prog 63 [(Value.agg (Flat.enc p0).toArray), v1_1].toArray w0 (fun en w' => ∃ v, en = .returned v ∧ (v = (Value.agg (Flat.enc r).toArray) ∧ Kept (Old w0) w0 w')) := by
 refine ZC (n := 26) Try.func63 rfl rfl (Nat.le_of_ble_eq_true rfl) rfl ?_
 intro a hE
 have hM := M.start w0
 unfold UI at hF
 refine Zc (Z4 (cs := cat [[(vI p0.Field)], Flat.enc p0.Box, Flat.enc p0.Mix, Flat.enc p0.Places, [(vI p0.Rounds)]]) hE hM Za (dl rfl) rfl rfl ?_); intro b1 w a hM hE
 refine ZO hE hM Za (dl rfl) Yi ?_; intro b3 w a hM hE
 refine Zf (Zc (Zd hE Za (dl rfl) rfl ?_)); intro a hE
 obtain ⟨r5, e6, hF⟩ := bind_some hF
 refine Zw (vs := [v1_1]) hE Za (dl rfl) rfl cb83 (c_spec_l08Pad _ p1 v1_1 (hM.rdo hv1_1) r5 e6) ?_
 rintro u7 w a ⟨_, rfl, hFr, hK⟩ hE
 have hM := hM.add hK hFr
 obtain ⟨r8, e9, hF⟩ := bind_some hF
 refine Zw (vs := [u7]) hE Za (dl rfl) rfl cb82 (c_spec_l01Blocks _ r5 u7 (hM.sl (pre := []) noB) r8 e9) ?_
 rintro u10 w a ⟨_, rfl, hFr, hK⟩ hE
 have hM := hM.add hK hFr
 obtain ⟨r11, e12, hF⟩ := bind_some hF
 refine Zw (vs := []) hE Za (dl rfl) rfl cb84 (c_spec_l08Start _  r11 e12) ?_
 rintro v w a ⟨rfl, hK⟩ hE
 have hM := hM.keep hK
 refine ZO hE hM Za (dl rfl) Yi ?_; intro b13 w a hM hE
 refine Ze hE Za (dl rfl) rfl ?_; intro a hE
 refine Zs (seg := Flat.enc r11) (cs' := Flat.enc r11) hE hM Za rfl rfl rfl Yi (Flat.len _) (zle flq) (Flat.cell _) (Zq flq) ?_; intro w a hM hE
 refine Zf (wp_seq (Zc (Ze hE Za (dl rfl) rfl ?_))); intro a hE
 refine Zf ?_
 obtain ⟨j15, hl16, hF17⟩ := bind_some hF
 refine ZV (fun a w => Env 26 a [(4, (ptr b3 0)), (6, (ptr b13 0))] ∧ M (Old w0) w0 w [raw b13 (Flat.enc j15), raw b3 (Flat.enc (Vector.replicate 32 (0 : UInt8)))]) ?_ ?_
 ·skip
  refine wp_block ?_
  have hM := hM.pull (pre := [_, _, _, _])
  have hM := hM.pull (pre := [_, _, _, _])
  have hM := hM.pull (pre := [_, _, _])
  have hM := hM.pull (pre := [_, _, _])
  have hM := M.fst (l := [_, _, _, _]) hM
  refine ZN (fun (s18 : (Vector UInt8 32) × Int) a w => Env 26 a [(2, (ptr b1 0)), (4, (ptr b3 0)), (5, u10), (6, (ptr b13 0)), (7, (vI s18.2))] ∧ M (Old w0) w0 w [raw b13 (Flat.enc s18.1), osl NoB (r8 : List (Vector UInt8 16)) u10, raw b3 (Flat.enc (Vector.replicate 32 (0 : UInt8))), raw b1 (cat [[(vI p0.Field)], Flat.enc p0.Box, Flat.enc p0.Mix, Flat.enc p0.Places, [(vI p0.Rounds)]])]) hl16 ⟨hE.sub ⟨rfl, rfl, rfl, rfl, rfl, trivial⟩, hM⟩ ?_
  rintro s18 a w ⟨hE, hM⟩ o21 hs19 hx20
  unfold Vk at hs19
  refine wp_seq (Zc (Zd hE Za (dl rfl) rfl ?_)); intro a hE
  refine Zd hE Za (dl rfl) rfl ?_; intro a hE
  refine Z7 hE Za (dl rfl) rfl Try.underlying34 (hM.sl (pre := [_]) noB) ?_; intro a hE
  refine Zh hE Za (dl rfl) rfl rfl rfl ?_; intro a hE
  refine Zf ?_
  refine Zt hE rfl ?_ ?_
  ·intro hb22
   have hs19 := ZA hs19 hb22
   refine wp_skip (Zx (wp_seq (wp_block ?_)))
   obtain ⟨x24, e25, hs19⟩ := bind_some hs19
   have hi26 := ZQ e25
   obtain ⟨r27, e28, hs19⟩ := bind_some hs19
   refine Yd (n := 26) (hd := [_, _, _, _, _, _, _]) (tl := [_]) YB rfl rfl [18, 19, 20, 21, 22, 23, 24] (by decide) (fun w => M (Old w0) w0 w [raw b13 (Flat.enc s18.1), osl NoB (r8 : List (Vector UInt8 16)) u10, raw b3 (Flat.enc (Vector.replicate 32 (0 : UInt8))), raw b1 (cat [[(vI p0.Field)], Flat.enc p0.Box, Flat.enc p0.Mix, Flat.enc p0.Places, [(vI p0.Rounds)]])]) (fun j => ([fun v _ => v = (Value.agg (Flat.enc p0).toArray), fun v _ => v = (Value.agg (Flat.enc s18.1).toArray), fun v _ => v = u10, fun v _ => v = (vI s18.2), fun v _ => v = (ptr (sb u10) (so u10 + (s18.2).toNat * 16)), fun v _ => v = (Value.agg (Flat.enc x24).toArray), fun v _ => v = (Value.agg (Flat.enc r27).toArray)] : List (Value → World → Prop)).getD j (fun _ _ => True)) (fun _ _ h hk => h.keep hk) (gup (Zg (Zg (Zg (Zg (Zg (Zg (Zg Wu)))))))) hE hM.drew (ZH (Zb ?_ (Zb ?_ (Zb ?_ (Zb ?_ (Zb ?_ (Zb ?_ (Zb ?_ ZD)))))))) ?_
   ·exact fun a w ux23 hE hM hp => Zp (cs := Flat.enc p0) hE Za (dl rfl) rfl VP rfl (hM.rawAt (pre := [_, _, _])) (ZR (cl1 (n := 1) (m := 289) rfl (cl1 (n := 256) (m := 33) (Flat.len _) (cl1 (n := 16) (m := 17) (Flat.len _) (cl1 (n := 16) (m := 1) (Flat.len _) (cl1 (n := 1) (m := 0) rfl cl0)))))) fun a hE => ⟨Kept.refl _ _, _, _, rfl, hE, rfl⟩
   ·exact fun a w ux23 hE hM hp => Zp (cs := Flat.enc s18.1) hE Za (dl rfl) rfl Yi rfl (hM.rawAt (pre := [])) (Flat.len _) fun a hE => ⟨Kept.refl _ _, _, _, rfl, hE, rfl⟩
   ·exact fun a w ux23 hE hM hp => Zd hE Za (dl rfl) rfl fun a hE => ⟨Kept.refl _ _, _, _, rfl, hE, rfl⟩
   ·exact fun a w ux23 hE hM hp => Zd hE Za (dl rfl) rfl fun a hE => ⟨Kept.refl _ _, _, _, rfl, hE, rfl⟩
   ·intro a w ux23 hE hM hp
    have f2 : ux23 2 = u10 := hp 0 _ rfl rfl
    have f3 : ux23 3 = (vI s18.2) := hp 1 _ rfl rfl
    exact ZK hE Za (dl rfl) (lk rfl f2) (lk rfl f3) Try.underlying34 ZP (hM.sl (pre := [_]) noB) hi26.1 fun a hE => ⟨Kept.refl _ _, _, _, rfl, hE, rfl⟩
   ·intro a w ux23 hE hM hp
    have f4 : ux23 4 = (ptr (sb u10) (so u10 + (s18.2).toNat * 16)) := hp 0 _ rfl rfl
    exact Zp (cs := Flat.enc x24) hE Za (dl rfl) (lk rfl f4) ZP rfl (Yt (hM.sl (pre := [_]) noB) hi26.2) (Flat.len _) fun a hE => ⟨Kept.refl _ _, _, _, rfl, hE, rfl⟩
   ·intro a w ux23 hE hM hp
    have f0 : ux23 0 = (Value.agg (Flat.enc p0).toArray) := hp 0 _ rfl rfl
    have f1 : ux23 1 = (Value.agg (Flat.enc s18.1).toArray) := hp 1 _ rfl rfl
    have f5 : ux23 5 = (Value.agg (Flat.enc x24).toArray) := hp 2 _ rfl rfl
    refine Zw (vs := [(Value.agg (Flat.enc p0).toArray), (Value.agg (Flat.enc s18.1).toArray), (Value.agg (Flat.enc x24).toArray)]) hE Za (dl rfl) (Z0 (ZY (lk rfl f0) (ZY (lk rfl f1) (ZY (lk rfl f5) Xf)))) cb85 (c_spec_l08Absorb _ p0 s18.1 x24 r27 e28) ?_
    rintro v w a ⟨rfl, hK⟩ hE
    exact ⟨hK, _, _, rfl, hE, rfl⟩
   ·intro a w ux23 hE hM hg
    have hE := hE.sub (e' := [(24, (Value.agg (Flat.enc r27).toArray)), (2, (ptr b1 0)), (4, (ptr b3 0)), (5, u10), (6, (ptr b13 0)), (7, (vI s18.2)), (12, (vI s18.2)), (13, u10), (14, (vI (r8.length : Int))), (15, (vT (decide (s18.2 < (r8.length : Int)))))]) ⟨lk rfl (hg 6 (by decide)), rfl, rfl, rfl, rfl, rfl, rfl, rfl, rfl, rfl, trivial⟩
    refine Zs (seg := Flat.enc r27) (cs' := Flat.enc r27) hE hM Za rfl rfl rfl Yi (Flat.len _) (zle flq) (Flat.cell _) (Zq flq) ?_; intro w a hM hE
    refine Zj (Yk (Zx (wp_region_lit (Zd hE Za (dl rfl) rfl ?_)))); intro a hE
    refine Zh hE Za (dl rfl) rfl rfl rfl ?_; intro a hE
    refine Ze hE Za (dl rfl) rfl ?_; intro a hE
    refine Zj (Zl ?_)
    exact ⟨_, (Option.some.inj hs19).symm, hE.sub ⟨rfl, rfl, rfl, rfl, rfl, trivial⟩, hM⟩
  ·intro hb22
   have hs19 := Zz hs19 hb22
   refine wp_exit (Zr (Zr (Yj ?_)))
   have ht29 := hx20 _ (Option.some.inj hs19).symm
   subst ht29
   refine Zl ?_
   have hM := hM.pull (pre := [_, _])
   have hM := hM.pull (pre := [_])
   have hM := M.fst (l := [_, _]) hM
   exact ⟨hE.sub ⟨rfl, rfl, trivial⟩, hM⟩
 ·skip
  rintro a w ⟨hE, hM⟩
  refine Zx (Zc (Zp (cs := Flat.enc j15) hE Za (dl rfl) rfl Yi rfl (hM.rawAt (pre := [])) (Flat.len _) ?_)); intro a hE
  have hM := hM.pull (pre := [_])
  refine Zs (seg := Flat.enc j15) (cs' := Flat.enc j15) hE hM Za rfl rfl rfl Yi (Flat.len _) (zle flq) (Flat.cell _) (Zq flq) ?_; intro w a hM hE
  refine Zf ?_
  have hr := Option.some.inj hF17
  subst hr
  have hq30 : YR Try.prog _ _ (.cell 4 25) _ := Z6 hE rfl Yi rfl (hM.rawAt (pre := [])) (Flat.len _) rfl
  have hM := M.fst (l := []) hM
  exact wp_ret (Zy hE rfl hq30 ⟨_, rfl, rfl, hM.kept⟩)
noncomputable def WG (p0 : (List UInt8)) : Option ((Vector UInt8 32)) :=
 (Vb 8).bind fun r3 => (UI r3 p0).bind fun r5 => some r5
theorem c_spec_l08Digest (w0 : World) (p0 : (List UInt8)) (v0_1 : Value) (hv0_1 : Ro w0 p0 [v0_1]) (r : (Vector UInt8 32)) (hF : WG p0 = some r) :
  Calls Try.prog 76 [v0_1].toArray w0 (fun en w' => ∃ v, en = .returned v ∧ (v = (Value.agg (Flat.enc r).toArray) ∧ Kept (Old w0) w0 w')) := by
 refine ZC (n := 6) Try.func76 rfl rfl (Nat.le_of_ble_eq_true rfl) rfl ?_
 intro a hE
 have hM := M.start w0
 unfold WG at hF
 refine Zc (ZO hE hM Za (dl rfl) Yi ?_); intro b1 w a hM hE
 refine Zf (Zc ?_)
 obtain ⟨r3, e4, hF⟩ := bind_some hF
 refine Zw (vs := [(vI 8)]) hE Za (dl rfl) rfl cb86 (c_spec_l04House _ 8 r3 e4) ?_
 rintro v w a ⟨rfl, hK⟩ hE
 have hM := hM.keep hK
 refine Zd hE Za (dl rfl) rfl ?_; intro a hE
 obtain ⟨r5, e6, hF⟩ := bind_some hF
 refine Zw (vs := [(Value.agg (Flat.enc r3).toArray), v0_1]) hE Za (dl rfl) rfl cb63 (c_spec_l08Of _ r3 p0 v0_1 (hM.rdo hv0_1) r5 e6) ?_
 rintro v w a ⟨rfl, hK⟩ hE
 have hM := hM.keep hK
 refine Zs (seg := Flat.enc r5) (cs' := Flat.enc r5) hE hM Za rfl rfl rfl Yi (Flat.len _) (zle flq) (Flat.cell _) (Zq flq) ?_; intro w a hM hE
 refine Zf ?_
 have hr := Option.some.inj hF
 subst hr
 have hq7 : YR Try.prog _ _ (.cell 2 25) _ := Z6 hE rfl Yi rfl (hM.rawAt (pre := [])) (Flat.len _) rfl
 have hM := M.fst (l := []) hM
 exact wp_ret (Zy hE rfl hq7 ⟨_, rfl, rfl, hM.kept⟩)
noncomputable def Vl (p0 : GBlobs) (s20 : Int) : Option (Fl Int (Fl Unit Bool)) :=
 if (decide (s20 < (p0.Keys.length : Int))) = true then (((idx p0.Data s20).bind fun x29 => if (decide ((x29.length : Int) > 2000)) = true then (some true) else ((idx p0.Counts s20).bind fun x39 => if (decide (x39 < 1)) = true then (some true) else ((idx p0.Counts s20).bind fun x44 => if (decide (x44 > 1000000)) = true then (some true) else ((idx p0.Data s20).bind fun x49 => (WG x49).bind fun r57 => (idx p0.Keys s20).bind fun x59 => some (!decide (r57 = x59))))) : Option (Bool)).bind fun j25 => if j25 = true then (some (Fl.ex (Fl.ex false))) else (some (Fl.nx (wr (s20 + 1))))) else (some (Fl.ex (Fl.nx ())))
noncomputable def UC (p0 : GBlobs) : Option (Bool) :=
 (if (decide ((p0.Keys.length : Int) > 32)) = true then (some true) else (if ((p0.Data.length : Int) != (p0.Keys.length : Int)) = true then (some true) else (if ((p0.Counts.length : Int) != (p0.Keys.length : Int)) = true then (some true) else ((XK p0.Keys).bind fun r12 => some (!r12)))) : Option (Bool)).bind fun j3 => if j3 = true then (some false) else ((ZF (Vl p0) 0 : Option (Fl Unit Bool)).bind fun j16 => j16.el (fun s19 => some true) (fun r => some r))
theorem c_spec_l09Is (w0 : World) (p0 : GBlobs) (v0_1 : Value) (hv0_1 : Ro w0 p0.Keys [v0_1]) (v0_2 : Value) (hv0_2 : Ro w0 p0.Data [v0_2]) (v0_3 : Value) (hv0_3 : Ro w0 p0.Counts [v0_3]) (r : Bool) (hF : UC p0 = some r) :
  Calls Try.prog 48 [(Value.agg (cat [[v0_1], [v0_2], [v0_3]]).toArray)].toArray w0 (fun en w' => ∃ v, en = .returned v ∧ (v = (vT r) ∧ Kept (Old w0) w0 w')) := by
 refine ZC (n := 72) Try.func48 rfl rfl (Nat.le_of_ble_eq_true rfl) rfl ?_
 intro a hE
 have hM := M.start w0
 unfold UC at hF
 refine Zc (Z4 (cs := cat [[v0_1], [v0_2], [v0_3]]) hE hM Za (dl rfl) rfl rfl ?_); intro b1 w a hM hE
 refine Ze hE Za (dl rfl) rfl ?_; intro a hE
 refine Zf (Zc (Zo hE Za (dl rfl) rfl (Vz) ?_)); intro a hE
 refine Zv (v := v0_1) hE Za (dl rfl) rfl ty53 rfl (At.cat (pre := []) (hM.rawAt (pre := [])) cl0) ?_; intro a hE
 refine Z7 hE Za (dl rfl) rfl Try.underlying53 (hM.rd hv0_1) ?_; intro a hE
 refine Ze hE Za (dl rfl) rfl ?_; intro a hE
 refine Zf (wp_seq ?_)
 obtain ⟨j3, hl4, hF5⟩ := bind_some hF
 refine ZS (fun a w => Env 72 a [(1, (ptr b1 0)), (3, (vI (p0.Keys.length : Int))), (29, (vT j3))] ∧ M (Old w0) w0 w [raw b1 (cat [[v0_1], [v0_2], [v0_3]])]) ?_ ?_
 ·skip
  refine wp_region_lit (Zd hE Za (dl rfl) rfl ?_); intro a hE
  refine Zh hE Za (dl rfl) rfl rfl rfl ?_; intro a hE
  refine Zd hE Za (dl rfl) rfl ?_; intro a hE
  refine WE (decide ((p0.Keys.length : Int) > 32)) (fun hb6 => ?_) (fun hb6 => ?_)
  ·have hl4 := ZA hl4 hb6
   refine Zn hE rfl (lkb rfl hb6) rfl (by decide) ?_; intro a hE
   refine Zn hE rfl (lkb rfl hb6) rfl (by decide) ?_; intro a hE
   refine Zn hE rfl (lkb rfl hb6) rfl (by decide) ?_; intro a hE
   refine Zn hE rfl (lkb rfl hb6) rfl (by decide) ?_; intro a hE
   refine Zn hE rfl (lkb rfl hb6) rfl (by decide) ?_; intro a hE
   refine Yn hE Za (dl rfl) (lkb rfl hb6) rfl ?_; intro a hE
   refine Zd hE Za (dl rfl) rfl ?_; intro a hE
   refine Zn hE rfl rfl rfl (by decide) ?_; intro a hE
   refine Zn hE rfl rfl rfl (by decide) ?_; intro a hE
   refine Zn hE rfl rfl rfl (by decide) ?_; intro a hE
   refine Zn hE rfl rfl rfl (by decide) ?_; intro a hE
   refine Zn hE rfl rfl rfl (by decide) ?_; intro a hE
   refine Yn hE Za (dl rfl) rfl rfl ?_; intro a hE
   refine Zd hE Za (dl rfl) rfl ?_; intro a hE
   refine Zn hE rfl rfl rfl (by decide) ?_; intro a hE
   refine Zn hE rfl rfl rfl (by decide) ?_; intro a hE
   refine Zn hE rfl rfl rfl (by decide) ?_; intro a hE
   refine Zn hE rfl rfl rfl (by decide) ?_; intro a hE
   refine Yn hE Za (dl rfl) rfl rfl ?_; intro a hE
   refine Zj ?_
   have ht7 := Option.some.inj hl4
   subst ht7
   refine Zl ?_
   exact ⟨hE.sub ⟨rfl, rfl, rfl, trivial⟩, hM⟩
  ·have hl4 := Zz hl4 hb6
   refine Zo hE (Zk hE rfl (lkb rfl hb6)) (by decide) rfl (UE) ?_; intro a hE
   refine Zv (v := v0_2) hE (Zk hE rfl (lkb rfl hb6)) (by decide) rfl ty45 rfl (At.cat (pre := [[v0_1]]) (hM.rawAt (pre := [])) (cl1 (n := 1) (m := 0) rfl cl0)) ?_; intro a hE
   refine Z7 hE (Zk hE rfl (lkb rfl hb6)) (by decide) rfl Try.underlying45 (hM.rd hv0_2) ?_; intro a hE
   refine Zd hE (Zk hE rfl (lkb rfl hb6)) (by decide) rfl ?_; intro a hE
   refine Zh hE (Zk hE rfl (lkb rfl hb6)) (by decide) rfl rfl rfl ?_; intro a hE
   refine YP hE Za (dl rfl) (lkb rfl hb6) rfl ?_; intro a hE
   refine Zd hE Za (dl rfl) rfl ?_; intro a hE
   refine WE ((p0.Data.length : Int) != (p0.Keys.length : Int)) (fun hb8 => ?_) (fun hb8 => ?_)
   ·have hl4 := ZA hl4 hb8
    refine Zn hE rfl (lkb rfl hb8) rfl (by decide) ?_; intro a hE
    refine Zn hE rfl (lkb rfl hb8) rfl (by decide) ?_; intro a hE
    refine Zn hE rfl (lkb rfl hb8) rfl (by decide) ?_; intro a hE
    refine Zn hE rfl (lkb rfl hb8) rfl (by decide) ?_; intro a hE
    refine Zn hE rfl (lkb rfl hb8) rfl (by decide) ?_; intro a hE
    refine Yn hE Za (dl rfl) (lkb rfl hb8) rfl ?_; intro a hE
    refine Zd hE Za (dl rfl) rfl ?_; intro a hE
    refine Zn hE rfl rfl rfl (by decide) ?_; intro a hE
    refine Zn hE rfl rfl rfl (by decide) ?_; intro a hE
    refine Zn hE rfl rfl rfl (by decide) ?_; intro a hE
    refine Zn hE rfl rfl rfl (by decide) ?_; intro a hE
    refine Yn hE Za (dl rfl) rfl rfl ?_; intro a hE
    refine Zj ?_
    have ht9 := Option.some.inj hl4
    subst ht9
    refine Zl ?_
    exact ⟨hE.sub ⟨rfl, rfl, rfl, trivial⟩, hM⟩
   ·have hl4 := Zz hl4 hb8
    refine Zo hE (Zk hE rfl (lkb rfl hb8)) (by decide) rfl (fd55_2) ?_; intro a hE
    refine Zv (v := v0_3) hE (Zk hE rfl (lkb rfl hb8)) (by decide) rfl ty46 rfl (At.cat (pre := [[v0_1], [v0_2]]) (hM.rawAt (pre := [])) (cl1 (n := 1) (m := 1) rfl (cl1 (n := 1) (m := 0) rfl cl0))) ?_; intro a hE
    refine Z7 hE (Zk hE rfl (lkb rfl hb8)) (by decide) rfl Try.underlying46 (hM.rd hv0_3) ?_; intro a hE
    refine Zd hE (Zk hE rfl (lkb rfl hb8)) (by decide) rfl ?_; intro a hE
    refine Zh hE (Zk hE rfl (lkb rfl hb8)) (by decide) rfl rfl rfl ?_; intro a hE
    refine YP hE Za (dl rfl) (lkb rfl hb8) rfl ?_; intro a hE
    refine Zd hE Za (dl rfl) rfl ?_; intro a hE
    refine WE ((p0.Counts.length : Int) != (p0.Keys.length : Int)) (fun hb10 => ?_) (fun hb10 => ?_)
    ·have hl4 := ZA hl4 hb10
     refine Zn hE rfl (lkb rfl hb10) rfl (by decide) ?_; intro a hE
     refine Zn hE rfl (lkb rfl hb10) rfl (by decide) ?_; intro a hE
     refine Zn hE rfl (lkb rfl hb10) rfl (by decide) ?_; intro a hE
     refine Zn hE rfl (lkb rfl hb10) rfl (by decide) ?_; intro a hE
     refine Yn hE Za (dl rfl) (lkb rfl hb10) rfl ?_; intro a hE
     refine Zj ?_
     have ht11 := Option.some.inj hl4
     subst ht11
     refine Zl ?_
     exact ⟨hE.sub ⟨rfl, rfl, rfl, trivial⟩, hM⟩
    ·have hl4 := Zz hl4 hb10
     refine Zo hE (Zk hE rfl (lkb rfl hb10)) (by decide) rfl (Vz) ?_; intro a hE
     refine Zv (v := v0_1) hE (Zk hE rfl (lkb rfl hb10)) (by decide) rfl ty53 rfl (At.cat (pre := []) (hM.rawAt (pre := [])) cl0) ?_; intro a hE
     obtain ⟨r12, e13, hl4⟩ := bind_some hl4
     refine Zw (vs := [v0_1]) hE (Zk hE rfl (lkb rfl hb10)) (by decide) rfl cb75 (c_spec_l09Ascending _ p0.Keys v0_1 (hM.rdo hv0_1) r12 e13) ?_
     rintro v w a ⟨rfl, hK⟩ hE
     have hM := hM.keep hK
     refine Uo hE (Zk hE rfl (lkb rfl hb10)) (by decide) rfl ?_; intro a hE
     refine YP hE Za (dl rfl) (lkb rfl hb10) rfl ?_; intro a hE
     refine Zj ?_
     have ht14 := Option.some.inj hl4
     subst ht14
     refine Zl ?_
     exact ⟨hE.sub ⟨rfl, rfl, rfl, trivial⟩, hM⟩
 ·skip
  rintro a w ⟨hE, hM⟩
  refine Zt hE rfl ?_ ?_
  ·intro hb15
   have hF5 := ZA hF5 hb15
   refine Zc (Ze hE Za (dl rfl) rfl ?_); intro a hE
   refine Zf ?_
   have hr := Option.some.inj hF5
   subst hr
   have hM := M.fst (l := []) hM
   exact wp_ret (ZL (Zy hE rfl (Zu hE rfl) ⟨_, rfl, rfl, hM.kept⟩))
  ·intro hb15
   have hF5 := Zz hF5 hb15
   refine wp_skip (Zx (wp_seq (Zc (Ze hE Za (dl rfl) rfl ?_)))); intro a hE
   refine Zf ?_
   obtain ⟨j16, hl17, hF18⟩ := bind_some hF5
   refine ZV (fun a w => ∃ s19 : Unit, j16 = Fl.nx s19 ∧ Env 72 a [] ∧ M (Old w0) w0 w []) ?_ ?_
   ·skip
    refine wp_block ?_
    refine ZN (fun (s20 : Int) a w => Env 72 a [(1, (ptr b1 0)), (3, (vI (p0.Keys.length : Int))), (4, (vI s20))] ∧ M (Old w0) w0 w [raw b1 (cat [[v0_1], [v0_2], [v0_3]])]) hl17 ⟨hE.sub ⟨rfl, rfl, rfl, trivial⟩, hM⟩ ?_
    rintro s20 a w ⟨hE, hM⟩ o23 hs21 hx22
    unfold Vl at hs21
    refine wp_seq (Zc (Zd hE Za (dl rfl) rfl ?_)); intro a hE
    refine Zd hE Za (dl rfl) rfl ?_; intro a hE
    refine Zh hE Za (dl rfl) rfl rfl rfl ?_; intro a hE
    refine Zf ?_
    refine Zt hE rfl ?_ ?_
    ·intro hb24
     have hs21 := ZA hs21 hb24
     refine wp_skip (Zx (wp_seq (wp_block ?_)))
     obtain ⟨j25, hl26, hF27⟩ := bind_some hs21
     refine ZS (fun a w => Env 72 a [(1, (ptr b1 0)), (3, (vI (p0.Keys.length : Int))), (4, (vI s20)), (71, (vT j25))] ∧ M (Old w0) w0 w [raw b1 (cat [[v0_1], [v0_2], [v0_3]])]) ?_ ?_
     ·skip
      obtain ⟨x29, e30, hl26⟩ := bind_some hl26
      have hi31 := ZQ e30
      obtain ⟨cs32, hs33, hA34⟩ := Us hv0_2 hi31.2 -- ^
      obtain ⟨u35, rfl⟩ := Vp hs33 -- ^
      have h36 := hs33 -- ^
      refine WE (decide ((x29.length : Int) > 2000)) (fun hb37 => ?_) (fun hb37 => ?_)
      ·have hl26 := ZA hl26 hb37
       refine Yd (n := 72) (hd := [_, _, _, _, _, _, _, _, _, _, _, _, _, _, _, _, _, _, _, _, _, _, _, _, _, _, _, _, _, _, _, _, _, _, _, _, _]) (tl := []) YB rfl rfl [35, 36, 37, 38, 39, 40, 41, 42, 43, 44, 45, 46, 47, 48, 49, 50, 51, 52, 53, 54, 55, 56, 57, 58, 59, 60, 61, 62, 63, 64, 65, 66, 67, 68, 69, 70, 71] (by decide) (fun w => M (Old w0) w0 w [raw b1 (cat [[v0_1], [v0_2], [v0_3]])]) (fun j => ([fun v _ => v = (ptr b1 (0 + 1)), fun v _ => v = v0_2, fun v _ => v = (vI s20), fun v _ => v = (ptr (sb v0_2) (so v0_2 + (s20).toNat * 1)), fun v _ => v = u35, fun v _ => v = (vI (x29.length : Int)), fun v _ => v = (vT (decide ((x29.length : Int) > 2000))), fun v _ => v = (vT (decide ((x29.length : Int) > 2000))), fun v _ => v = undef, fun v _ => v = undef, fun v _ => v = undef, fun v _ => v = undef, fun v _ => v = undef, fun v _ => v = undef, fun v _ => v = (vT true), fun v _ => v = (vT true), fun v _ => v = undef, fun v _ => v = undef, fun v _ => v = undef, fun v _ => v = undef, fun v _ => v = undef, fun v _ => v = undef, fun v _ => v = (vT true), fun v _ => v = (vT true), fun v _ => v = undef, fun v _ => v = undef, fun v _ => v = undef, fun v _ => v = undef, fun v _ => v = undef, fun v _ => v = undef, fun v _ => v = undef, fun v _ => v = undef, fun v _ => v = undef, fun v _ => v = undef, fun v _ => v = undef, fun v _ => v = undef, fun v _ => v = (vT true)] : List (Value → World → Prop)).getD j (fun _ _ => True)) (fun _ _ h hk => h.keep hk) (gup (Zg (Zg (Zg (Zg (Zg (Zg (Zg (Zg (Zg (Zg (Zg (Zg (Zg (Zg (Zg (Zg (Zg (Zg (Zg (Zg (Zg (Zg (Zg (Zg (Zg (Zg (Zg (Zg (Zg (Zg (Zg (Zg (Zg (Zg (Zg (Zg (Zg Wu)))))))))))))))))))))))))))))))))))))) hE hM.drew (ZH (Zb ?_ (Zb ?_ (Zb ?_ (Zb ?_ (Zb ?_ (Zb ?_ (Zb ?_ (Zb ?_ (Zb ?_ (Zb ?_ (Zb ?_ (Zb ?_ (Zb ?_ (Zb ?_ (Zb ?_ (Zb ?_ (Zb ?_ (Zb ?_ (Zb ?_ (Zb ?_ (Zb ?_ (Zb ?_ (Zb ?_ (Zb ?_ (Zb ?_ (Zb ?_ (Zb ?_ (Zb ?_ (Zb ?_ (Zb ?_ (Zb ?_ (Zb ?_ (Zb ?_ (Zb ?_ (Zb ?_ (Zb ?_ (Zb ?_ ZD)))))))))))))))))))))))))))))))))))))) ?_
       ·exact fun a w ux28 hE hM hp => Zo hE Za (dl rfl) rfl (UE) fun a hE => ⟨Kept.refl _ _, _, _, rfl, hE, rfl⟩
       ·intro a w ux28 hE hM hp
        have f0 : ux28 0 = (ptr b1 (0 + 1)) := hp 0 _ rfl rfl
        exact Zv (v := v0_2) hE Za (dl rfl) (lk rfl f0) ty45 rfl (At.cat (pre := [[v0_1]]) (hM.rawAt (pre := [])) (cl1 (n := 1) (m := 0) rfl cl0)) fun a hE => ⟨Kept.refl _ _, _, _, rfl, hE, rfl⟩
       ·exact fun a w ux28 hE hM hp => Zd hE Za (dl rfl) rfl fun a hE => ⟨Kept.refl _ _, _, _, rfl, hE, rfl⟩
       ·intro a w ux28 hE hM hp
        have f1 : ux28 1 = v0_2 := hp 0 _ rfl rfl
        have f2 : ux28 2 = (vI s20) := hp 1 _ rfl rfl
        exact ZK hE Za (dl rfl) (lk rfl f1) (lk rfl f2) Try.underlying45 VD (hM.rd hv0_2) hi31.1 fun a hE => ⟨Kept.refl _ _, _, _, rfl, hE, rfl⟩
       ·intro a w ux28 hE hM hp
        have f3 : ux28 3 = (ptr (sb v0_2) (so v0_2 + (s20).toNat * 1)) := hp 0 _ rfl rfl
        exact Zv (v := u35) hE Za (dl rfl) (lk rfl f3) VD rfl (hM.atk hA34 (Uv hv0_2 hi31.2)) fun a hE => ⟨Kept.refl _ _, _, _, rfl, hE, rfl⟩
       ·intro a w ux28 hE hM hp
        have f4 : ux28 4 = u35 := hp 0 _ rfl rfl
        exact Z7 hE Za (dl rfl) (lk rfl f4) Try.underlying50 (hM.rd h36) fun a hE => ⟨Kept.refl _ _, _, _, rfl, hE, rfl⟩
       ·intro a w ux28 hE hM hp
        have f5 : ux28 5 = (vI (x29.length : Int)) := hp 0 _ rfl rfl
        exact Zh hE Za (dl rfl) (lk rfl f5) rfl rfl fun a hE => ⟨Kept.refl _ _, _, _, rfl, hE, rfl⟩
       ·intro a w ux28 hE hM hp
        have f6 : ux28 6 = (vT (decide ((x29.length : Int) > 2000))) := hp 0 _ rfl rfl
        exact Zd hE Za (dl rfl) (lk rfl f6) fun a hE => ⟨Kept.refl _ _, _, _, rfl, hE, rfl⟩
       ·intro a w ux28 hE hM hp
        have f7 : ux28 7 = (vT (decide ((x29.length : Int) > 2000))) := hp 0 _ rfl rfl
        exact Zn hE rfl (lkb (lk rfl f7) hb37) rfl (by decide) fun a hE => ⟨Kept.refl _ _, _, _, rfl, hE, rfl⟩
       ·intro a w ux28 hE hM hp
        have f7 : ux28 7 = (vT (decide ((x29.length : Int) > 2000))) := hp 1 _ rfl rfl
        have f8 : ux28 8 = undef := hp 0 _ rfl rfl
        exact Zn hE rfl (lkb (lk rfl f7) hb37) rfl (by decide) fun a hE => ⟨Kept.refl _ _, _, _, rfl, hE, rfl⟩
       ·intro a w ux28 hE hM hp
        have f7 : ux28 7 = (vT (decide ((x29.length : Int) > 2000))) := hp 0 _ rfl rfl
        exact Zn hE rfl (lkb (lk rfl f7) hb37) rfl (by decide) fun a hE => ⟨Kept.refl _ _, _, _, rfl, hE, rfl⟩
       ·intro a w ux28 hE hM hp
        have f7 : ux28 7 = (vT (decide ((x29.length : Int) > 2000))) := hp 2 _ rfl rfl
        have f9 : ux28 9 = undef := hp 0 _ rfl rfl
        have f10 : ux28 10 = undef := hp 1 _ rfl rfl
        exact Zn hE rfl (lkb (lk rfl f7) hb37) rfl (by decide) fun a hE => ⟨Kept.refl _ _, _, _, rfl, hE, rfl⟩
       ·intro a w ux28 hE hM hp
        have f7 : ux28 7 = (vT (decide ((x29.length : Int) > 2000))) := hp 1 _ rfl rfl
        have f11 : ux28 11 = undef := hp 0 _ rfl rfl
        exact Zn hE rfl (lkb (lk rfl f7) hb37) rfl (by decide) fun a hE => ⟨Kept.refl _ _, _, _, rfl, hE, rfl⟩
       ·intro a w ux28 hE hM hp
        have f7 : ux28 7 = (vT (decide ((x29.length : Int) > 2000))) := hp 1 _ rfl rfl
        have f12 : ux28 12 = undef := hp 0 _ rfl rfl
        exact Zn hE rfl (lkb (lk rfl f7) hb37) rfl (by decide) fun a hE => ⟨Kept.refl _ _, _, _, rfl, hE, rfl⟩
       ·intro a w ux28 hE hM hp
        have f7 : ux28 7 = (vT (decide ((x29.length : Int) > 2000))) := hp 0 _ rfl rfl
        have f13 : ux28 13 = undef := hp 1 _ rfl rfl
        exact Yn hE Za (dl rfl) (lkb (lk rfl f7) hb37) rfl fun a hE => ⟨Kept.refl _ _, _, _, rfl, hE, rfl⟩
       ·intro a w ux28 hE hM hp
        have f14 : ux28 14 = (vT true) := hp 0 _ rfl rfl
        exact Zd hE Za (dl rfl) (lk rfl f14) fun a hE => ⟨Kept.refl _ _, _, _, rfl, hE, rfl⟩
       ·intro a w ux28 hE hM hp
        have f15 : ux28 15 = (vT true) := hp 0 _ rfl rfl
        exact Zn hE rfl (lk rfl f15) rfl (by decide) fun a hE => ⟨Kept.refl _ _, _, _, rfl, hE, rfl⟩
       ·intro a w ux28 hE hM hp
        have f15 : ux28 15 = (vT true) := hp 1 _ rfl rfl
        have f16 : ux28 16 = undef := hp 0 _ rfl rfl
        exact Zn hE rfl (lk rfl f15) rfl (by decide) fun a hE => ⟨Kept.refl _ _, _, _, rfl, hE, rfl⟩
       ·intro a w ux28 hE hM hp
        have f15 : ux28 15 = (vT true) := hp 0 _ rfl rfl
        exact Zn hE rfl (lk rfl f15) rfl (by decide) fun a hE => ⟨Kept.refl _ _, _, _, rfl, hE, rfl⟩
       ·intro a w ux28 hE hM hp
        have f15 : ux28 15 = (vT true) := hp 2 _ rfl rfl
        have f17 : ux28 17 = undef := hp 0 _ rfl rfl
        have f18 : ux28 18 = undef := hp 1 _ rfl rfl
        exact Zn hE rfl (lk rfl f15) rfl (by decide) fun a hE => ⟨Kept.refl _ _, _, _, rfl, hE, rfl⟩
       ·intro a w ux28 hE hM hp
        have f15 : ux28 15 = (vT true) := hp 1 _ rfl rfl
        have f19 : ux28 19 = undef := hp 0 _ rfl rfl
        exact Zn hE rfl (lk rfl f15) rfl (by decide) fun a hE => ⟨Kept.refl _ _, _, _, rfl, hE, rfl⟩
       ·intro a w ux28 hE hM hp
        have f15 : ux28 15 = (vT true) := hp 1 _ rfl rfl
        have f20 : ux28 20 = undef := hp 0 _ rfl rfl
        exact Zn hE rfl (lk rfl f15) rfl (by decide) fun a hE => ⟨Kept.refl _ _, _, _, rfl, hE, rfl⟩
       ·intro a w ux28 hE hM hp
        have f15 : ux28 15 = (vT true) := hp 0 _ rfl rfl
        have f21 : ux28 21 = undef := hp 1 _ rfl rfl
        exact Yn hE Za (dl rfl) (lk rfl f15) rfl fun a hE => ⟨Kept.refl _ _, _, _, rfl, hE, rfl⟩
       ·intro a w ux28 hE hM hp
        have f22 : ux28 22 = (vT true) := hp 0 _ rfl rfl
        exact Zd hE Za (dl rfl) (lk rfl f22) fun a hE => ⟨Kept.refl _ _, _, _, rfl, hE, rfl⟩
       ·intro a w ux28 hE hM hp
        have f23 : ux28 23 = (vT true) := hp 0 _ rfl rfl
        exact Zn hE rfl (lk rfl f23) rfl (by decide) fun a hE => ⟨Kept.refl _ _, _, _, rfl, hE, rfl⟩
       ·intro a w ux28 hE hM hp
        have f23 : ux28 23 = (vT true) := hp 1 _ rfl rfl
        have f24 : ux28 24 = undef := hp 0 _ rfl rfl
        exact Zn hE rfl (lk rfl f23) rfl (by decide) fun a hE => ⟨Kept.refl _ _, _, _, rfl, hE, rfl⟩
       ·intro a w ux28 hE hM hp
        have f23 : ux28 23 = (vT true) := hp 0 _ rfl rfl
        exact Zn hE rfl (lk rfl f23) rfl (by decide) fun a hE => ⟨Kept.refl _ _, _, _, rfl, hE, rfl⟩
       ·intro a w ux28 hE hM hp
        have f23 : ux28 23 = (vT true) := hp 2 _ rfl rfl
        have f25 : ux28 25 = undef := hp 0 _ rfl rfl
        have f26 : ux28 26 = undef := hp 1 _ rfl rfl
        exact Zn hE rfl (lk rfl f23) rfl (by decide) fun a hE => ⟨Kept.refl _ _, _, _, rfl, hE, rfl⟩
       ·intro a w ux28 hE hM hp
        have f23 : ux28 23 = (vT true) := hp 1 _ rfl rfl
        have f27 : ux28 27 = undef := hp 0 _ rfl rfl
        exact Zn hE rfl (lk rfl f23) rfl (by decide) fun a hE => ⟨Kept.refl _ _, _, _, rfl, hE, rfl⟩
       ·intro a w ux28 hE hM hp
        have f23 : ux28 23 = (vT true) := hp 1 _ rfl rfl
        have f28 : ux28 28 = undef := hp 0 _ rfl rfl
        exact Zn hE rfl (lk rfl f23) rfl (by decide) fun a hE => ⟨Kept.refl _ _, _, _, rfl, hE, rfl⟩
       ·intro a w ux28 hE hM hp
        have f23 : ux28 23 = (vT true) := hp 0 _ rfl rfl
        exact Zn hE rfl (lk rfl f23) rfl (by decide) fun a hE => ⟨Kept.refl _ _, _, _, rfl, hE, rfl⟩
       ·intro a w ux28 hE hM hp
        have f23 : ux28 23 = (vT true) := hp 1 _ rfl rfl
        have f30 : ux28 30 = undef := hp 0 _ rfl rfl
        exact Zn hE rfl (lk rfl f23) rfl (by decide) fun a hE => ⟨Kept.refl _ _, _, _, rfl, hE, rfl⟩
       ·intro a w ux28 hE hM hp
        have f23 : ux28 23 = (vT true) := hp 0 _ rfl rfl
        exact Zn hE rfl (lk rfl f23) rfl (by decide) fun a hE => ⟨Kept.refl _ _, _, _, rfl, hE, rfl⟩
       ·intro a w ux28 hE hM hp
        have f23 : ux28 23 = (vT true) := hp 2 _ rfl rfl
        have f31 : ux28 31 = undef := hp 0 _ rfl rfl
        have f32 : ux28 32 = undef := hp 1 _ rfl rfl
        exact Zn hE rfl (lk rfl f23) rfl (by decide) fun a hE => ⟨Kept.refl _ _, _, _, rfl, hE, rfl⟩
       ·intro a w ux28 hE hM hp
        have f23 : ux28 23 = (vT true) := hp 1 _ rfl rfl
        have f33 : ux28 33 = undef := hp 0 _ rfl rfl
        exact Zn hE rfl (lk rfl f23) rfl (by decide) fun a hE => ⟨Kept.refl _ _, _, _, rfl, hE, rfl⟩
       ·intro a w ux28 hE hM hp
        have f23 : ux28 23 = (vT true) := hp 2 _ rfl rfl
        have f29 : ux28 29 = undef := hp 0 _ rfl rfl
        have f34 : ux28 34 = undef := hp 1 _ rfl rfl
        exact Zn hE rfl (lk rfl f23) rfl (by decide) fun a hE => ⟨Kept.refl _ _, _, _, rfl, hE, rfl⟩
       ·intro a w ux28 hE hM hp
        have f23 : ux28 23 = (vT true) := hp 0 _ rfl rfl
        have f35 : ux28 35 = undef := hp 1 _ rfl rfl
        exact Yn hE Za (dl rfl) (lk rfl f23) rfl fun a hE => ⟨Kept.refl _ _, _, _, rfl, hE, rfl⟩
       ·intro a w ux28 hE hM hg
        have hE := hE.sub (e' := [(71, (vT true)), (1, (ptr b1 0)), (3, (vI (p0.Keys.length : Int))), (4, (vI s20)), (30, (vI s20)), (31, (vI (p0.Keys.length : Int))), (32, (vT (decide (s20 < (p0.Keys.length : Int)))))]) ⟨lk rfl (hg 36 (by decide)), rfl, rfl, rfl, rfl, rfl, rfl, trivial⟩
        refine Zj ?_
        have ht38 := Option.some.inj hl26
        subst ht38
        refine Zl ?_
        exact ⟨hE.sub ⟨rfl, rfl, rfl, rfl, trivial⟩, hM⟩
      ·have hl26 := Zz hl26 hb37
       obtain ⟨x39, e40, hl26⟩ := bind_some hl26
       have hi41 := ZQ e40
       refine WE (decide (x39 < 1)) (fun hb42 => ?_) (fun hb42 => ?_)
       ·have hl26 := ZA hl26 hb42
        refine Yd (n := 72) (hd := [_, _, _, _, _, _, _, _, _, _, _, _, _, _, _, _, _, _, _, _, _, _, _, _, _, _, _, _, _, _, _, _, _, _, _, _, _]) (tl := []) YB rfl rfl [35, 36, 37, 38, 39, 40, 41, 42, 43, 44, 45, 46, 47, 48, 49, 50, 51, 52, 53, 54, 55, 56, 57, 58, 59, 60, 61, 62, 63, 64, 65, 66, 67, 68, 69, 70, 71] (by decide) (fun w => M (Old w0) w0 w [raw b1 (cat [[v0_1], [v0_2], [v0_3]])]) (fun j => ([fun v _ => v = (ptr b1 (0 + 1)), fun v _ => v = v0_2, fun v _ => v = (vI s20), fun v _ => v = (ptr (sb v0_2) (so v0_2 + (s20).toNat * 1)), fun v _ => v = u35, fun v _ => v = (vI (x29.length : Int)), fun v _ => v = (vT (decide ((x29.length : Int) > 2000))), fun v _ => v = (vT (decide ((x29.length : Int) > 2000))), fun v _ => v = (ptr b1 (0 + 2)), fun v _ => v = v0_3, fun v _ => v = (vI s20), fun v _ => v = (ptr (sb v0_3) (so v0_3 + (s20).toNat * 1)), fun v _ => v = (vI x39), fun v _ => v = (vT (decide (x39 < 1))), fun v _ => v = (vT (decide (x39 < 1))), fun v _ => v = (vT (decide (x39 < 1))), fun v _ => v = undef, fun v _ => v = undef, fun v _ => v = undef, fun v _ => v = undef, fun v _ => v = undef, fun v _ => v = undef, fun v _ => v = (vT true), fun v _ => v = (vT true), fun v _ => v = undef, fun v _ => v = undef, fun v _ => v = undef, fun v _ => v = undef, fun v _ => v = undef, fun v _ => v = undef, fun v _ => v = undef, fun v _ => v = undef, fun v _ => v = undef, fun v _ => v = undef, fun v _ => v = undef, fun v _ => v = undef, fun v _ => v = (vT true)] : List (Value → World → Prop)).getD j (fun _ _ => True)) (fun _ _ h hk => h.keep hk) (gup (Zg (Zg (Zg (Zg (Zg (Zg (Zg (Zg (Zg (Zg (Zg (Zg (Zg (Zg (Zg (Zg (Zg (Zg (Zg (Zg (Zg (Zg (Zg (Zg (Zg (Zg (Zg (Zg (Zg (Zg (Zg (Zg (Zg (Zg (Zg (Zg (Zg Wu)))))))))))))))))))))))))))))))))))))) hE hM.drew (ZH (Zb ?_ (Zb ?_ (Zb ?_ (Zb ?_ (Zb ?_ (Zb ?_ (Zb ?_ (Zb ?_ (Zb ?_ (Zb ?_ (Zb ?_ (Zb ?_ (Zb ?_ (Zb ?_ (Zb ?_ (Zb ?_ (Zb ?_ (Zb ?_ (Zb ?_ (Zb ?_ (Zb ?_ (Zb ?_ (Zb ?_ (Zb ?_ (Zb ?_ (Zb ?_ (Zb ?_ (Zb ?_ (Zb ?_ (Zb ?_ (Zb ?_ (Zb ?_ (Zb ?_ (Zb ?_ (Zb ?_ (Zb ?_ (Zb ?_ ZD)))))))))))))))))))))))))))))))))))))) ?_
        ·exact fun a w ux28 hE hM hp => Zo hE Za (dl rfl) rfl (UE) fun a hE => ⟨Kept.refl _ _, _, _, rfl, hE, rfl⟩
        ·intro a w ux28 hE hM hp
         have f0 : ux28 0 = (ptr b1 (0 + 1)) := hp 0 _ rfl rfl
         exact Zv (v := v0_2) hE Za (dl rfl) (lk rfl f0) ty45 rfl (At.cat (pre := [[v0_1]]) (hM.rawAt (pre := [])) (cl1 (n := 1) (m := 0) rfl cl0)) fun a hE => ⟨Kept.refl _ _, _, _, rfl, hE, rfl⟩
        ·exact fun a w ux28 hE hM hp => Zd hE Za (dl rfl) rfl fun a hE => ⟨Kept.refl _ _, _, _, rfl, hE, rfl⟩
        ·intro a w ux28 hE hM hp
         have f1 : ux28 1 = v0_2 := hp 0 _ rfl rfl
         have f2 : ux28 2 = (vI s20) := hp 1 _ rfl rfl
         exact ZK hE Za (dl rfl) (lk rfl f1) (lk rfl f2) Try.underlying45 VD (hM.rd hv0_2) hi31.1 fun a hE => ⟨Kept.refl _ _, _, _, rfl, hE, rfl⟩
        ·intro a w ux28 hE hM hp
         have f3 : ux28 3 = (ptr (sb v0_2) (so v0_2 + (s20).toNat * 1)) := hp 0 _ rfl rfl
         exact Zv (v := u35) hE Za (dl rfl) (lk rfl f3) VD rfl (hM.atk hA34 (Uv hv0_2 hi31.2)) fun a hE => ⟨Kept.refl _ _, _, _, rfl, hE, rfl⟩
        ·intro a w ux28 hE hM hp
         have f4 : ux28 4 = u35 := hp 0 _ rfl rfl
         exact Z7 hE Za (dl rfl) (lk rfl f4) Try.underlying50 (hM.rd h36) fun a hE => ⟨Kept.refl _ _, _, _, rfl, hE, rfl⟩
        ·intro a w ux28 hE hM hp
         have f5 : ux28 5 = (vI (x29.length : Int)) := hp 0 _ rfl rfl
         exact Zh hE Za (dl rfl) (lk rfl f5) rfl rfl fun a hE => ⟨Kept.refl _ _, _, _, rfl, hE, rfl⟩
        ·intro a w ux28 hE hM hp
         have f6 : ux28 6 = (vT (decide ((x29.length : Int) > 2000))) := hp 0 _ rfl rfl
         exact Zd hE Za (dl rfl) (lk rfl f6) fun a hE => ⟨Kept.refl _ _, _, _, rfl, hE, rfl⟩
        ·intro a w ux28 hE hM hp
         have f7 : ux28 7 = (vT (decide ((x29.length : Int) > 2000))) := hp 0 _ rfl rfl
         exact Zo hE (Zk hE rfl (lkb (lk rfl f7) hb37)) (by decide) rfl (fd55_2) fun a hE => ⟨Kept.refl _ _, _, _, rfl, hE, rfl⟩
        ·intro a w ux28 hE hM hp
         have f7 : ux28 7 = (vT (decide ((x29.length : Int) > 2000))) := hp 1 _ rfl rfl
         have f8 : ux28 8 = (ptr b1 (0 + 2)) := hp 0 _ rfl rfl
         exact Zv (v := v0_3) hE (Zk hE rfl (lkb (lk rfl f7) hb37)) (by decide) (lk rfl f8) ty46 rfl (At.cat (pre := [[v0_1], [v0_2]]) (hM.rawAt (pre := [])) (cl1 (n := 1) (m := 1) rfl (cl1 (n := 1) (m := 0) rfl cl0))) fun a hE => ⟨Kept.refl _ _, _, _, rfl, hE, rfl⟩
        ·intro a w ux28 hE hM hp
         have f7 : ux28 7 = (vT (decide ((x29.length : Int) > 2000))) := hp 0 _ rfl rfl
         exact Zd hE (Zk hE rfl (lkb (lk rfl f7) hb37)) (by decide) rfl fun a hE => ⟨Kept.refl _ _, _, _, rfl, hE, rfl⟩
        ·intro a w ux28 hE hM hp
         have f7 : ux28 7 = (vT (decide ((x29.length : Int) > 2000))) := hp 2 _ rfl rfl
         have f9 : ux28 9 = v0_3 := hp 0 _ rfl rfl
         have f10 : ux28 10 = (vI s20) := hp 1 _ rfl rfl
         exact ZK hE (Zk hE rfl (lkb (lk rfl f7) hb37)) (by decide) (lk rfl f9) (lk rfl f10) Try.underlying46 ty2 (hM.rd hv0_3) hi41.1 fun a hE => ⟨Kept.refl _ _, _, _, rfl, hE, rfl⟩
        ·intro a w ux28 hE hM hp
         have f7 : ux28 7 = (vT (decide ((x29.length : Int) > 2000))) := hp 1 _ rfl rfl
         have f11 : ux28 11 = (ptr (sb v0_3) (so v0_3 + (s20).toNat * 1)) := hp 0 _ rfl rfl
         exact Zv (v := (vI x39)) hE (Zk hE rfl (lkb (lk rfl f7) hb37)) (by decide) (lk rfl f11) ty2 rfl (Yt (hM.rd hv0_3) hi41.2) fun a hE => ⟨Kept.refl _ _, _, _, rfl, hE, rfl⟩
        ·intro a w ux28 hE hM hp
         have f7 : ux28 7 = (vT (decide ((x29.length : Int) > 2000))) := hp 1 _ rfl rfl
         have f12 : ux28 12 = (vI x39) := hp 0 _ rfl rfl
         exact Zh hE (Zk hE rfl (lkb (lk rfl f7) hb37)) (by decide) (lk rfl f12) rfl rfl fun a hE => ⟨Kept.refl _ _, _, _, rfl, hE, rfl⟩
        ·intro a w ux28 hE hM hp
         have f7 : ux28 7 = (vT (decide ((x29.length : Int) > 2000))) := hp 0 _ rfl rfl
         have f13 : ux28 13 = (vT (decide (x39 < 1))) := hp 1 _ rfl rfl
         exact YP hE Za (dl rfl) (lkb (lk rfl f7) hb37) (lk rfl f13) fun a hE => ⟨Kept.refl _ _, _, _, rfl, hE, rfl⟩
        ·intro a w ux28 hE hM hp
         have f14 : ux28 14 = (vT (decide (x39 < 1))) := hp 0 _ rfl rfl
         exact Zd hE Za (dl rfl) (lk rfl f14) fun a hE => ⟨Kept.refl _ _, _, _, rfl, hE, rfl⟩
        ·intro a w ux28 hE hM hp
         have f15 : ux28 15 = (vT (decide (x39 < 1))) := hp 0 _ rfl rfl
         exact Zn hE rfl (lkb (lk rfl f15) hb42) rfl (by decide) fun a hE => ⟨Kept.refl _ _, _, _, rfl, hE, rfl⟩
        ·intro a w ux28 hE hM hp
         have f15 : ux28 15 = (vT (decide (x39 < 1))) := hp 1 _ rfl rfl
         have f16 : ux28 16 = undef := hp 0 _ rfl rfl
         exact Zn hE rfl (lkb (lk rfl f15) hb42) rfl (by decide) fun a hE => ⟨Kept.refl _ _, _, _, rfl, hE, rfl⟩
        ·intro a w ux28 hE hM hp
         have f15 : ux28 15 = (vT (decide (x39 < 1))) := hp 0 _ rfl rfl
         exact Zn hE rfl (lkb (lk rfl f15) hb42) rfl (by decide) fun a hE => ⟨Kept.refl _ _, _, _, rfl, hE, rfl⟩
        ·intro a w ux28 hE hM hp
         have f15 : ux28 15 = (vT (decide (x39 < 1))) := hp 2 _ rfl rfl
         have f17 : ux28 17 = undef := hp 0 _ rfl rfl
         have f18 : ux28 18 = undef := hp 1 _ rfl rfl
         exact Zn hE rfl (lkb (lk rfl f15) hb42) rfl (by decide) fun a hE => ⟨Kept.refl _ _, _, _, rfl, hE, rfl⟩
        ·intro a w ux28 hE hM hp
         have f15 : ux28 15 = (vT (decide (x39 < 1))) := hp 1 _ rfl rfl
         have f19 : ux28 19 = undef := hp 0 _ rfl rfl
         exact Zn hE rfl (lkb (lk rfl f15) hb42) rfl (by decide) fun a hE => ⟨Kept.refl _ _, _, _, rfl, hE, rfl⟩
        ·intro a w ux28 hE hM hp
         have f15 : ux28 15 = (vT (decide (x39 < 1))) := hp 1 _ rfl rfl
         have f20 : ux28 20 = undef := hp 0 _ rfl rfl
         exact Zn hE rfl (lkb (lk rfl f15) hb42) rfl (by decide) fun a hE => ⟨Kept.refl _ _, _, _, rfl, hE, rfl⟩
        ·intro a w ux28 hE hM hp
         have f15 : ux28 15 = (vT (decide (x39 < 1))) := hp 0 _ rfl rfl
         have f21 : ux28 21 = undef := hp 1 _ rfl rfl
         exact Yn hE Za (dl rfl) (lkb (lk rfl f15) hb42) rfl fun a hE => ⟨Kept.refl _ _, _, _, rfl, hE, rfl⟩
        ·intro a w ux28 hE hM hp
         have f22 : ux28 22 = (vT true) := hp 0 _ rfl rfl
         exact Zd hE Za (dl rfl) (lk rfl f22) fun a hE => ⟨Kept.refl _ _, _, _, rfl, hE, rfl⟩
        ·intro a w ux28 hE hM hp
         have f23 : ux28 23 = (vT true) := hp 0 _ rfl rfl
         exact Zn hE rfl (lk rfl f23) rfl (by decide) fun a hE => ⟨Kept.refl _ _, _, _, rfl, hE, rfl⟩
        ·intro a w ux28 hE hM hp
         have f23 : ux28 23 = (vT true) := hp 1 _ rfl rfl
         have f24 : ux28 24 = undef := hp 0 _ rfl rfl
         exact Zn hE rfl (lk rfl f23) rfl (by decide) fun a hE => ⟨Kept.refl _ _, _, _, rfl, hE, rfl⟩
        ·intro a w ux28 hE hM hp
         have f23 : ux28 23 = (vT true) := hp 0 _ rfl rfl
         exact Zn hE rfl (lk rfl f23) rfl (by decide) fun a hE => ⟨Kept.refl _ _, _, _, rfl, hE, rfl⟩
        ·intro a w ux28 hE hM hp
         have f23 : ux28 23 = (vT true) := hp 2 _ rfl rfl
         have f25 : ux28 25 = undef := hp 0 _ rfl rfl
         have f26 : ux28 26 = undef := hp 1 _ rfl rfl
         exact Zn hE rfl (lk rfl f23) rfl (by decide) fun a hE => ⟨Kept.refl _ _, _, _, rfl, hE, rfl⟩
        ·intro a w ux28 hE hM hp
         have f23 : ux28 23 = (vT true) := hp 1 _ rfl rfl
         have f27 : ux28 27 = undef := hp 0 _ rfl rfl
         exact Zn hE rfl (lk rfl f23) rfl (by decide) fun a hE => ⟨Kept.refl _ _, _, _, rfl, hE, rfl⟩
        ·intro a w ux28 hE hM hp
         have f23 : ux28 23 = (vT true) := hp 1 _ rfl rfl
         have f28 : ux28 28 = undef := hp 0 _ rfl rfl
         exact Zn hE rfl (lk rfl f23) rfl (by decide) fun a hE => ⟨Kept.refl _ _, _, _, rfl, hE, rfl⟩
        ·intro a w ux28 hE hM hp
         have f23 : ux28 23 = (vT true) := hp 0 _ rfl rfl
         exact Zn hE rfl (lk rfl f23) rfl (by decide) fun a hE => ⟨Kept.refl _ _, _, _, rfl, hE, rfl⟩
        ·intro a w ux28 hE hM hp
         have f23 : ux28 23 = (vT true) := hp 1 _ rfl rfl
         have f30 : ux28 30 = undef := hp 0 _ rfl rfl
         exact Zn hE rfl (lk rfl f23) rfl (by decide) fun a hE => ⟨Kept.refl _ _, _, _, rfl, hE, rfl⟩
        ·intro a w ux28 hE hM hp
         have f23 : ux28 23 = (vT true) := hp 0 _ rfl rfl
         exact Zn hE rfl (lk rfl f23) rfl (by decide) fun a hE => ⟨Kept.refl _ _, _, _, rfl, hE, rfl⟩
        ·intro a w ux28 hE hM hp
         have f23 : ux28 23 = (vT true) := hp 2 _ rfl rfl
         have f31 : ux28 31 = undef := hp 0 _ rfl rfl
         have f32 : ux28 32 = undef := hp 1 _ rfl rfl
         exact Zn hE rfl (lk rfl f23) rfl (by decide) fun a hE => ⟨Kept.refl _ _, _, _, rfl, hE, rfl⟩
        ·intro a w ux28 hE hM hp
         have f23 : ux28 23 = (vT true) := hp 1 _ rfl rfl
         have f33 : ux28 33 = undef := hp 0 _ rfl rfl
         exact Zn hE rfl (lk rfl f23) rfl (by decide) fun a hE => ⟨Kept.refl _ _, _, _, rfl, hE, rfl⟩
        ·intro a w ux28 hE hM hp
         have f23 : ux28 23 = (vT true) := hp 2 _ rfl rfl
         have f29 : ux28 29 = undef := hp 0 _ rfl rfl
         have f34 : ux28 34 = undef := hp 1 _ rfl rfl
         exact Zn hE rfl (lk rfl f23) rfl (by decide) fun a hE => ⟨Kept.refl _ _, _, _, rfl, hE, rfl⟩
        ·intro a w ux28 hE hM hp
         have f23 : ux28 23 = (vT true) := hp 0 _ rfl rfl
         have f35 : ux28 35 = undef := hp 1 _ rfl rfl
         exact Yn hE Za (dl rfl) (lk rfl f23) rfl fun a hE => ⟨Kept.refl _ _, _, _, rfl, hE, rfl⟩
        ·intro a w ux28 hE hM hg
         have hE := hE.sub (e' := [(71, (vT true)), (1, (ptr b1 0)), (3, (vI (p0.Keys.length : Int))), (4, (vI s20)), (30, (vI s20)), (31, (vI (p0.Keys.length : Int))), (32, (vT (decide (s20 < (p0.Keys.length : Int)))))]) ⟨lk rfl (hg 36 (by decide)), rfl, rfl, rfl, rfl, rfl, rfl, trivial⟩
         refine Zj ?_
         have ht43 := Option.some.inj hl26
         subst ht43
         refine Zl ?_
         exact ⟨hE.sub ⟨rfl, rfl, rfl, rfl, trivial⟩, hM⟩
       ·have hl26 := Zz hl26 hb42
        obtain ⟨x44, e45, hl26⟩ := bind_some hl26
        have hi46 := ZQ e45
        refine WE (decide (x44 > 1000000)) (fun hb47 => ?_) (fun hb47 => ?_)
        ·have hl26 := ZA hl26 hb47
         refine Yd (n := 72) (hd := [_, _, _, _, _, _, _, _, _, _, _, _, _, _, _, _, _, _, _, _, _, _, _, _, _, _, _, _, _, _, _, _, _, _, _, _, _]) (tl := []) YB rfl rfl [35, 36, 37, 38, 39, 40, 41, 42, 43, 44, 45, 46, 47, 48, 49, 50, 51, 52, 53, 54, 55, 56, 57, 58, 59, 60, 61, 62, 63, 64, 65, 66, 67, 68, 69, 70, 71] (by decide) (fun w => M (Old w0) w0 w [raw b1 (cat [[v0_1], [v0_2], [v0_3]])]) (fun j => ([fun v _ => v = (ptr b1 (0 + 1)), fun v _ => v = v0_2, fun v _ => v = (vI s20), fun v _ => v = (ptr (sb v0_2) (so v0_2 + (s20).toNat * 1)), fun v _ => v = u35, fun v _ => v = (vI (x29.length : Int)), fun v _ => v = (vT (decide ((x29.length : Int) > 2000))), fun v _ => v = (vT (decide ((x29.length : Int) > 2000))), fun v _ => v = (ptr b1 (0 + 2)), fun v _ => v = v0_3, fun v _ => v = (vI s20), fun v _ => v = (ptr (sb v0_3) (so v0_3 + (s20).toNat * 1)), fun v _ => v = (vI x39), fun v _ => v = (vT (decide (x39 < 1))), fun v _ => v = (vT (decide (x39 < 1))), fun v _ => v = (vT (decide (x39 < 1))), fun v _ => v = (ptr b1 (0 + 2)), fun v _ => v = v0_3, fun v _ => v = (vI s20), fun v _ => v = (ptr (sb v0_3) (so v0_3 + (s20).toNat * 1)), fun v _ => v = (vI x44), fun v _ => v = (vT (decide (x44 > 1000000))), fun v _ => v = (vT (decide (x44 > 1000000))), fun v _ => v = (vT (decide (x44 > 1000000))), fun v _ => v = undef, fun v _ => v = undef, fun v _ => v = undef, fun v _ => v = undef, fun v _ => v = undef, fun v _ => v = undef, fun v _ => v = undef, fun v _ => v = undef, fun v _ => v = undef, fun v _ => v = undef, fun v _ => v = undef, fun v _ => v = undef, fun v _ => v = (vT true)] : List (Value → World → Prop)).getD j (fun _ _ => True)) (fun _ _ h hk => h.keep hk) (gup (Zg (Zg (Zg (Zg (Zg (Zg (Zg (Zg (Zg (Zg (Zg (Zg (Zg (Zg (Zg (Zg (Zg (Zg (Zg (Zg (Zg (Zg (Zg (Zg (Zg (Zg (Zg (Zg (Zg (Zg (Zg (Zg (Zg (Zg (Zg (Zg (Zg Wu)))))))))))))))))))))))))))))))))))))) hE hM.drew (ZH (Zb ?_ (Zb ?_ (Zb ?_ (Zb ?_ (Zb ?_ (Zb ?_ (Zb ?_ (Zb ?_ (Zb ?_ (Zb ?_ (Zb ?_ (Zb ?_ (Zb ?_ (Zb ?_ (Zb ?_ (Zb ?_ (Zb ?_ (Zb ?_ (Zb ?_ (Zb ?_ (Zb ?_ (Zb ?_ (Zb ?_ (Zb ?_ (Zb ?_ (Zb ?_ (Zb ?_ (Zb ?_ (Zb ?_ (Zb ?_ (Zb ?_ (Zb ?_ (Zb ?_ (Zb ?_ (Zb ?_ (Zb ?_ (Zb ?_ ZD)))))))))))))))))))))))))))))))))))))) ?_
         ·exact fun a w ux28 hE hM hp => Zo hE Za (dl rfl) rfl (UE) fun a hE => ⟨Kept.refl _ _, _, _, rfl, hE, rfl⟩
         ·intro a w ux28 hE hM hp
          have f0 : ux28 0 = (ptr b1 (0 + 1)) := hp 0 _ rfl rfl
          exact Zv (v := v0_2) hE Za (dl rfl) (lk rfl f0) ty45 rfl (At.cat (pre := [[v0_1]]) (hM.rawAt (pre := [])) (cl1 (n := 1) (m := 0) rfl cl0)) fun a hE => ⟨Kept.refl _ _, _, _, rfl, hE, rfl⟩
         ·exact fun a w ux28 hE hM hp => Zd hE Za (dl rfl) rfl fun a hE => ⟨Kept.refl _ _, _, _, rfl, hE, rfl⟩
         ·intro a w ux28 hE hM hp
          have f1 : ux28 1 = v0_2 := hp 0 _ rfl rfl
          have f2 : ux28 2 = (vI s20) := hp 1 _ rfl rfl
          exact ZK hE Za (dl rfl) (lk rfl f1) (lk rfl f2) Try.underlying45 VD (hM.rd hv0_2) hi31.1 fun a hE => ⟨Kept.refl _ _, _, _, rfl, hE, rfl⟩
         ·intro a w ux28 hE hM hp
          have f3 : ux28 3 = (ptr (sb v0_2) (so v0_2 + (s20).toNat * 1)) := hp 0 _ rfl rfl
          exact Zv (v := u35) hE Za (dl rfl) (lk rfl f3) VD rfl (hM.atk hA34 (Uv hv0_2 hi31.2)) fun a hE => ⟨Kept.refl _ _, _, _, rfl, hE, rfl⟩
         ·intro a w ux28 hE hM hp
          have f4 : ux28 4 = u35 := hp 0 _ rfl rfl
          exact Z7 hE Za (dl rfl) (lk rfl f4) Try.underlying50 (hM.rd h36) fun a hE => ⟨Kept.refl _ _, _, _, rfl, hE, rfl⟩
         ·intro a w ux28 hE hM hp
          have f5 : ux28 5 = (vI (x29.length : Int)) := hp 0 _ rfl rfl
          exact Zh hE Za (dl rfl) (lk rfl f5) rfl rfl fun a hE => ⟨Kept.refl _ _, _, _, rfl, hE, rfl⟩
         ·intro a w ux28 hE hM hp
          have f6 : ux28 6 = (vT (decide ((x29.length : Int) > 2000))) := hp 0 _ rfl rfl
          exact Zd hE Za (dl rfl) (lk rfl f6) fun a hE => ⟨Kept.refl _ _, _, _, rfl, hE, rfl⟩
         ·intro a w ux28 hE hM hp
          have f7 : ux28 7 = (vT (decide ((x29.length : Int) > 2000))) := hp 0 _ rfl rfl
          exact Zo hE (Zk hE rfl (lkb (lk rfl f7) hb37)) (by decide) rfl (fd55_2) fun a hE => ⟨Kept.refl _ _, _, _, rfl, hE, rfl⟩
         ·intro a w ux28 hE hM hp
          have f7 : ux28 7 = (vT (decide ((x29.length : Int) > 2000))) := hp 1 _ rfl rfl
          have f8 : ux28 8 = (ptr b1 (0 + 2)) := hp 0 _ rfl rfl
          exact Zv (v := v0_3) hE (Zk hE rfl (lkb (lk rfl f7) hb37)) (by decide) (lk rfl f8) ty46 rfl (At.cat (pre := [[v0_1], [v0_2]]) (hM.rawAt (pre := [])) (cl1 (n := 1) (m := 1) rfl (cl1 (n := 1) (m := 0) rfl cl0))) fun a hE => ⟨Kept.refl _ _, _, _, rfl, hE, rfl⟩
         ·intro a w ux28 hE hM hp
          have f7 : ux28 7 = (vT (decide ((x29.length : Int) > 2000))) := hp 0 _ rfl rfl
          exact Zd hE (Zk hE rfl (lkb (lk rfl f7) hb37)) (by decide) rfl fun a hE => ⟨Kept.refl _ _, _, _, rfl, hE, rfl⟩
         ·intro a w ux28 hE hM hp
          have f7 : ux28 7 = (vT (decide ((x29.length : Int) > 2000))) := hp 2 _ rfl rfl
          have f9 : ux28 9 = v0_3 := hp 0 _ rfl rfl
          have f10 : ux28 10 = (vI s20) := hp 1 _ rfl rfl
          exact ZK hE (Zk hE rfl (lkb (lk rfl f7) hb37)) (by decide) (lk rfl f9) (lk rfl f10) Try.underlying46 ty2 (hM.rd hv0_3) hi41.1 fun a hE => ⟨Kept.refl _ _, _, _, rfl, hE, rfl⟩
         ·intro a w ux28 hE hM hp
          have f7 : ux28 7 = (vT (decide ((x29.length : Int) > 2000))) := hp 1 _ rfl rfl
          have f11 : ux28 11 = (ptr (sb v0_3) (so v0_3 + (s20).toNat * 1)) := hp 0 _ rfl rfl
          exact Zv (v := (vI x39)) hE (Zk hE rfl (lkb (lk rfl f7) hb37)) (by decide) (lk rfl f11) ty2 rfl (Yt (hM.rd hv0_3) hi41.2) fun a hE => ⟨Kept.refl _ _, _, _, rfl, hE, rfl⟩
         ·intro a w ux28 hE hM hp
          have f7 : ux28 7 = (vT (decide ((x29.length : Int) > 2000))) := hp 1 _ rfl rfl
          have f12 : ux28 12 = (vI x39) := hp 0 _ rfl rfl
          exact Zh hE (Zk hE rfl (lkb (lk rfl f7) hb37)) (by decide) (lk rfl f12) rfl rfl fun a hE => ⟨Kept.refl _ _, _, _, rfl, hE, rfl⟩
         ·intro a w ux28 hE hM hp
          have f7 : ux28 7 = (vT (decide ((x29.length : Int) > 2000))) := hp 0 _ rfl rfl
          have f13 : ux28 13 = (vT (decide (x39 < 1))) := hp 1 _ rfl rfl
          exact YP hE Za (dl rfl) (lkb (lk rfl f7) hb37) (lk rfl f13) fun a hE => ⟨Kept.refl _ _, _, _, rfl, hE, rfl⟩
         ·intro a w ux28 hE hM hp
          have f14 : ux28 14 = (vT (decide (x39 < 1))) := hp 0 _ rfl rfl
          exact Zd hE Za (dl rfl) (lk rfl f14) fun a hE => ⟨Kept.refl _ _, _, _, rfl, hE, rfl⟩
         ·intro a w ux28 hE hM hp
          have f15 : ux28 15 = (vT (decide (x39 < 1))) := hp 0 _ rfl rfl
          exact Zo hE (Zk hE rfl (lkb (lk rfl f15) hb42)) (by decide) rfl (fd55_2) fun a hE => ⟨Kept.refl _ _, _, _, rfl, hE, rfl⟩
         ·intro a w ux28 hE hM hp
          have f15 : ux28 15 = (vT (decide (x39 < 1))) := hp 1 _ rfl rfl
          have f16 : ux28 16 = (ptr b1 (0 + 2)) := hp 0 _ rfl rfl
          exact Zv (v := v0_3) hE (Zk hE rfl (lkb (lk rfl f15) hb42)) (by decide) (lk rfl f16) ty46 rfl (At.cat (pre := [[v0_1], [v0_2]]) (hM.rawAt (pre := [])) (cl1 (n := 1) (m := 1) rfl (cl1 (n := 1) (m := 0) rfl cl0))) fun a hE => ⟨Kept.refl _ _, _, _, rfl, hE, rfl⟩
         ·intro a w ux28 hE hM hp
          have f15 : ux28 15 = (vT (decide (x39 < 1))) := hp 0 _ rfl rfl
          exact Zd hE (Zk hE rfl (lkb (lk rfl f15) hb42)) (by decide) rfl fun a hE => ⟨Kept.refl _ _, _, _, rfl, hE, rfl⟩
         ·intro a w ux28 hE hM hp
          have f15 : ux28 15 = (vT (decide (x39 < 1))) := hp 2 _ rfl rfl
          have f17 : ux28 17 = v0_3 := hp 0 _ rfl rfl
          have f18 : ux28 18 = (vI s20) := hp 1 _ rfl rfl
          exact ZK hE (Zk hE rfl (lkb (lk rfl f15) hb42)) (by decide) (lk rfl f17) (lk rfl f18) Try.underlying46 ty2 (hM.rd hv0_3) hi46.1 fun a hE => ⟨Kept.refl _ _, _, _, rfl, hE, rfl⟩
         ·intro a w ux28 hE hM hp
          have f15 : ux28 15 = (vT (decide (x39 < 1))) := hp 1 _ rfl rfl
          have f19 : ux28 19 = (ptr (sb v0_3) (so v0_3 + (s20).toNat * 1)) := hp 0 _ rfl rfl
          exact Zv (v := (vI x44)) hE (Zk hE rfl (lkb (lk rfl f15) hb42)) (by decide) (lk rfl f19) ty2 rfl (Yt (hM.rd hv0_3) hi46.2) fun a hE => ⟨Kept.refl _ _, _, _, rfl, hE, rfl⟩
         ·intro a w ux28 hE hM hp
          have f15 : ux28 15 = (vT (decide (x39 < 1))) := hp 1 _ rfl rfl
          have f20 : ux28 20 = (vI x44) := hp 0 _ rfl rfl
          exact Zh hE (Zk hE rfl (lkb (lk rfl f15) hb42)) (by decide) (lk rfl f20) rfl rfl fun a hE => ⟨Kept.refl _ _, _, _, rfl, hE, rfl⟩
         ·intro a w ux28 hE hM hp
          have f15 : ux28 15 = (vT (decide (x39 < 1))) := hp 0 _ rfl rfl
          have f21 : ux28 21 = (vT (decide (x44 > 1000000))) := hp 1 _ rfl rfl
          exact YP hE Za (dl rfl) (lkb (lk rfl f15) hb42) (lk rfl f21) fun a hE => ⟨Kept.refl _ _, _, _, rfl, hE, rfl⟩
         ·intro a w ux28 hE hM hp
          have f22 : ux28 22 = (vT (decide (x44 > 1000000))) := hp 0 _ rfl rfl
          exact Zd hE Za (dl rfl) (lk rfl f22) fun a hE => ⟨Kept.refl _ _, _, _, rfl, hE, rfl⟩
         ·intro a w ux28 hE hM hp
          have f23 : ux28 23 = (vT (decide (x44 > 1000000))) := hp 0 _ rfl rfl
          exact Zn hE rfl (lkb (lk rfl f23) hb47) rfl (by decide) fun a hE => ⟨Kept.refl _ _, _, _, rfl, hE, rfl⟩
         ·intro a w ux28 hE hM hp
          have f23 : ux28 23 = (vT (decide (x44 > 1000000))) := hp 1 _ rfl rfl
          have f24 : ux28 24 = undef := hp 0 _ rfl rfl
          exact Zn hE rfl (lkb (lk rfl f23) hb47) rfl (by decide) fun a hE => ⟨Kept.refl _ _, _, _, rfl, hE, rfl⟩
         ·intro a w ux28 hE hM hp
          have f23 : ux28 23 = (vT (decide (x44 > 1000000))) := hp 0 _ rfl rfl
          exact Zn hE rfl (lkb (lk rfl f23) hb47) rfl (by decide) fun a hE => ⟨Kept.refl _ _, _, _, rfl, hE, rfl⟩
         ·intro a w ux28 hE hM hp
          have f23 : ux28 23 = (vT (decide (x44 > 1000000))) := hp 2 _ rfl rfl
          have f25 : ux28 25 = undef := hp 0 _ rfl rfl
          have f26 : ux28 26 = undef := hp 1 _ rfl rfl
          exact Zn hE rfl (lkb (lk rfl f23) hb47) rfl (by decide) fun a hE => ⟨Kept.refl _ _, _, _, rfl, hE, rfl⟩
         ·intro a w ux28 hE hM hp
          have f23 : ux28 23 = (vT (decide (x44 > 1000000))) := hp 1 _ rfl rfl
          have f27 : ux28 27 = undef := hp 0 _ rfl rfl
          exact Zn hE rfl (lkb (lk rfl f23) hb47) rfl (by decide) fun a hE => ⟨Kept.refl _ _, _, _, rfl, hE, rfl⟩
         ·intro a w ux28 hE hM hp
          have f23 : ux28 23 = (vT (decide (x44 > 1000000))) := hp 1 _ rfl rfl
          have f28 : ux28 28 = undef := hp 0 _ rfl rfl
          exact Zn hE rfl (lkb (lk rfl f23) hb47) rfl (by decide) fun a hE => ⟨Kept.refl _ _, _, _, rfl, hE, rfl⟩
         ·intro a w ux28 hE hM hp
          have f23 : ux28 23 = (vT (decide (x44 > 1000000))) := hp 0 _ rfl rfl
          exact Zn hE rfl (lkb (lk rfl f23) hb47) rfl (by decide) fun a hE => ⟨Kept.refl _ _, _, _, rfl, hE, rfl⟩
         ·intro a w ux28 hE hM hp
          have f23 : ux28 23 = (vT (decide (x44 > 1000000))) := hp 1 _ rfl rfl
          have f30 : ux28 30 = undef := hp 0 _ rfl rfl
          exact Zn hE rfl (lkb (lk rfl f23) hb47) rfl (by decide) fun a hE => ⟨Kept.refl _ _, _, _, rfl, hE, rfl⟩
         ·intro a w ux28 hE hM hp
          have f23 : ux28 23 = (vT (decide (x44 > 1000000))) := hp 0 _ rfl rfl
          exact Zn hE rfl (lkb (lk rfl f23) hb47) rfl (by decide) fun a hE => ⟨Kept.refl _ _, _, _, rfl, hE, rfl⟩
         ·intro a w ux28 hE hM hp
          have f23 : ux28 23 = (vT (decide (x44 > 1000000))) := hp 2 _ rfl rfl
          have f31 : ux28 31 = undef := hp 0 _ rfl rfl
          have f32 : ux28 32 = undef := hp 1 _ rfl rfl
          exact Zn hE rfl (lkb (lk rfl f23) hb47) rfl (by decide) fun a hE => ⟨Kept.refl _ _, _, _, rfl, hE, rfl⟩
         ·intro a w ux28 hE hM hp
          have f23 : ux28 23 = (vT (decide (x44 > 1000000))) := hp 1 _ rfl rfl
          have f33 : ux28 33 = undef := hp 0 _ rfl rfl
          exact Zn hE rfl (lkb (lk rfl f23) hb47) rfl (by decide) fun a hE => ⟨Kept.refl _ _, _, _, rfl, hE, rfl⟩
         ·intro a w ux28 hE hM hp
          have f23 : ux28 23 = (vT (decide (x44 > 1000000))) := hp 2 _ rfl rfl
          have f29 : ux28 29 = undef := hp 0 _ rfl rfl
          have f34 : ux28 34 = undef := hp 1 _ rfl rfl
          exact Zn hE rfl (lkb (lk rfl f23) hb47) rfl (by decide) fun a hE => ⟨Kept.refl _ _, _, _, rfl, hE, rfl⟩
         ·intro a w ux28 hE hM hp
          have f23 : ux28 23 = (vT (decide (x44 > 1000000))) := hp 0 _ rfl rfl
          have f35 : ux28 35 = undef := hp 1 _ rfl rfl
          exact Yn hE Za (dl rfl) (lkb (lk rfl f23) hb47) rfl fun a hE => ⟨Kept.refl _ _, _, _, rfl, hE, rfl⟩
         ·intro a w ux28 hE hM hg
          have hE := hE.sub (e' := [(71, (vT true)), (1, (ptr b1 0)), (3, (vI (p0.Keys.length : Int))), (4, (vI s20)), (30, (vI s20)), (31, (vI (p0.Keys.length : Int))), (32, (vT (decide (s20 < (p0.Keys.length : Int)))))]) ⟨lk rfl (hg 36 (by decide)), rfl, rfl, rfl, rfl, rfl, rfl, trivial⟩
          refine Zj ?_
          have ht48 := Option.some.inj hl26
          subst ht48
          refine Zl ?_
          exact ⟨hE.sub ⟨rfl, rfl, rfl, rfl, trivial⟩, hM⟩
        ·have hl26 := Zz hl26 hb47
         obtain ⟨x49, e50, hl26⟩ := bind_some hl26
         have hi51 := ZQ e50
         obtain ⟨cs52, hs53, hA54⟩ := Us hv0_2 hi51.2 -- ^
         obtain ⟨u55, rfl⟩ := Vp hs53 -- ^
         have h56 := hs53 -- ^
         obtain ⟨r57, e58, hl26⟩ := bind_some hl26
         obtain ⟨x59, e60, hl26⟩ := bind_some hl26
         have hi61 := ZQ e60
         refine Yd (n := 72) (hd := [_, _, _, _, _, _, _, _, _, _, _, _, _, _, _, _, _, _, _, _, _, _, _, _, _, _, _, _, _, _, _, _, _, _, _, _, _]) (tl := []) YB rfl rfl [35, 36, 37, 38, 39, 40, 41, 42, 43, 44, 45, 46, 47, 48, 49, 50, 51, 52, 53, 54, 55, 56, 57, 58, 59, 60, 61, 62, 63, 64, 65, 66, 67, 68, 69, 70, 71] (by decide) (fun w => M (Old w0) w0 w [raw b1 (cat [[v0_1], [v0_2], [v0_3]])]) (fun j => ([fun v _ => v = (ptr b1 (0 + 1)), fun v _ => v = v0_2, fun v _ => v = (vI s20), fun v _ => v = (ptr (sb v0_2) (so v0_2 + (s20).toNat * 1)), fun v _ => v = u35, fun v _ => v = (vI (x29.length : Int)), fun v _ => v = (vT (decide ((x29.length : Int) > 2000))), fun v _ => v = (vT (decide ((x29.length : Int) > 2000))), fun v _ => v = (ptr b1 (0 + 2)), fun v _ => v = v0_3, fun v _ => v = (vI s20), fun v _ => v = (ptr (sb v0_3) (so v0_3 + (s20).toNat * 1)), fun v _ => v = (vI x39), fun v _ => v = (vT (decide (x39 < 1))), fun v _ => v = (vT (decide (x39 < 1))), fun v _ => v = (vT (decide (x39 < 1))), fun v _ => v = (ptr b1 (0 + 2)), fun v _ => v = v0_3, fun v _ => v = (vI s20), fun v _ => v = (ptr (sb v0_3) (so v0_3 + (s20).toNat * 1)), fun v _ => v = (vI x44), fun v _ => v = (vT (decide (x44 > 1000000))), fun v _ => v = (vT (decide (x44 > 1000000))), fun v _ => v = (vT (decide (x44 > 1000000))), fun v _ => v = (ptr b1 (0 + 1)), fun v _ => v = v0_2, fun v _ => v = (vI s20), fun v _ => v = (ptr (sb v0_2) (so v0_2 + (s20).toNat * 1)), fun v _ => v = u55, fun v _ => v = (Value.agg (Flat.enc r57).toArray), fun v _ => v = (ptr b1 (0 + 0)), fun v _ => v = v0_1, fun v _ => v = (vI s20), fun v _ => v = (ptr (sb v0_1) (so v0_1 + (s20).toNat * 32)), fun v _ => v = (Value.agg (Flat.enc x59).toArray), fun v _ => v = (vT (!decide (r57 = x59))), fun v _ => v = (vT (!decide (r57 = x59)))] : List (Value → World → Prop)).getD j (fun _ _ => True)) (fun _ _ h hk => h.keep hk) (gup (Zg (Zg (Zg (Zg (Zg (Zg (Zg (Zg (Zg (Zg (Zg (Zg (Zg (Zg (Zg (Zg (Zg (Zg (Zg (Zg (Zg (Zg (Zg (Zg (Zg (Zg (Zg (Zg (Zg (Zg (Zg (Zg (Zg (Zg (Zg (Zg (Zg Wu)))))))))))))))))))))))))))))))))))))) hE hM.drew (ZH (Zb ?_ (Zb ?_ (Zb ?_ (Zb ?_ (Zb ?_ (Zb ?_ (Zb ?_ (Zb ?_ (Zb ?_ (Zb ?_ (Zb ?_ (Zb ?_ (Zb ?_ (Zb ?_ (Zb ?_ (Zb ?_ (Zb ?_ (Zb ?_ (Zb ?_ (Zb ?_ (Zb ?_ (Zb ?_ (Zb ?_ (Zb ?_ (Zb ?_ (Zb ?_ (Zb ?_ (Zb ?_ (Zb ?_ (Zb ?_ (Zb ?_ (Zb ?_ (Zb ?_ (Zb ?_ (Zb ?_ (Zb ?_ (Zb ?_ ZD)))))))))))))))))))))))))))))))))))))) ?_
         ·exact fun a w ux28 hE hM hp => Zo hE Za (dl rfl) rfl (UE) fun a hE => ⟨Kept.refl _ _, _, _, rfl, hE, rfl⟩
         ·intro a w ux28 hE hM hp
          have f0 : ux28 0 = (ptr b1 (0 + 1)) := hp 0 _ rfl rfl
          exact Zv (v := v0_2) hE Za (dl rfl) (lk rfl f0) ty45 rfl (At.cat (pre := [[v0_1]]) (hM.rawAt (pre := [])) (cl1 (n := 1) (m := 0) rfl cl0)) fun a hE => ⟨Kept.refl _ _, _, _, rfl, hE, rfl⟩
         ·exact fun a w ux28 hE hM hp => Zd hE Za (dl rfl) rfl fun a hE => ⟨Kept.refl _ _, _, _, rfl, hE, rfl⟩
         ·intro a w ux28 hE hM hp
          have f1 : ux28 1 = v0_2 := hp 0 _ rfl rfl
          have f2 : ux28 2 = (vI s20) := hp 1 _ rfl rfl
          exact ZK hE Za (dl rfl) (lk rfl f1) (lk rfl f2) Try.underlying45 VD (hM.rd hv0_2) hi31.1 fun a hE => ⟨Kept.refl _ _, _, _, rfl, hE, rfl⟩
         ·intro a w ux28 hE hM hp
          have f3 : ux28 3 = (ptr (sb v0_2) (so v0_2 + (s20).toNat * 1)) := hp 0 _ rfl rfl
          exact Zv (v := u35) hE Za (dl rfl) (lk rfl f3) VD rfl (hM.atk hA34 (Uv hv0_2 hi31.2)) fun a hE => ⟨Kept.refl _ _, _, _, rfl, hE, rfl⟩
         ·intro a w ux28 hE hM hp
          have f4 : ux28 4 = u35 := hp 0 _ rfl rfl
          exact Z7 hE Za (dl rfl) (lk rfl f4) Try.underlying50 (hM.rd h36) fun a hE => ⟨Kept.refl _ _, _, _, rfl, hE, rfl⟩
         ·intro a w ux28 hE hM hp
          have f5 : ux28 5 = (vI (x29.length : Int)) := hp 0 _ rfl rfl
          exact Zh hE Za (dl rfl) (lk rfl f5) rfl rfl fun a hE => ⟨Kept.refl _ _, _, _, rfl, hE, rfl⟩
         ·intro a w ux28 hE hM hp
          have f6 : ux28 6 = (vT (decide ((x29.length : Int) > 2000))) := hp 0 _ rfl rfl
          exact Zd hE Za (dl rfl) (lk rfl f6) fun a hE => ⟨Kept.refl _ _, _, _, rfl, hE, rfl⟩
         ·intro a w ux28 hE hM hp
          have f7 : ux28 7 = (vT (decide ((x29.length : Int) > 2000))) := hp 0 _ rfl rfl
          exact Zo hE (Zk hE rfl (lkb (lk rfl f7) hb37)) (by decide) rfl (fd55_2) fun a hE => ⟨Kept.refl _ _, _, _, rfl, hE, rfl⟩
         ·intro a w ux28 hE hM hp
          have f7 : ux28 7 = (vT (decide ((x29.length : Int) > 2000))) := hp 1 _ rfl rfl
          have f8 : ux28 8 = (ptr b1 (0 + 2)) := hp 0 _ rfl rfl
          exact Zv (v := v0_3) hE (Zk hE rfl (lkb (lk rfl f7) hb37)) (by decide) (lk rfl f8) ty46 rfl (At.cat (pre := [[v0_1], [v0_2]]) (hM.rawAt (pre := [])) (cl1 (n := 1) (m := 1) rfl (cl1 (n := 1) (m := 0) rfl cl0))) fun a hE => ⟨Kept.refl _ _, _, _, rfl, hE, rfl⟩
         ·intro a w ux28 hE hM hp
          have f7 : ux28 7 = (vT (decide ((x29.length : Int) > 2000))) := hp 0 _ rfl rfl
          exact Zd hE (Zk hE rfl (lkb (lk rfl f7) hb37)) (by decide) rfl fun a hE => ⟨Kept.refl _ _, _, _, rfl, hE, rfl⟩
         ·intro a w ux28 hE hM hp
          have f7 : ux28 7 = (vT (decide ((x29.length : Int) > 2000))) := hp 2 _ rfl rfl
          have f9 : ux28 9 = v0_3 := hp 0 _ rfl rfl
          have f10 : ux28 10 = (vI s20) := hp 1 _ rfl rfl
          exact ZK hE (Zk hE rfl (lkb (lk rfl f7) hb37)) (by decide) (lk rfl f9) (lk rfl f10) Try.underlying46 ty2 (hM.rd hv0_3) hi41.1 fun a hE => ⟨Kept.refl _ _, _, _, rfl, hE, rfl⟩
         ·intro a w ux28 hE hM hp
          have f7 : ux28 7 = (vT (decide ((x29.length : Int) > 2000))) := hp 1 _ rfl rfl
          have f11 : ux28 11 = (ptr (sb v0_3) (so v0_3 + (s20).toNat * 1)) := hp 0 _ rfl rfl
          exact Zv (v := (vI x39)) hE (Zk hE rfl (lkb (lk rfl f7) hb37)) (by decide) (lk rfl f11) ty2 rfl (Yt (hM.rd hv0_3) hi41.2) fun a hE => ⟨Kept.refl _ _, _, _, rfl, hE, rfl⟩
         ·intro a w ux28 hE hM hp
          have f7 : ux28 7 = (vT (decide ((x29.length : Int) > 2000))) := hp 1 _ rfl rfl
          have f12 : ux28 12 = (vI x39) := hp 0 _ rfl rfl
          exact Zh hE (Zk hE rfl (lkb (lk rfl f7) hb37)) (by decide) (lk rfl f12) rfl rfl fun a hE => ⟨Kept.refl _ _, _, _, rfl, hE, rfl⟩
         ·intro a w ux28 hE hM hp
          have f7 : ux28 7 = (vT (decide ((x29.length : Int) > 2000))) := hp 0 _ rfl rfl
          have f13 : ux28 13 = (vT (decide (x39 < 1))) := hp 1 _ rfl rfl
          exact YP hE Za (dl rfl) (lkb (lk rfl f7) hb37) (lk rfl f13) fun a hE => ⟨Kept.refl _ _, _, _, rfl, hE, rfl⟩
         ·intro a w ux28 hE hM hp
          have f14 : ux28 14 = (vT (decide (x39 < 1))) := hp 0 _ rfl rfl
          exact Zd hE Za (dl rfl) (lk rfl f14) fun a hE => ⟨Kept.refl _ _, _, _, rfl, hE, rfl⟩
         ·intro a w ux28 hE hM hp
          have f15 : ux28 15 = (vT (decide (x39 < 1))) := hp 0 _ rfl rfl
          exact Zo hE (Zk hE rfl (lkb (lk rfl f15) hb42)) (by decide) rfl (fd55_2) fun a hE => ⟨Kept.refl _ _, _, _, rfl, hE, rfl⟩
         ·intro a w ux28 hE hM hp
          have f15 : ux28 15 = (vT (decide (x39 < 1))) := hp 1 _ rfl rfl
          have f16 : ux28 16 = (ptr b1 (0 + 2)) := hp 0 _ rfl rfl
          exact Zv (v := v0_3) hE (Zk hE rfl (lkb (lk rfl f15) hb42)) (by decide) (lk rfl f16) ty46 rfl (At.cat (pre := [[v0_1], [v0_2]]) (hM.rawAt (pre := [])) (cl1 (n := 1) (m := 1) rfl (cl1 (n := 1) (m := 0) rfl cl0))) fun a hE => ⟨Kept.refl _ _, _, _, rfl, hE, rfl⟩
         ·intro a w ux28 hE hM hp
          have f15 : ux28 15 = (vT (decide (x39 < 1))) := hp 0 _ rfl rfl
          exact Zd hE (Zk hE rfl (lkb (lk rfl f15) hb42)) (by decide) rfl fun a hE => ⟨Kept.refl _ _, _, _, rfl, hE, rfl⟩
         ·intro a w ux28 hE hM hp
          have f15 : ux28 15 = (vT (decide (x39 < 1))) := hp 2 _ rfl rfl
          have f17 : ux28 17 = v0_3 := hp 0 _ rfl rfl
          have f18 : ux28 18 = (vI s20) := hp 1 _ rfl rfl
          exact ZK hE (Zk hE rfl (lkb (lk rfl f15) hb42)) (by decide) (lk rfl f17) (lk rfl f18) Try.underlying46 ty2 (hM.rd hv0_3) hi46.1 fun a hE => ⟨Kept.refl _ _, _, _, rfl, hE, rfl⟩
         ·intro a w ux28 hE hM hp
          have f15 : ux28 15 = (vT (decide (x39 < 1))) := hp 1 _ rfl rfl
          have f19 : ux28 19 = (ptr (sb v0_3) (so v0_3 + (s20).toNat * 1)) := hp 0 _ rfl rfl
          exact Zv (v := (vI x44)) hE (Zk hE rfl (lkb (lk rfl f15) hb42)) (by decide) (lk rfl f19) ty2 rfl (Yt (hM.rd hv0_3) hi46.2) fun a hE => ⟨Kept.refl _ _, _, _, rfl, hE, rfl⟩
         ·intro a w ux28 hE hM hp
          have f15 : ux28 15 = (vT (decide (x39 < 1))) := hp 1 _ rfl rfl
          have f20 : ux28 20 = (vI x44) := hp 0 _ rfl rfl
          exact Zh hE (Zk hE rfl (lkb (lk rfl f15) hb42)) (by decide) (lk rfl f20) rfl rfl fun a hE => ⟨Kept.refl _ _, _, _, rfl, hE, rfl⟩
         ·intro a w ux28 hE hM hp
          have f15 : ux28 15 = (vT (decide (x39 < 1))) := hp 0 _ rfl rfl
          have f21 : ux28 21 = (vT (decide (x44 > 1000000))) := hp 1 _ rfl rfl
          exact YP hE Za (dl rfl) (lkb (lk rfl f15) hb42) (lk rfl f21) fun a hE => ⟨Kept.refl _ _, _, _, rfl, hE, rfl⟩
         ·intro a w ux28 hE hM hp
          have f22 : ux28 22 = (vT (decide (x44 > 1000000))) := hp 0 _ rfl rfl
          exact Zd hE Za (dl rfl) (lk rfl f22) fun a hE => ⟨Kept.refl _ _, _, _, rfl, hE, rfl⟩
         ·intro a w ux28 hE hM hp
          have f23 : ux28 23 = (vT (decide (x44 > 1000000))) := hp 0 _ rfl rfl
          exact Zo hE (Zk hE rfl (lkb (lk rfl f23) hb47)) (by decide) rfl (UE) fun a hE => ⟨Kept.refl _ _, _, _, rfl, hE, rfl⟩
         ·intro a w ux28 hE hM hp
          have f23 : ux28 23 = (vT (decide (x44 > 1000000))) := hp 1 _ rfl rfl
          have f24 : ux28 24 = (ptr b1 (0 + 1)) := hp 0 _ rfl rfl
          exact Zv (v := v0_2) hE (Zk hE rfl (lkb (lk rfl f23) hb47)) (by decide) (lk rfl f24) ty45 rfl (At.cat (pre := [[v0_1]]) (hM.rawAt (pre := [])) (cl1 (n := 1) (m := 0) rfl cl0)) fun a hE => ⟨Kept.refl _ _, _, _, rfl, hE, rfl⟩
         ·intro a w ux28 hE hM hp
          have f23 : ux28 23 = (vT (decide (x44 > 1000000))) := hp 0 _ rfl rfl
          exact Zd hE (Zk hE rfl (lkb (lk rfl f23) hb47)) (by decide) rfl fun a hE => ⟨Kept.refl _ _, _, _, rfl, hE, rfl⟩
         ·intro a w ux28 hE hM hp
          have f23 : ux28 23 = (vT (decide (x44 > 1000000))) := hp 2 _ rfl rfl
          have f25 : ux28 25 = v0_2 := hp 0 _ rfl rfl
          have f26 : ux28 26 = (vI s20) := hp 1 _ rfl rfl
          exact ZK hE (Zk hE rfl (lkb (lk rfl f23) hb47)) (by decide) (lk rfl f25) (lk rfl f26) Try.underlying45 VD (hM.rd hv0_2) hi51.1 fun a hE => ⟨Kept.refl _ _, _, _, rfl, hE, rfl⟩
         ·intro a w ux28 hE hM hp
          have f23 : ux28 23 = (vT (decide (x44 > 1000000))) := hp 1 _ rfl rfl
          have f27 : ux28 27 = (ptr (sb v0_2) (so v0_2 + (s20).toNat * 1)) := hp 0 _ rfl rfl
          exact Zv (v := u55) hE (Zk hE rfl (lkb (lk rfl f23) hb47)) (by decide) (lk rfl f27) VD rfl (hM.atk hA54 (Uv hv0_2 hi51.2)) fun a hE => ⟨Kept.refl _ _, _, _, rfl, hE, rfl⟩
         ·intro a w ux28 hE hM hp
          have f23 : ux28 23 = (vT (decide (x44 > 1000000))) := hp 1 _ rfl rfl
          have f28 : ux28 28 = u55 := hp 0 _ rfl rfl
          refine Zw (vs := [u55]) hE (Zk hE rfl (lkb (lk rfl f23) hb47)) (by decide) (Z0 (ZY (lk rfl f28) Xf)) cb76 (c_spec_l08Digest _ x49 u55 (hM.rdo h56) r57 e58) ?_
          rintro v w a ⟨rfl, hK⟩ hE
          exact ⟨hK, _, _, rfl, hE, rfl⟩
         ·intro a w ux28 hE hM hp
          have f23 : ux28 23 = (vT (decide (x44 > 1000000))) := hp 0 _ rfl rfl
          exact Zo hE (Zk hE rfl (lkb (lk rfl f23) hb47)) (by decide) rfl (Vz) fun a hE => ⟨Kept.refl _ _, _, _, rfl, hE, rfl⟩
         ·intro a w ux28 hE hM hp
          have f23 : ux28 23 = (vT (decide (x44 > 1000000))) := hp 1 _ rfl rfl
          have f30 : ux28 30 = (ptr b1 (0 + 0)) := hp 0 _ rfl rfl
          exact Zv (v := v0_1) hE (Zk hE rfl (lkb (lk rfl f23) hb47)) (by decide) (lk rfl f30) ty53 rfl (At.cat (pre := []) (hM.rawAt (pre := [])) cl0) fun a hE => ⟨Kept.refl _ _, _, _, rfl, hE, rfl⟩
         ·intro a w ux28 hE hM hp
          have f23 : ux28 23 = (vT (decide (x44 > 1000000))) := hp 0 _ rfl rfl
          exact Zd hE (Zk hE rfl (lkb (lk rfl f23) hb47)) (by decide) rfl fun a hE => ⟨Kept.refl _ _, _, _, rfl, hE, rfl⟩
         ·intro a w ux28 hE hM hp
          have f23 : ux28 23 = (vT (decide (x44 > 1000000))) := hp 2 _ rfl rfl
          have f31 : ux28 31 = v0_1 := hp 0 _ rfl rfl
          have f32 : ux28 32 = (vI s20) := hp 1 _ rfl rfl
          exact ZK hE (Zk hE rfl (lkb (lk rfl f23) hb47)) (by decide) (lk rfl f31) (lk rfl f32) Try.underlying53 Yi (hM.rd hv0_1) hi61.1 fun a hE => ⟨Kept.refl _ _, _, _, rfl, hE, rfl⟩
         ·intro a w ux28 hE hM hp
          have f23 : ux28 23 = (vT (decide (x44 > 1000000))) := hp 1 _ rfl rfl
          have f33 : ux28 33 = (ptr (sb v0_1) (so v0_1 + (s20).toNat * 32)) := hp 0 _ rfl rfl
          exact Zp (cs := Flat.enc x59) hE (Zk hE rfl (lkb (lk rfl f23) hb47)) (by decide) (lk rfl f33) Yi rfl (Yt (hM.rd hv0_1) hi61.2) (Flat.len _) fun a hE => ⟨Kept.refl _ _, _, _, rfl, hE, rfl⟩
         ·intro a w ux28 hE hM hp
          have f23 : ux28 23 = (vT (decide (x44 > 1000000))) := hp 2 _ rfl rfl
          have f29 : ux28 29 = (Value.agg (Flat.enc r57).toArray) := hp 0 _ rfl rfl
          have f34 : ux28 34 = (Value.agg (Flat.enc x59).toArray) := hp 1 _ rfl rfl
          exact s_neA hE (Zk hE rfl (lkb (lk rfl f23) hb47)) (by decide) (lk rfl f29) (lk rfl f34) (eqok_arr Try.underlying25 ty5 rfl false rfl (by decide) (eqok_byte Try.underlying5)) (by decide) (by kernel_rfl) fun a hE => ⟨Kept.refl _ _, _, _, rfl, hE, rfl⟩
         ·intro a w ux28 hE hM hp
          have f23 : ux28 23 = (vT (decide (x44 > 1000000))) := hp 0 _ rfl rfl
          have f35 : ux28 35 = (vT (!decide (r57 = x59))) := hp 1 _ rfl rfl
          exact YP hE Za (dl rfl) (lkb (lk rfl f23) hb47) (lk rfl f35) fun a hE => ⟨Kept.refl _ _, _, _, rfl, hE, rfl⟩
         ·intro a w ux28 hE hM hg
          have hE := hE.sub (e' := [(71, (vT (!decide (r57 = x59)))), (1, (ptr b1 0)), (3, (vI (p0.Keys.length : Int))), (4, (vI s20)), (30, (vI s20)), (31, (vI (p0.Keys.length : Int))), (32, (vT (decide (s20 < (p0.Keys.length : Int)))))]) ⟨lk rfl (hg 36 (by decide)), rfl, rfl, rfl, rfl, rfl, rfl, trivial⟩
          refine Zj ?_
          have ht62 := Option.some.inj hl26
          subst ht62
          refine Zl ?_
          exact ⟨hE.sub ⟨rfl, rfl, rfl, rfl, trivial⟩, hM⟩
     ·skip
      rintro a w ⟨hE, hM⟩
      refine Zt hE rfl ?_ ?_
      ·intro hb63
       have hF27 := ZA hF27 hb63
       refine Zc (Ze hE Za (dl rfl) rfl ?_); intro a hE
       refine Zf ?_
       have ht64 := hx22 _ (Option.some.inj hF27).symm
       subst ht64
       have hr := Option.some.inj hF18
       subst hr
       have hM := M.fst (l := []) hM
       exact wp_ret (W0 (ZL (ZL (W0 (ZL (ZL (Zy hE rfl (Zu hE rfl) ⟨_, rfl, rfl, hM.kept⟩)))))))
      ·intro hb63
       have hF27 := Zz hF27 hb63
       refine wp_skip (Yk (Zx (wp_region_lit (Zd hE Za (dl rfl) rfl ?_)))); intro a hE
       refine Zh hE Za (dl rfl) rfl rfl rfl ?_; intro a hE
       refine Ze hE Za (dl rfl) rfl ?_; intro a hE
       refine Zj (Zl ?_)
       exact ⟨_, (Option.some.inj hF27).symm, hE.sub ⟨rfl, rfl, rfl, trivial⟩, hM⟩
    ·intro hb24
     have hs21 := Zz hs21 hb24
     refine wp_exit (Zr (Zr (Yj ?_)))
     have ht65 := hx22 _ (Option.some.inj hs21).symm
     subst ht65
     refine Zl ?_
     have hM := M.fst (l := []) hM
     exact ⟨(), rfl, hE.sub trivial, hM⟩
   ·skip
    rintro a w ⟨s19, ht, hE, hM⟩
    subst ht
    have hF18 := el_nx hF18
    refine Zx (Zc (Ze hE Za (dl rfl) rfl ?_)); intro a hE
    refine Zf ?_
    have hr := Option.some.inj hF18
    subst hr
    exact wp_ret (Zy hE rfl (Zu hE rfl) ⟨_, rfl, rfl, hM.kept⟩)
noncomputable def X0 (p0 : (List (Vector UInt8 32))) (p1 : (Vector UInt8 32)) (s6 : Int × Int) : Option (Fl (Int × Int) Int) :=
 if (decide (s6.2 < (p0.length : Int))) = true then ((((idx p0 s6.2).bind fun x18 => (X1 x18 p1).bind fun r21 => some r21 : Option (Bool)).bind fun j14 => (if j14 = true then (some (wr (s6.1 + 1))) else (some s6.1) : Option (Int)).bind fun j24 => some j24 : Option (Int)).bind fun j11 => some (Fl.nx (j11, wr (s6.2 + 1)))) else (some (Fl.ex s6.1))
noncomputable def W5 (p0 : (List (Vector UInt8 32))) (p1 : (Vector UInt8 32)) : Option (Int) :=
 (ZF (X0 p0 p1) (0, 0) : Option (Int)).bind fun j3 => some j3
theorem c_spec_l09Place (w0 : World) (p0 : (List (Vector UInt8 32))) (v0_1 : Value) (hv0_1 : Ro w0 p0 [v0_1]) (p1 : (Vector UInt8 32)) (r : Int) (hF : W5 p0 p1 = some r) :
  Calls Try.prog 77 [v0_1, (Value.agg (Flat.enc p1).toArray)].toArray w0 (fun en w' => ∃ v, en = .returned v ∧ (v = (vI r) ∧ Kept (Old w0) w0 w')) := by
 refine ZC (n := 22) Try.func77 rfl rfl (Nat.le_of_ble_eq_true rfl) rfl ?_
 intro a hE
 have hM := M.start w0
 unfold W5 at hF
 refine Zc (Z4 (cs := Flat.enc p1) hE hM Za (dl rfl) rfl rfl ?_); intro b1 w a hM hE
 refine Ze hE Za (dl rfl) rfl ?_; intro a hE
 refine Zf (Zc (Ze hE Za (dl rfl) rfl ?_)); intro a hE
 refine Zf (wp_seq (Zc (Ze hE Za (dl rfl) rfl ?_))); intro a hE
 refine Zf ?_
 obtain ⟨j3, hl4, hF5⟩ := bind_some hF
 refine ZV (fun a w => Env 22 a [(5, (vI j3))] ∧ M (Old w0) w0 w []) ?_ ?_
 ·skip
  refine wp_block ?_
  refine ZN (fun (s6 : Int × Int) a w => Env 22 a [(0, v0_1), (3, (ptr b1 0)), (5, (vI s6.1)), (6, (vI s6.2))] ∧ M (Old w0) w0 w [raw b1 (Flat.enc p1)]) hl4 ⟨hE.sub ⟨rfl, rfl, rfl, rfl, trivial⟩, hM⟩ ?_
  rintro s6 a w ⟨hE, hM⟩ o9 hs7 hx8
  unfold X0 at hs7
  refine wp_seq (Zc (Zd hE Za (dl rfl) rfl ?_)); intro a hE
  refine Zd hE Za (dl rfl) rfl ?_; intro a hE
  refine Z7 hE Za (dl rfl) rfl Try.underlying53 (hM.rd hv0_1) ?_; intro a hE
  refine Zh hE Za (dl rfl) rfl rfl rfl ?_; intro a hE
  refine Zf ?_
  refine Zt hE rfl ?_ ?_
  ·intro hb10
   have hs7 := ZA hs7 hb10
   refine wp_skip (Zx ?_)
   obtain ⟨j11, hl12, hF13⟩ := bind_some hs7
   refine ZS (fun a w => Env 22 a [(0, v0_1), (3, (ptr b1 0)), (5, (vI j11)), (6, (vI s6.2))] ∧ M (Old w0) w0 w [raw b1 (Flat.enc p1)]) ?_ ?_
   ·skip
    refine wp_block ?_
    obtain ⟨j14, hl15, hF16⟩ := bind_some hl12
    refine ZS (fun a w => Env 22 a [(0, v0_1), (3, (ptr b1 0)), (5, (vI s6.1)), (6, (vI s6.2)), (18, (vT j14))] ∧ M (Old w0) w0 w [raw b1 (Flat.enc p1)]) ?_ ?_
    ·skip
     obtain ⟨x18, e19, hl15⟩ := bind_some hl15
     have hi20 := ZQ e19
     obtain ⟨r21, e22, hl15⟩ := bind_some hl15
     refine Yd (n := 22) (hd := [_, _, _, _, _, _]) (tl := []) YB rfl rfl [13, 14, 15, 16, 17, 18] (by decide) (fun w => M (Old w0) w0 w [raw b1 (Flat.enc p1)]) (fun j => ([fun v _ => v = v0_1, fun v _ => v = (vI s6.2), fun v _ => v = (ptr (sb v0_1) (so v0_1 + (s6.2).toNat * 32)), fun v _ => v = (Value.agg (Flat.enc x18).toArray), fun v _ => v = (Value.agg (Flat.enc p1).toArray), fun v _ => v = (vT r21)] : List (Value → World → Prop)).getD j (fun _ _ => True)) (fun _ _ h hk => h.keep hk) (gup (Zg (Zg (Zg (Zg (Zg (Zg Wu))))))) hE hM.drew (ZH (Zb ?_ (Zb ?_ (Zb ?_ (Zb ?_ (Zb ?_ (Zb ?_ ZD))))))) ?_
     ·exact fun a w ux17 hE hM hp => Zd hE Za (dl rfl) rfl fun a hE => ⟨Kept.refl _ _, _, _, rfl, hE, rfl⟩
     ·exact fun a w ux17 hE hM hp => Zd hE Za (dl rfl) rfl fun a hE => ⟨Kept.refl _ _, _, _, rfl, hE, rfl⟩
     ·intro a w ux17 hE hM hp
      have f0 : ux17 0 = v0_1 := hp 0 _ rfl rfl
      have f1 : ux17 1 = (vI s6.2) := hp 1 _ rfl rfl
      exact ZK hE Za (dl rfl) (lk rfl f0) (lk rfl f1) Try.underlying53 Yi (hM.rd hv0_1) hi20.1 fun a hE => ⟨Kept.refl _ _, _, _, rfl, hE, rfl⟩
     ·intro a w ux17 hE hM hp
      have f2 : ux17 2 = (ptr (sb v0_1) (so v0_1 + (s6.2).toNat * 32)) := hp 0 _ rfl rfl
      exact Zp (cs := Flat.enc x18) hE Za (dl rfl) (lk rfl f2) Yi rfl (Yt (hM.rd hv0_1) hi20.2) (Flat.len _) fun a hE => ⟨Kept.refl _ _, _, _, rfl, hE, rfl⟩
     ·exact fun a w ux17 hE hM hp => Zp (cs := Flat.enc p1) hE Za (dl rfl) rfl Yi rfl (hM.rawAt (pre := [])) (Flat.len _) fun a hE => ⟨Kept.refl _ _, _, _, rfl, hE, rfl⟩
     ·intro a w ux17 hE hM hp
      have f3 : ux17 3 = (Value.agg (Flat.enc x18).toArray) := hp 0 _ rfl rfl
      have f4 : ux17 4 = (Value.agg (Flat.enc p1).toArray) := hp 1 _ rfl rfl
      refine Zw (vs := [(Value.agg (Flat.enc x18).toArray), (Value.agg (Flat.enc p1).toArray)]) hE Za (dl rfl) (Z0 (ZY (lk rfl f3) (ZY (lk rfl f4) Xf))) cb96 (c_spec_l09Less _ x18 p1 r21 e22) ?_
      rintro v w a ⟨rfl, hK⟩ hE
      exact ⟨hK, _, _, rfl, hE, rfl⟩
     ·intro a w ux17 hE hM hg
      have hE := hE.sub (e' := [(18, (vT r21)), (0, v0_1), (3, (ptr b1 0)), (5, (vI s6.1)), (6, (vI s6.2)), (7, (vI s6.2)), (8, v0_1), (9, (vI (p0.length : Int))), (10, (vT (decide (s6.2 < (p0.length : Int)))))]) ⟨lk rfl (hg 5 (by decide)), rfl, rfl, rfl, rfl, rfl, rfl, rfl, rfl, trivial⟩
      refine Zj ?_
      have ht23 := Option.some.inj hl15
      subst ht23
      refine Zl ?_
      exact ⟨hE.sub ⟨rfl, rfl, rfl, rfl, rfl, trivial⟩, hM⟩
    ·skip
     rintro a w ⟨hE, hM⟩
     obtain ⟨j24, hl25, hF26⟩ := bind_some hF16
     refine ZV (fun a w => Env 22 a [(0, v0_1), (3, (ptr b1 0)), (5, (vI j24)), (6, (vI s6.2))] ∧ M (Old w0) w0 w [raw b1 (Flat.enc p1)]) ?_ ?_
     ·skip
      refine Zt hE rfl ?_ ?_
      ·intro hb27
       have hl25 := ZA hl25 hb27
       refine wp_region_lit (Zd hE Za (dl rfl) rfl ?_); intro a hE
       refine Zh hE Za (dl rfl) rfl rfl rfl ?_; intro a hE
       refine Ze hE Za (dl rfl) rfl ?_; intro a hE
       refine Zj ?_
       have ht28 := Option.some.inj hl25
       subst ht28
       refine Zl ?_
       exact ⟨hE.sub ⟨rfl, rfl, rfl, rfl, trivial⟩, hM⟩
      ·intro hb27
       have hl25 := Zz hl25 hb27
       refine wp_skip ?_
       have ht29 := Option.some.inj hl25
       subst ht29
       refine Zl ?_
       exact ⟨hE.sub ⟨rfl, rfl, rfl, rfl, trivial⟩, hM⟩
     ·skip
      rintro a w ⟨hE, hM⟩
      refine Yk ?_
      have ht30 := Option.some.inj hF26
      subst ht30
      refine Zl ?_
      exact ⟨hE.sub ⟨rfl, rfl, rfl, rfl, trivial⟩, hM⟩
   ·skip
    rintro a w ⟨hE, hM⟩
    refine wp_region_lit (Zd hE Za (dl rfl) rfl ?_); intro a hE
    refine Zh hE Za (dl rfl) rfl rfl rfl ?_; intro a hE
    refine Ze hE Za (dl rfl) rfl ?_; intro a hE
    refine Zj (Zl ?_)
    exact ⟨_, (Option.some.inj hF13).symm, hE.sub ⟨rfl, rfl, rfl, rfl, trivial⟩, hM⟩
  ·intro hb10
   have hs7 := Zz hs7 hb10
   refine wp_exit (Zr (Zr (Yj ?_)))
   have ht31 := hx8 _ (Option.some.inj hs7).symm
   subst ht31
   refine Zl ?_
   have hM := M.fst (l := []) hM
   exact ⟨hE.sub ⟨rfl, trivial⟩, hM⟩
 ·skip
  rintro a w ⟨hE, hM⟩
  refine Zx (Zc (Zd hE Za (dl rfl) rfl ?_)); intro a hE
  refine Ze hE Za (dl rfl) rfl ?_; intro a hE
  refine Zf ?_
  have hr := Option.some.inj hF5
  subst hr
  exact wp_ret (Zy hE rfl (Zu hE rfl) ⟨_, rfl, rfl, hM.kept⟩)
noncomputable def VB (p0 : GBlobs) (p1 : (Vector UInt8 32)) : Option (Int) :=
 (W5 p0.Keys p1).bind fun r5 => (if (decide (r5 < (p0.Keys.length : Int))) = true then ((idx p0.Keys r5).bind fun x12 => some (decide (x12 = p1))) else (some false) : Option (Bool)).bind fun j7 => if j7 = true then (some r5) else (some (-1))
theorem c_spec_l09Find (w0 : World) (p0 : GBlobs) (v0_1 : Value) (hv0_1 : Ro w0 p0.Keys [v0_1]) (v0_2 : Value) (hv0_2 : Ro w0 p0.Data [v0_2]) (v0_3 : Value) (hv0_3 : Ro w0 p0.Counts [v0_3]) (p1 : (Vector UInt8 32)) (r : Int) (hF : VB p0 p1 = some r) :
  Calls Try.prog 49 [(Value.agg (cat [[v0_1], [v0_2], [v0_3]]).toArray), (Value.agg (Flat.enc p1).toArray)].toArray w0 (fun en w' => ∃ v, en = .returned v ∧ (v = (vI r) ∧ Kept (Old w0) w0 w')) := by
 refine ZC (n := 25) Try.func49 rfl rfl (Nat.le_of_ble_eq_true rfl) rfl ?_
 intro a hE
 have hM := M.start w0
 unfold VB at hF
 refine Zc (Z4 (cs := cat [[v0_1], [v0_2], [v0_3]]) hE hM Za (dl rfl) rfl rfl ?_); intro b1 w a hM hE
 refine Z4 (cs := Flat.enc p1) hE hM Za (dl rfl) rfl rfl ?_; intro b3 w a hM hE
 refine Ze hE Za (dl rfl) rfl ?_; intro a hE
 refine Zf (Zc (Zo hE Za (dl rfl) rfl (Vz) ?_)); intro a hE
 refine Zv (v := v0_1) hE Za (dl rfl) rfl ty53 rfl (At.cat (pre := []) (hM.rawAt (pre := [_])) cl0) ?_; intro a hE
 refine Zp (cs := Flat.enc p1) hE Za (dl rfl) rfl Yi rfl (hM.rawAt (pre := [])) (Flat.len _) ?_; intro a hE
 obtain ⟨r5, e6, hF⟩ := bind_some hF
 refine Zw (vs := [v0_1, (Value.agg (Flat.enc p1).toArray)]) hE Za (dl rfl) rfl cb77 (c_spec_l09Place _ p0.Keys v0_1 (hM.rdo hv0_1) p1 r5 e6) ?_
 rintro v w a ⟨rfl, hK⟩ hE
 have hM := hM.keep hK
 refine Ze hE Za (dl rfl) rfl ?_; intro a hE
 refine Zf (wp_seq ?_)
 obtain ⟨j7, hl8, hF9⟩ := bind_some hF
 refine ZS (fun a w => Env 25 a [(5, (vI r5)), (23, (vT j7))] ∧ M (Old w0) w0 w []) ?_ ?_
 ·skip
  refine WE (decide (r5 < (p0.Keys.length : Int))) (fun hb11 => ?_) (fun hb11 => ?_)
  ·have hl8 := ZA hl8 hb11
   obtain ⟨x12, e13, hl8⟩ := bind_some hl8
   have hi14 := ZQ e13
   refine Yd (n := 25) (hd := [_, _, _, _, _, _, _, _, _, _, _, _, _, _]) (tl := []) YB rfl rfl [10, 11, 12, 13, 14, 15, 16, 17, 18, 19, 20, 21, 22, 23] (by decide) (fun w => M (Old w0) w0 w [raw b3 (Flat.enc p1), raw b1 (cat [[v0_1], [v0_2], [v0_3]])]) (fun j => ([fun v _ => v = (vI r5), fun v _ => v = (ptr b1 (0 + 0)), fun v _ => v = v0_1, fun v _ => v = (vI (p0.Keys.length : Int)), fun v _ => v = (vT (decide (r5 < (p0.Keys.length : Int)))), fun v _ => v = (vT (decide (r5 < (p0.Keys.length : Int)))), fun v _ => v = (ptr b1 (0 + 0)), fun v _ => v = v0_1, fun v _ => v = (vI r5), fun v _ => v = (ptr (sb v0_1) (so v0_1 + (r5).toNat * 32)), fun v _ => v = (Value.agg (Flat.enc x12).toArray), fun v _ => v = (Value.agg (Flat.enc p1).toArray), fun v _ => v = (vT (decide (x12 = p1))), fun v _ => v = (vT (decide (x12 = p1)))] : List (Value → World → Prop)).getD j (fun _ _ => True)) (fun _ _ h hk => h.keep hk) (gup (Zg (Zg (Zg (Zg (Zg (Zg (Zg (Zg (Zg (Zg (Zg (Zg (Zg (Zg Wu))))))))))))))) hE hM.drew (ZH (Zb ?_ (Zb ?_ (Zb ?_ (Zb ?_ (Zb ?_ (Zb ?_ (Zb ?_ (Zb ?_ (Zb ?_ (Zb ?_ (Zb ?_ (Zb ?_ (Zb ?_ (Zb ?_ ZD))))))))))))))) ?_
   ·exact fun a w ux10 hE hM hp => Zd hE Za (dl rfl) rfl fun a hE => ⟨Kept.refl _ _, _, _, rfl, hE, rfl⟩
   ·exact fun a w ux10 hE hM hp => Zo hE Za (dl rfl) rfl (Vz) fun a hE => ⟨Kept.refl _ _, _, _, rfl, hE, rfl⟩
   ·intro a w ux10 hE hM hp
    have f1 : ux10 1 = (ptr b1 (0 + 0)) := hp 0 _ rfl rfl
    exact Zv (v := v0_1) hE Za (dl rfl) (lk rfl f1) ty53 rfl (At.cat (pre := []) (hM.rawAt (pre := [_])) cl0) fun a hE => ⟨Kept.refl _ _, _, _, rfl, hE, rfl⟩
   ·intro a w ux10 hE hM hp
    have f2 : ux10 2 = v0_1 := hp 0 _ rfl rfl
    exact Z7 hE Za (dl rfl) (lk rfl f2) Try.underlying53 (hM.rd hv0_1) fun a hE => ⟨Kept.refl _ _, _, _, rfl, hE, rfl⟩
   ·intro a w ux10 hE hM hp
    have f0 : ux10 0 = (vI r5) := hp 0 _ rfl rfl
    have f3 : ux10 3 = (vI (p0.Keys.length : Int)) := hp 1 _ rfl rfl
    exact Zh hE Za (dl rfl) (lk rfl f0) (lk rfl f3) rfl fun a hE => ⟨Kept.refl _ _, _, _, rfl, hE, rfl⟩
   ·intro a w ux10 hE hM hp
    have f4 : ux10 4 = (vT (decide (r5 < (p0.Keys.length : Int)))) := hp 0 _ rfl rfl
    exact Zd hE Za (dl rfl) (lk rfl f4) fun a hE => ⟨Kept.refl _ _, _, _, rfl, hE, rfl⟩
   ·intro a w ux10 hE hM hp
    have f5 : ux10 5 = (vT (decide (r5 < (p0.Keys.length : Int)))) := hp 0 _ rfl rfl
    exact Zo hE (Zk hE rfl (lkb (lk rfl f5) hb11)) (by decide) rfl (Vz) fun a hE => ⟨Kept.refl _ _, _, _, rfl, hE, rfl⟩
   ·intro a w ux10 hE hM hp
    have f5 : ux10 5 = (vT (decide (r5 < (p0.Keys.length : Int)))) := hp 1 _ rfl rfl
    have f6 : ux10 6 = (ptr b1 (0 + 0)) := hp 0 _ rfl rfl
    exact Zv (v := v0_1) hE (Zk hE rfl (lkb (lk rfl f5) hb11)) (by decide) (lk rfl f6) ty53 rfl (At.cat (pre := []) (hM.rawAt (pre := [_])) cl0) fun a hE => ⟨Kept.refl _ _, _, _, rfl, hE, rfl⟩
   ·intro a w ux10 hE hM hp
    have f5 : ux10 5 = (vT (decide (r5 < (p0.Keys.length : Int)))) := hp 0 _ rfl rfl
    exact Zd hE (Zk hE rfl (lkb (lk rfl f5) hb11)) (by decide) rfl fun a hE => ⟨Kept.refl _ _, _, _, rfl, hE, rfl⟩
   ·intro a w ux10 hE hM hp
    have f5 : ux10 5 = (vT (decide (r5 < (p0.Keys.length : Int)))) := hp 2 _ rfl rfl
    have f7 : ux10 7 = v0_1 := hp 0 _ rfl rfl
    have f8 : ux10 8 = (vI r5) := hp 1 _ rfl rfl
    exact ZK hE (Zk hE rfl (lkb (lk rfl f5) hb11)) (by decide) (lk rfl f7) (lk rfl f8) Try.underlying53 Yi (hM.rd hv0_1) hi14.1 fun a hE => ⟨Kept.refl _ _, _, _, rfl, hE, rfl⟩
   ·intro a w ux10 hE hM hp
    have f5 : ux10 5 = (vT (decide (r5 < (p0.Keys.length : Int)))) := hp 1 _ rfl rfl
    have f9 : ux10 9 = (ptr (sb v0_1) (so v0_1 + (r5).toNat * 32)) := hp 0 _ rfl rfl
    exact Zp (cs := Flat.enc x12) hE (Zk hE rfl (lkb (lk rfl f5) hb11)) (by decide) (lk rfl f9) Yi rfl (Yt (hM.rd hv0_1) hi14.2) (Flat.len _) fun a hE => ⟨Kept.refl _ _, _, _, rfl, hE, rfl⟩
   ·intro a w ux10 hE hM hp
    have f5 : ux10 5 = (vT (decide (r5 < (p0.Keys.length : Int)))) := hp 0 _ rfl rfl
    exact Zp (cs := Flat.enc p1) hE (Zk hE rfl (lkb (lk rfl f5) hb11)) (by decide) rfl Yi rfl (hM.rawAt (pre := [])) (Flat.len _) fun a hE => ⟨Kept.refl _ _, _, _, rfl, hE, rfl⟩
   ·intro a w ux10 hE hM hp
    have f5 : ux10 5 = (vT (decide (r5 < (p0.Keys.length : Int)))) := hp 2 _ rfl rfl
    have f10 : ux10 10 = (Value.agg (Flat.enc x12).toArray) := hp 0 _ rfl rfl
    have f11 : ux10 11 = (Value.agg (Flat.enc p1).toArray) := hp 1 _ rfl rfl
    exact s_eqA hE (Zk hE rfl (lkb (lk rfl f5) hb11)) (by decide) (lk rfl f10) (lk rfl f11) (eqok_arr Try.underlying25 ty5 rfl false rfl (by decide) (eqok_byte Try.underlying5)) (by decide) (by kernel_rfl) fun a hE => ⟨Kept.refl _ _, _, _, rfl, hE, rfl⟩
   ·intro a w ux10 hE hM hp
    have f5 : ux10 5 = (vT (decide (r5 < (p0.Keys.length : Int)))) := hp 0 _ rfl rfl
    have f12 : ux10 12 = (vT (decide (x12 = p1))) := hp 1 _ rfl rfl
    exact Yn hE Za (dl rfl) (lkb (lk rfl f5) hb11) (lk rfl f12) fun a hE => ⟨Kept.refl _ _, _, _, rfl, hE, rfl⟩
   ·intro a w ux10 hE hM hg
    have hE := hE.sub (e' := [(23, (vT (decide (x12 = p1)))), (0, (Value.agg (cat [[v0_1], [v0_2], [v0_3]]).toArray)), (1, (Value.agg (Flat.enc p1).toArray)), (2, (ptr b1 0)), (3, (ptr b3 0)), (4, (vI 0)), (5, (vI r5)), (6, (ptr b1 (0 + 0))), (7, v0_1), (8, (Value.agg (Flat.enc p1).toArray)), (9, (vI r5))]) ⟨lk rfl (hg 13 (by decide)), rfl, rfl, rfl, rfl, rfl, rfl, rfl, rfl, rfl, rfl, trivial⟩
    refine Zj ?_
    have ht15 := Option.some.inj hl8
    subst ht15
    refine Zl ?_
    have hM := M.fst (l := []) hM
    exact ⟨hE.sub ⟨rfl, rfl, trivial⟩, hM⟩
  ·have hl8 := Zz hl8 hb11
   refine Yd (n := 25) (hd := [_, _, _, _, _, _, _, _, _, _, _, _, _, _]) (tl := []) YB rfl rfl [10, 11, 12, 13, 14, 15, 16, 17, 18, 19, 20, 21, 22, 23] (by decide) (fun w => M (Old w0) w0 w [raw b3 (Flat.enc p1), raw b1 (cat [[v0_1], [v0_2], [v0_3]])]) (fun j => ([fun v _ => v = (vI r5), fun v _ => v = (ptr b1 (0 + 0)), fun v _ => v = v0_1, fun v _ => v = (vI (p0.Keys.length : Int)), fun v _ => v = (vT (decide (r5 < (p0.Keys.length : Int)))), fun v _ => v = (vT (decide (r5 < (p0.Keys.length : Int)))), fun v _ => v = undef, fun v _ => v = undef, fun v _ => v = undef, fun v _ => v = undef, fun v _ => v = undef, fun v _ => v = undef, fun v _ => v = undef, fun v _ => v = (vT false)] : List (Value → World → Prop)).getD j (fun _ _ => True)) (fun _ _ h hk => h.keep hk) (gup (Zg (Zg (Zg (Zg (Zg (Zg (Zg (Zg (Zg (Zg (Zg (Zg (Zg (Zg Wu))))))))))))))) hE hM.drew (ZH (Zb ?_ (Zb ?_ (Zb ?_ (Zb ?_ (Zb ?_ (Zb ?_ (Zb ?_ (Zb ?_ (Zb ?_ (Zb ?_ (Zb ?_ (Zb ?_ (Zb ?_ (Zb ?_ ZD))))))))))))))) ?_
   ·exact fun a w ux10 hE hM hp => Zd hE Za (dl rfl) rfl fun a hE => ⟨Kept.refl _ _, _, _, rfl, hE, rfl⟩
   ·exact fun a w ux10 hE hM hp => Zo hE Za (dl rfl) rfl (Vz) fun a hE => ⟨Kept.refl _ _, _, _, rfl, hE, rfl⟩
   ·intro a w ux10 hE hM hp
    have f1 : ux10 1 = (ptr b1 (0 + 0)) := hp 0 _ rfl rfl
    exact Zv (v := v0_1) hE Za (dl rfl) (lk rfl f1) ty53 rfl (At.cat (pre := []) (hM.rawAt (pre := [_])) cl0) fun a hE => ⟨Kept.refl _ _, _, _, rfl, hE, rfl⟩
   ·intro a w ux10 hE hM hp
    have f2 : ux10 2 = v0_1 := hp 0 _ rfl rfl
    exact Z7 hE Za (dl rfl) (lk rfl f2) Try.underlying53 (hM.rd hv0_1) fun a hE => ⟨Kept.refl _ _, _, _, rfl, hE, rfl⟩
   ·intro a w ux10 hE hM hp
    have f0 : ux10 0 = (vI r5) := hp 0 _ rfl rfl
    have f3 : ux10 3 = (vI (p0.Keys.length : Int)) := hp 1 _ rfl rfl
    exact Zh hE Za (dl rfl) (lk rfl f0) (lk rfl f3) rfl fun a hE => ⟨Kept.refl _ _, _, _, rfl, hE, rfl⟩
   ·intro a w ux10 hE hM hp
    have f4 : ux10 4 = (vT (decide (r5 < (p0.Keys.length : Int)))) := hp 0 _ rfl rfl
    exact Zd hE Za (dl rfl) (lk rfl f4) fun a hE => ⟨Kept.refl _ _, _, _, rfl, hE, rfl⟩
   ·intro a w ux10 hE hM hp
    have f5 : ux10 5 = (vT (decide (r5 < (p0.Keys.length : Int)))) := hp 0 _ rfl rfl
    exact Zn hE rfl (lkb (lk rfl f5) hb11) rfl (by decide) fun a hE => ⟨Kept.refl _ _, _, _, rfl, hE, rfl⟩
   ·intro a w ux10 hE hM hp
    have f5 : ux10 5 = (vT (decide (r5 < (p0.Keys.length : Int)))) := hp 1 _ rfl rfl
    have f6 : ux10 6 = undef := hp 0 _ rfl rfl
    exact Zn hE rfl (lkb (lk rfl f5) hb11) rfl (by decide) fun a hE => ⟨Kept.refl _ _, _, _, rfl, hE, rfl⟩
   ·intro a w ux10 hE hM hp
    have f5 : ux10 5 = (vT (decide (r5 < (p0.Keys.length : Int)))) := hp 0 _ rfl rfl
    exact Zn hE rfl (lkb (lk rfl f5) hb11) rfl (by decide) fun a hE => ⟨Kept.refl _ _, _, _, rfl, hE, rfl⟩
   ·intro a w ux10 hE hM hp
    have f5 : ux10 5 = (vT (decide (r5 < (p0.Keys.length : Int)))) := hp 2 _ rfl rfl
    have f7 : ux10 7 = undef := hp 0 _ rfl rfl
    have f8 : ux10 8 = undef := hp 1 _ rfl rfl
    exact Zn hE rfl (lkb (lk rfl f5) hb11) rfl (by decide) fun a hE => ⟨Kept.refl _ _, _, _, rfl, hE, rfl⟩
   ·intro a w ux10 hE hM hp
    have f5 : ux10 5 = (vT (decide (r5 < (p0.Keys.length : Int)))) := hp 1 _ rfl rfl
    have f9 : ux10 9 = undef := hp 0 _ rfl rfl
    exact Zn hE rfl (lkb (lk rfl f5) hb11) rfl (by decide) fun a hE => ⟨Kept.refl _ _, _, _, rfl, hE, rfl⟩
   ·intro a w ux10 hE hM hp
    have f5 : ux10 5 = (vT (decide (r5 < (p0.Keys.length : Int)))) := hp 0 _ rfl rfl
    exact Zn hE rfl (lkb (lk rfl f5) hb11) rfl (by decide) fun a hE => ⟨Kept.refl _ _, _, _, rfl, hE, rfl⟩
   ·intro a w ux10 hE hM hp
    have f5 : ux10 5 = (vT (decide (r5 < (p0.Keys.length : Int)))) := hp 2 _ rfl rfl
    have f10 : ux10 10 = undef := hp 0 _ rfl rfl
    have f11 : ux10 11 = undef := hp 1 _ rfl rfl
    exact Zn hE rfl (lkb (lk rfl f5) hb11) rfl (by decide) fun a hE => ⟨Kept.refl _ _, _, _, rfl, hE, rfl⟩
   ·intro a w ux10 hE hM hp
    have f5 : ux10 5 = (vT (decide (r5 < (p0.Keys.length : Int)))) := hp 0 _ rfl rfl
    have f12 : ux10 12 = undef := hp 1 _ rfl rfl
    exact YP hE Za (dl rfl) (lkb (lk rfl f5) hb11) rfl fun a hE => ⟨Kept.refl _ _, _, _, rfl, hE, rfl⟩
   ·intro a w ux10 hE hM hg
    have hE := hE.sub (e' := [(23, (vT false)), (0, (Value.agg (cat [[v0_1], [v0_2], [v0_3]]).toArray)), (1, (Value.agg (Flat.enc p1).toArray)), (2, (ptr b1 0)), (3, (ptr b3 0)), (4, (vI 0)), (5, (vI r5)), (6, (ptr b1 (0 + 0))), (7, v0_1), (8, (Value.agg (Flat.enc p1).toArray)), (9, (vI r5))]) ⟨lk rfl (hg 13 (by decide)), rfl, rfl, rfl, rfl, rfl, rfl, rfl, rfl, rfl, rfl, trivial⟩
    refine Zj ?_
    have ht16 := Option.some.inj hl8
    subst ht16
    refine Zl ?_
    have hM := M.fst (l := []) hM
    exact ⟨hE.sub ⟨rfl, rfl, trivial⟩, hM⟩
 ·skip
  rintro a w ⟨hE, hM⟩
  refine Zt hE rfl ?_ ?_
  ·intro hb17
   have hF9 := ZA hF9 hb17
   refine Zc (Zd hE Za (dl rfl) rfl ?_); intro a hE
   refine Ze hE Za (dl rfl) rfl ?_; intro a hE
   refine Zf ?_
   have hr := Option.some.inj hF9
   subst hr
   exact wp_ret (ZL (Zy hE rfl (Zu hE rfl) ⟨_, rfl, rfl, hM.kept⟩))
  ·intro hb17
   have hF9 := Zz hF9 hb17
   refine wp_skip (Zx (Zc (Ze hE Za (dl rfl) rfl ?_))); intro a hE
   refine Zf ?_
   have hr := Option.some.inj hF9
   subst hr
   exact wp_ret (Zy hE rfl (Zu hE rfl) ⟨_, rfl, rfl, hM.kept⟩)
noncomputable def Vx (p0 : GBlobs) (p1 : (Vector UInt8 32)) : Option ((List UInt8) × Int) :=
 (UC p0).bind fun r5 => if (!r5) = true then (some ([], 1)) else ((VB p0 p1).bind fun r9 => if (decide (r9 < 0)) = true then (some ([], 4)) else ((idx p0.Data r9).bind fun x13 => (WW x13).bind fun r21 => some (r21, 0)))
theorem c_spec_GetBlob (w0 : World) (p0 : GBlobs) (v0_1 : Value) (hv0_1 : Ro w0 p0.Keys [v0_1]) (v0_2 : Value) (hv0_2 : Ro w0 p0.Data [v0_2]) (v0_3 : Value) (hv0_3 : Ro w0 p0.Counts [v0_3]) (p1 : (Vector UInt8 32)) (r : (List UInt8) × Int) (hF : Vx p0 p1 = some r) :
  Calls Try.prog 19 [(Value.agg (cat [[v0_1], [v0_2], [v0_3]]).toArray), (Value.agg (Flat.enc p1).toArray)].toArray w0 (fun en w' => ∃ v, en = .returned v ∧ (∃ (y1 : Value), v = (Value.tuple [y1, (vI r.2)].toArray) ∧ Fr w0 w' [osl NoB (r.1 : List UInt8) y1] ∧ Kept (Old w0) w0 w')) := by
 refine ZC (n := 21) Try.func19 rfl rfl (Nat.le_of_ble_eq_true rfl) rfl ?_
 intro a hE
 have hM := M.start w0
 unfold Vx at hF
 refine Zc (Z4 (cs := cat [[v0_1], [v0_2], [v0_3]]) hE hM Za (dl rfl) rfl rfl ?_); intro b1 w a hM hE
 refine Z4 (cs := Flat.enc p1) hE hM Za (dl rfl) rfl rfl ?_; intro b3 w a hM hE
 refine Ze hE Za (dl rfl) rfl ?_; intro a hE
 refine Ze hE Za (dl rfl) rfl ?_; intro a hE
 refine Zf (wp_seq (Zc (Zp (cs := cat [[v0_1], [v0_2], [v0_3]]) hE Za (dl rfl) rfl ty55 rfl (hM.rawAt (pre := [_])) (ZR (cl1 (n := 1) (m := 2) rfl (cl1 (n := 1) (m := 1) rfl (cl1 (n := 1) (m := 0) rfl cl0)))) ?_))); intro a hE
 obtain ⟨r5, e6, hF⟩ := bind_some hF
 refine Zw (vs := [(Value.agg (cat [[v0_1], [v0_2], [v0_3]]).toArray)]) hE Za (dl rfl) rfl cb48 (c_spec_l09Is _ p0 v0_1 (hM.rdo hv0_1) v0_2 (hM.rdo hv0_2) v0_3 (hM.rdo hv0_3) r5 e6) ?_
 rintro v w a ⟨rfl, hK⟩ hE
 have hM := hM.keep hK
 refine Uo hE Za (dl rfl) rfl ?_; intro a hE
 refine Zf ?_
 refine Zt hE rfl ?_ ?_
 ·intro hb7
  have hF := ZA hF hb7
  refine Zc (Ze hE Za (dl rfl) rfl ?_); intro a hE
  refine Ze hE Za (dl rfl) rfl ?_; intro a hE
  refine Zf ?_
  have hM := M.nilS (α := UInt8) NoB noB hM
  have hr := Option.some.inj hF
  subst hr
  have hM := M.fst (l := [_]) hM
  exact wp_ret (ZL (k_ret2 hE rfl (Zu hE rfl) (Zu hE rfl) ⟨_, rfl, (Value.slice none 0 0), rfl, hM.outF (Vq WY), hM.kept⟩))
 ·intro hb7
  have hF := Zz hF hb7
  refine wp_skip (Zx (Zc (Zp (cs := cat [[v0_1], [v0_2], [v0_3]]) hE Za (dl rfl) rfl ty55 rfl (hM.rawAt (pre := [_])) (ZR (cl1 (n := 1) (m := 2) rfl (cl1 (n := 1) (m := 1) rfl (cl1 (n := 1) (m := 0) rfl cl0)))) ?_))); intro a hE
  refine Zp (cs := Flat.enc p1) hE Za (dl rfl) rfl Yi rfl (hM.rawAt (pre := [])) (Flat.len _) ?_; intro a hE
  obtain ⟨r9, e10, hF⟩ := bind_some hF
  refine Zw (vs := [(Value.agg (cat [[v0_1], [v0_2], [v0_3]]).toArray), (Value.agg (Flat.enc p1).toArray)]) hE Za (dl rfl) rfl cb49 (c_spec_l09Find _ p0 v0_1 (hM.rdo hv0_1) v0_2 (hM.rdo hv0_2) v0_3 (hM.rdo hv0_3) p1 r9 e10) ?_
  rintro v w a ⟨rfl, hK⟩ hE
  have hM := hM.keep hK
  refine Ze hE Za (dl rfl) rfl ?_; intro a hE
  refine Zf (wp_seq (Zc (Zd hE Za (dl rfl) rfl ?_))); intro a hE
  refine Zh hE Za (dl rfl) rfl rfl rfl ?_; intro a hE
  refine Zf ?_
  refine Zt hE rfl ?_ ?_
  ·intro hb11
   have hF := ZA hF hb11
   refine Zc (Ze hE Za (dl rfl) rfl ?_); intro a hE
   refine Ze hE Za (dl rfl) rfl ?_; intro a hE
   refine Zf ?_
   have hM := M.nilS (α := UInt8) NoB noB hM
   have hr := Option.some.inj hF
   subst hr
   have hM := M.fst (l := [_]) hM
   exact wp_ret (ZL (k_ret2 hE rfl (Zu hE rfl) (Zu hE rfl) ⟨_, rfl, (Value.slice none 0 0), rfl, hM.outF (Vq WY), hM.kept⟩))
  ·intro hb11
   have hF := Zz hF hb11
   refine wp_skip (Zx (Zc (Zo hE Za (dl rfl) rfl (UE) ?_))); intro a hE
   refine Zv (v := v0_2) hE Za (dl rfl) rfl ty45 rfl (At.cat (pre := [[v0_1]]) (hM.rawAt (pre := [_])) (cl1 (n := 1) (m := 0) rfl cl0)) ?_; intro a hE
   refine Zd hE Za (dl rfl) rfl ?_; intro a hE
   obtain ⟨x13, e14, hF⟩ := bind_some hF
   have hi15 := ZQ e14
   refine ZK hE Za (dl rfl) rfl rfl Try.underlying45 VD (hM.rd hv0_2) hi15.1 ?_; intro a hE
   obtain ⟨cs16, hs17, hA18⟩ := Us hv0_2 hi15.2 -- ^
   obtain ⟨u19, rfl⟩ := Vp hs17 -- ^
   have h20 := hs17 -- ^
   refine Zv (v := u19) hE Za (dl rfl) rfl VD rfl (hM.atk hA18 (Uv hv0_2 hi15.2)) ?_; intro a hE
   obtain ⟨r21, e22, hF⟩ := bind_some hF
   refine Zw (vs := [u19]) hE Za (dl rfl) rfl cb50 (c_spec_l01Copy _ x13 u19 (hM.rdo h20) r21 e22) ?_
   rintro u23 w a ⟨_, rfl, hFr, hK⟩ hE
   have hM := hM.add hK hFr
   refine Ze hE Za (dl rfl) rfl ?_; intro a hE
   refine Ze hE Za (dl rfl) rfl ?_; intro a hE
   refine Zf ?_
   have hr := Option.some.inj hF
   subst hr
   have hM := M.fst (l := [_]) hM
   exact wp_ret (k_ret2 hE rfl (Zu hE rfl) (Zu hE rfl) ⟨_, rfl, u23, rfl, hM.outF (Vq WY), hM.kept⟩)
noncomputable def VU (p1 : Int) (p2 : Int) (s4 : Int × Int) : Option (Fl (Int × Int) Int) :=
 if (decide (s4.2 ≥ p2)) = true then (((Xk s4.2).bind fun _ => (if ((andI (V9 s4.1 s4.2) 1) == 1) = true then ((Xk (wr (s4.2 - p2))).bind fun _ => some (xorI s4.1 (shlI p1 (wr (s4.2 - p2))))) else (some s4.1) : Option (Int)).bind fun j13 => some j13 : Option (Int)).bind fun j9 => some (Fl.nx (j9, wr (s4.2 - 1)))) else (some (Fl.ex s4.1))
noncomputable def Uq (p0 : Int) (p1 : Int) (p2 : Int) : Option (Int) :=
 (ZF (VU p1 p2) (p0, 15) : Option (Int)).bind fun j1 => some j1
theorem c_impl_rest (w0 : World) (p0 : Int) (p1 : Int) (p2 : Int) (r : Int) (hF : Uq p0 p1 p2 = some r) :
  Calls Try.prog 132 [(vI p0), (vI p1), (vI p2)].toArray w0 (fun en w' => ∃ v, en = .returned v ∧ (v = (vI r) ∧ Kept (Old w0) w0 w')) := by
 refine ZC (n := 26) Try.func132 rfl rfl (Nat.le_of_ble_eq_true rfl) rfl ?_
 intro a hE
 have hM := M.start w0
 unfold Uq at hF
 refine Zc (Ze hE Za (dl rfl) rfl ?_); intro a hE
 refine Zf (wp_seq (Zc (Ze hE Za (dl rfl) rfl ?_))); intro a hE
 refine Zf ?_
 obtain ⟨j1, hl2, hF3⟩ := bind_some hF
 refine ZV (fun a w => Env 26 a [(0, (vI j1))] ∧ M (Old w0) w0 w []) ?_ ?_
 ·skip
  refine wp_block ?_
  refine ZN (fun (s4 : Int × Int) a w => Env 26 a [(0, (vI s4.1)), (1, (vI p1)), (2, (vI p2)), (7, (vI s4.2))] ∧ M (Old w0) w0 w []) hl2 ⟨hE.sub ⟨rfl, rfl, rfl, rfl, trivial⟩, hM⟩ ?_
  rintro s4 a w ⟨hE, hM⟩ o7 hs5 hx6
  unfold VU at hs5
  refine wp_seq (Zc (Zd hE Za (dl rfl) rfl ?_)); intro a hE
  refine Zd hE Za (dl rfl) rfl ?_; intro a hE
  refine Zh hE Za (dl rfl) rfl rfl rfl ?_; intro a hE
  refine Zf ?_
  refine Zt hE rfl ?_ ?_
  ·intro hb8
   have hs5 := ZA hs5 hb8
   refine wp_skip (Zx ?_)
   obtain ⟨j9, hl10, hF11⟩ := bind_some hs5
   refine ZS (fun a w => Env 26 a [(0, (vI j9)), (1, (vI p1)), (2, (vI p2)), (7, (vI s4.2))] ∧ M (Old w0) w0 w []) ?_ ?_
   ·skip
    refine wp_block (Zc (Zd hE Za (dl rfl) rfl ?_)); intro a hE
    refine Zd hE Za (dl rfl) rfl ?_; intro a hE
    obtain ⟨_, e12, hl10⟩ := bind_some hl10
    have e12 := Wk e12
    refine s_sh hE Za (dl rfl) rfl rfl (bI_shr _ _ e12) ?_; intro a hE
    refine Zh hE Za (dl rfl) rfl rfl rfl ?_; intro a hE
    refine Zh hE Za (dl rfl) rfl rfl rfl ?_; intro a hE
    refine Zf ?_
    obtain ⟨j13, hl14, hF15⟩ := bind_some hl10
    refine ZV (fun a w => Env 26 a [(0, (vI j13)), (1, (vI p1)), (2, (vI p2)), (7, (vI s4.2))] ∧ M (Old w0) w0 w []) ?_ ?_
    ·skip
     refine Zt hE rfl ?_ ?_
     ·intro hb16
      have hl14 := ZA hl14 hb16
      refine wp_region_lit (Zd hE Za (dl rfl) rfl ?_); intro a hE
      refine Zd hE Za (dl rfl) rfl ?_; intro a hE
      refine Zd hE Za (dl rfl) rfl ?_; intro a hE
      refine Zd hE Za (dl rfl) rfl ?_; intro a hE
      refine Zh hE Za (dl rfl) rfl rfl rfl ?_; intro a hE
      obtain ⟨_, e17, hl14⟩ := bind_some hl14
      have e17 := Wk e17
      refine s_sh hE Za (dl rfl) rfl rfl (bI_shl _ _ e17) ?_; intro a hE
      refine Zh hE Za (dl rfl) rfl rfl rfl ?_; intro a hE
      refine Ze hE Za (dl rfl) rfl ?_; intro a hE
      refine Zj ?_
      have ht18 := Option.some.inj hl14
      subst ht18
      refine Zl ?_
      exact ⟨hE.sub ⟨rfl, rfl, rfl, rfl, trivial⟩, hM⟩
     ·intro hb16
      have hl14 := Zz hl14 hb16
      refine wp_skip ?_
      have ht19 := Option.some.inj hl14
      subst ht19
      refine Zl ?_
      exact ⟨hE.sub ⟨rfl, rfl, rfl, rfl, trivial⟩, hM⟩
    ·skip
     rintro a w ⟨hE, hM⟩
     refine Yk ?_
     have ht20 := Option.some.inj hF15
     subst ht20
     refine Zl ?_
     exact ⟨hE.sub ⟨rfl, rfl, rfl, rfl, trivial⟩, hM⟩
   ·skip
    rintro a w ⟨hE, hM⟩
    refine wp_region_lit (Zd hE Za (dl rfl) rfl ?_); intro a hE
    refine Zh hE Za (dl rfl) rfl rfl rfl ?_; intro a hE
    refine Ze hE Za (dl rfl) rfl ?_; intro a hE
    refine Zj (Zl ?_)
    exact ⟨_, (Option.some.inj hF11).symm, hE.sub ⟨rfl, rfl, rfl, rfl, trivial⟩, hM⟩
  ·intro hb8
   have hs5 := Zz hs5 hb8
   refine wp_exit (Zr (Zr (Yj ?_)))
   have ht21 := hx6 _ (Option.some.inj hs5).symm
   subst ht21
   refine Zl ?_
   exact ⟨hE.sub ⟨rfl, trivial⟩, hM⟩
 ·skip
  rintro a w ⟨hE, hM⟩
  refine Zx (Zc (Zd hE Za (dl rfl) rfl ?_)); intro a hE
  refine Ze hE Za (dl rfl) rfl ?_; intro a hE
  refine Zf ?_
  have hr := Option.some.inj hF3
  subst hr
  exact wp_ret (Zy hE rfl (Zu hE rfl) ⟨_, rfl, rfl, hM.kept⟩)
noncomputable def Y3 (p1 : UInt8) (p2 : UInt8) (s4 : Int × Int) : Option (Fl (Int × Int) Int) :=
 if (decide (s4.2 < 8)) = true then (((Xk s4.2).bind fun _ => (if (((shrB p2 s4.2) &&& 1) == 1) = true then ((Xk s4.2).bind fun _ => some (xorI s4.1 (shlI (bI p1) s4.2))) else (some s4.1) : Option (Int)).bind fun j13 => some j13 : Option (Int)).bind fun j9 => some (Fl.nx (j9, wr (s4.2 + 1)))) else (some (Fl.ex s4.1))
noncomputable def Z3 (p0 : Int) (p1 : UInt8) (p2 : UInt8) : Option (UInt8) :=
 (ZF (Y3 p1 p2) (0, 0) : Option (Int)).bind fun j1 => (Uq j1 p0 8).bind fun r22 => some (ZG r22)
theorem Ys (w0 : World) (p0 : Int) (p1 : UInt8) (p2 : UInt8) (r : UInt8) (hF : Z3 p0 p1 p2 = some r) :
  Calls Try.prog 127 [(vI p0), (vB p1), (vB p2)].toArray w0 (fun en w' => ∃ v, en = .returned v ∧ (v = (vB r) ∧ Kept (Old w0) w0 w')) := by
 refine ZC (n := 28) Try.func127 rfl rfl (Nat.le_of_ble_eq_true rfl) rfl ?_
 intro a hE
 have hM := M.start w0
 unfold Z3 at hF
 refine Zc (Ze hE Za (dl rfl) rfl ?_); intro a hE
 refine Zf (Zc (Ze hE Za (dl rfl) rfl ?_)); intro a hE
 refine Zf (wp_seq (Zc (Zd hE Za (dl rfl) rfl ?_))); intro a hE
 refine Zf ?_
 obtain ⟨j1, hl2, hF3⟩ := bind_some hF
 refine ZV (fun a w => Env 28 a [(0, (vI p0)), (7, (vI j1))] ∧ M (Old w0) w0 w []) ?_ ?_
 ·skip
  refine wp_block ?_
  refine ZN (fun (s4 : Int × Int) a w => Env 28 a [(0, (vI p0)), (1, (vB p1)), (2, (vB p2)), (7, (vI s4.1)), (9, (vI s4.2))] ∧ M (Old w0) w0 w []) hl2 ⟨hE.sub ⟨rfl, rfl, rfl, rfl, rfl, trivial⟩, hM⟩ ?_
  rintro s4 a w ⟨hE, hM⟩ o7 hs5 hx6
  unfold Y3 at hs5
  refine Zc (Zh hE Za (dl rfl) rfl rfl rfl ?_); intro a hE
  refine Zf (wp_seq ?_)
  refine Zt hE rfl ?_ ?_
  ·intro hb8
   have hs5 := ZA hs5 hb8
   refine wp_skip (Zx ?_)
   obtain ⟨j9, hl10, hF11⟩ := bind_some hs5
   refine ZS (fun a w => Env 28 a [(0, (vI p0)), (1, (vB p1)), (2, (vB p2)), (7, (vI j9)), (9, (vI s4.2))] ∧ M (Old w0) w0 w []) ?_ ?_
   ·skip
    refine wp_block (Zc (Zd hE Za (dl rfl) rfl ?_)); intro a hE
    refine Ze hE Za (dl rfl) rfl ?_; intro a hE
    refine Zf (Zc (Zd hE Za (dl rfl) rfl ?_)); intro a hE
    refine Zd hE Za (dl rfl) rfl ?_; intro a hE
    obtain ⟨_, e12, hl10⟩ := bind_some hl10
    have e12 := Wk e12
    refine s_sh hE Za (dl rfl) rfl rfl (bB_shr _ _ e12) ?_; intro a hE
    refine Zh hE Za (dl rfl) rfl rfl (bB_and (shrB p2 s4.2) 1) ?_; intro a hE
    refine Zh hE Za (dl rfl) rfl rfl (bB_eql ((shrB p2 s4.2) &&& 1) 1) ?_; intro a hE
    refine Zf ?_
    obtain ⟨j13, hl14, hF15⟩ := bind_some hl10
    refine ZV (fun a w => Env 28 a [(0, (vI p0)), (1, (vB p1)), (2, (vB p2)), (7, (vI j13)), (9, (vI s4.2))] ∧ M (Old w0) w0 w []) ?_ ?_
    ·skip
     refine Zt hE rfl ?_ ?_
     ·intro hb16
      have hl14 := ZA hl14 hb16
      refine wp_region_lit (Zd hE Za (dl rfl) rfl ?_); intro a hE
      refine Zd hE Za (dl rfl) rfl ?_; intro a hE
      refine YK hE Za (dl rfl) rfl Try.underlying5 Try.underlying2 ?_; intro a hE
      rw [byte_wide] at hE
      refine Zd hE Za (dl rfl) rfl ?_; intro a hE
      obtain ⟨_, e17, hl14⟩ := bind_some hl14
      have e17 := Wk e17
      refine s_sh hE Za (dl rfl) rfl rfl (bI_shl _ _ e17) ?_; intro a hE
      refine Zh hE Za (dl rfl) rfl rfl rfl ?_; intro a hE
      refine Ze hE Za (dl rfl) rfl ?_; intro a hE
      refine Zj ?_
      have ht18 := Option.some.inj hl14
      subst ht18
      refine Zl ?_
      exact ⟨hE.sub ⟨rfl, rfl, rfl, rfl, rfl, trivial⟩, hM⟩
     ·intro hb16
      have hl14 := Zz hl14 hb16
      refine wp_skip ?_
      have ht19 := Option.some.inj hl14
      subst ht19
      refine Zl ?_
      exact ⟨hE.sub ⟨rfl, rfl, rfl, rfl, rfl, trivial⟩, hM⟩
    ·skip
     rintro a w ⟨hE, hM⟩
     refine Yk ?_
     have ht20 := Option.some.inj hF15
     subst ht20
     refine Zl ?_
     exact ⟨hE.sub ⟨rfl, rfl, rfl, rfl, rfl, trivial⟩, hM⟩
   ·skip
    rintro a w ⟨hE, hM⟩
    refine wp_region_lit (Zh hE Za (dl rfl) rfl rfl rfl ?_); intro a hE
    refine Zd hE Za (dl rfl) rfl ?_; intro a hE
    refine Zj (Zl ?_)
    exact ⟨_, (Option.some.inj hF11).symm, hE.sub ⟨rfl, rfl, rfl, rfl, rfl, trivial⟩, hM⟩
  ·intro hb8
   have hs5 := Zz hs5 hb8
   refine wp_exit (Zr (Zr (Yj ?_)))
   have ht21 := hx6 _ (Option.some.inj hs5).symm
   subst ht21
   refine Zl ?_
   exact ⟨hE.sub ⟨rfl, rfl, trivial⟩, hM⟩
 ·skip
  rintro a w ⟨hE, hM⟩
  refine Zx (Zc (Zd hE Za (dl rfl) rfl ?_)); intro a hE
  refine Zd hE Za (dl rfl) rfl ?_; intro a hE
  obtain ⟨r22, e23, hF3⟩ := bind_some hF3
  refine Zw (vs := [(vI j1), (vI p0), (vI 8)]) hE Za (dl rfl) rfl cb132 (c_impl_rest _ j1 p0 8 r22 e23) ?_
  rintro v w a ⟨rfl, hK⟩ hE
  have hM := hM.keep hK
  refine YK hE Za (dl rfl) rfl Try.underlying2 Try.underlying5 ?_; intro a hE
  rw [Yf] at hE
  refine Ze hE Za (dl rfl) rfl ?_; intro a hE
  refine Zf ?_
  have hr := Option.some.inj hF3
  subst hr
  exact wp_ret (Zy hE rfl (Zu hE rfl) ⟨_, rfl, rfl, hM.kept⟩)
noncomputable def WB (p0 : Int) (s4 : UInt8 × Int × UInt8) : Option (Fl (UInt8 × Int × UInt8) UInt8) :=
 if (decide (s4.2.1 > 0)) = true then (((if ((Int.tmod s4.2.1 2) == 1) = true then ((Z3 p0 s4.2.2 s4.1).bind fun r16 => some r16) else (some s4.2.2) : Option (UInt8)).bind fun j12 => (Z3 p0 s4.1 s4.1).bind fun r20 => some (r20, j12) : Option (UInt8 × UInt8)).bind fun j9 => some (Fl.nx (j9.1, wr (Int.tdiv s4.2.1 2), j9.2))) else (some (Fl.ex s4.2.2))
noncomputable def Xd (p0 : Int) (p1 : UInt8) (p2 : Int) : Option (UInt8) :=
 (ZF (WB p0) (p1, p2, 1) : Option (UInt8)).bind fun j1 => some j1
theorem c_impl_field_power (w0 : World) (p0 : Int) (p1 : UInt8) (p2 : Int) (r : UInt8) (hF : Xd p0 p1 p2 = some r) :
  Calls Try.prog 128 [(vI p0), (vB p1), (vI p2)].toArray w0 (fun en w' => ∃ v, en = .returned v ∧ (v = (vB r) ∧ Kept (Old w0) w0 w')) := by
 refine ZC (n := 24) Try.func128 rfl rfl (Nat.le_of_ble_eq_true rfl) rfl ?_
 intro a hE
 have hM := M.start w0
 unfold Xd at hF
 refine Zc (Ze hE Za (dl rfl) rfl ?_); intro a hE
 refine Zf (Zc (Ze hE Za (dl rfl) rfl ?_)); intro a hE
 refine Zf ?_
 obtain ⟨j1, hl2, hF3⟩ := bind_some hF
 refine ZS (fun a w => Env 24 a [(7, (vB j1))] ∧ M (Old w0) w0 w []) ?_ ?_
 ·skip
  refine wp_block ?_
  refine ZN (fun (s4 : UInt8 × Int × UInt8) a w => Env 24 a [(0, (vI p0)), (1, (vB s4.1)), (2, (vI s4.2.1)), (7, (vB s4.2.2))] ∧ M (Old w0) w0 w []) hl2 ⟨hE.sub ⟨rfl, rfl, rfl, rfl, trivial⟩, hM⟩ ?_
  rintro s4 a w ⟨hE, hM⟩ o7 hs5 hx6
  unfold WB at hs5
  refine wp_seq (Zc (Zd hE Za (dl rfl) rfl ?_)); intro a hE
  refine Zh hE Za (dl rfl) rfl rfl rfl ?_; intro a hE
  refine Zf ?_
  refine Zt hE rfl ?_ ?_
  ·intro hb8
   have hs5 := ZA hs5 hb8
   refine wp_skip (Zx ?_)
   obtain ⟨j9, hl10, hF11⟩ := bind_some hs5
   refine ZS (fun a w => Env 24 a [(0, (vI p0)), (1, (vB j9.1)), (2, (vI s4.2.1)), (7, (vB j9.2))] ∧ M (Old w0) w0 w []) ?_ ?_
   ·skip
    refine wp_block ?_
    obtain ⟨j12, hl13, hF14⟩ := bind_some hl10
    refine ZS (fun a w => Env 24 a [(0, (vI p0)), (1, (vB s4.1)), (2, (vI s4.2.1)), (7, (vB j12))] ∧ M (Old w0) w0 w []) ?_ ?_
    ·skip
     refine Zc (Zd hE Za (dl rfl) rfl ?_); intro a hE
     refine Zh hE Za (dl rfl) rfl rfl (bI_rem _ _ (by decide)) ?_; intro a hE
     refine Zh hE Za (dl rfl) rfl rfl rfl ?_; intro a hE
     refine Zf ?_
     refine Zt hE rfl ?_ ?_
     ·intro hb15
      have hl13 := ZA hl13 hb15
      refine wp_region_lit (Zd hE Za (dl rfl) rfl ?_); intro a hE
      refine Zd hE Za (dl rfl) rfl ?_; intro a hE
      refine Zd hE Za (dl rfl) rfl ?_; intro a hE
      obtain ⟨r16, e17, hl13⟩ := bind_some hl13
      refine Zw (vs := [(vI p0), (vB s4.2.2), (vB s4.1)]) hE Za (dl rfl) rfl cb127 (Ys _ p0 s4.2.2 s4.1 r16 e17) ?_
      rintro v w a ⟨rfl, hK⟩ hE
      have hM := hM.keep hK
      refine Ze hE Za (dl rfl) rfl ?_; intro a hE
      refine Zj ?_
      have ht18 := Option.some.inj hl13
      subst ht18
      refine Zl ?_
      exact ⟨hE.sub ⟨rfl, rfl, rfl, rfl, trivial⟩, hM⟩
     ·intro hb15
      have hl13 := Zz hl13 hb15
      refine wp_skip ?_
      have ht19 := Option.some.inj hl13
      subst ht19
      refine Zl ?_
      exact ⟨hE.sub ⟨rfl, rfl, rfl, rfl, trivial⟩, hM⟩
    ·skip
     rintro a w ⟨hE, hM⟩
     refine wp_region_lit (Zd hE Za (dl rfl) rfl ?_); intro a hE
     refine Zd hE Za (dl rfl) rfl ?_; intro a hE
     refine Zd hE Za (dl rfl) rfl ?_; intro a hE
     obtain ⟨r20, e21, hF14⟩ := bind_some hF14
     refine Zw (vs := [(vI p0), (vB s4.1), (vB s4.1)]) hE Za (dl rfl) rfl cb127 (Ys _ p0 s4.1 s4.1 r20 e21) ?_
     rintro v w a ⟨rfl, hK⟩ hE
     have hM := hM.keep hK
     refine Ze hE Za (dl rfl) rfl ?_; intro a hE
     refine Zj (Yk ?_)
     have ht22 := Option.some.inj hF14
     subst ht22
     refine Zl ?_
     exact ⟨hE.sub ⟨rfl, rfl, rfl, rfl, trivial⟩, hM⟩
   ·skip
    rintro a w ⟨hE, hM⟩
    refine wp_region_lit (Zd hE Za (dl rfl) rfl ?_); intro a hE
    refine Zh hE Za (dl rfl) rfl rfl (bI_quo _ _ (by decide)) ?_; intro a hE
    refine Ze hE Za (dl rfl) rfl ?_; intro a hE
    refine Zj (Zl ?_)
    exact ⟨_, (Option.some.inj hF11).symm, hE.sub ⟨rfl, rfl, rfl, rfl, trivial⟩, hM⟩
  ·intro hb8
   have hs5 := Zz hs5 hb8
   refine wp_exit (Zr (Zr (Yj ?_)))
   have ht23 := hx6 _ (Option.some.inj hs5).symm
   subst ht23
   refine Zl ?_
   exact ⟨hE.sub ⟨rfl, trivial⟩, hM⟩
 ·skip
  rintro a w ⟨hE, hM⟩
  refine Zc (Zd hE Za (dl rfl) rfl ?_); intro a hE
  refine Ze hE Za (dl rfl) rfl ?_; intro a hE
  refine Zf ?_
  have hr := Option.some.inj hF3
  subst hr
  exact wp_ret (Zy hE rfl (Zu hE rfl) ⟨_, rfl, rfl, hM.kept⟩)
noncomputable def Yc (p0 : Int) (p1 : UInt8) : Option (UInt8) :=
 (Xd p0 p1 254).bind fun r1 => some r1
theorem VE (w0 : World) (p0 : Int) (p1 : UInt8) (r : UInt8) (hF : Yc p0 p1 = some r) :
  Calls Try.prog 111 [(vI p0), (vB p1)].toArray w0 (fun en w' => ∃ v, en = .returned v ∧ (v = (vB r) ∧ Kept (Old w0) w0 w')) := by
 refine ZC (n := 8) Try.func111 rfl rfl (Nat.le_of_ble_eq_true rfl) rfl ?_
 intro a hE
 have hM := M.start w0
 unfold Yc at hF
 refine Zc (Ze hE Za (dl rfl) rfl ?_); intro a hE
 refine Zf (Zc (Zd hE Za (dl rfl) rfl ?_)); intro a hE
 refine Zd hE Za (dl rfl) rfl ?_; intro a hE
 obtain ⟨r1, e2, hF⟩ := bind_some hF
 refine Zw (vs := [(vI p0), (vB p1), (vI 254)]) hE Za (dl rfl) rfl cb128 (c_impl_field_power _ p0 p1 254 r1 e2) ?_
 rintro v w a ⟨rfl, hK⟩ hE
 have hM := hM.keep hK
 refine Ze hE Za (dl rfl) rfl ?_; intro a hE
 refine Zf ?_
 have hr := Option.some.inj hF
 subst hr
 exact wp_ret (Zy hE rfl (Zu hE rfl) ⟨_, rfl, rfl, hM.kept⟩)
noncomputable def Yb (p0 : UInt8) (p1 : Int) : Option (UInt8) :=
 (Xk (wru (BitVec.ofInt 64 (IntKind.u64.wrap p1) &&& BitVec.ofInt 64 7).toNat)).bind fun _ => (Xk (IntKind.u64.wrap (8 - (wru (BitVec.ofInt 64 (IntKind.u64.wrap p1) &&& BitVec.ofInt 64 7).toNat)))).bind fun _ => some ((shlB p0 (wru (BitVec.ofInt 64 (IntKind.u64.wrap p1) &&& BitVec.ofInt 64 7).toNat)) ||| (shrB p0 (IntKind.u64.wrap (8 - (wru (BitVec.ofInt 64 (IntKind.u64.wrap p1) &&& BitVec.ofInt 64 7).toNat)))))
theorem Un (w0 : World) (p0 : UInt8) (p1 : Int) (r : UInt8) (hF : Yb p0 p1 = some r) :
  Calls Try.prog 112 [(vB p0), (vI p1)].toArray w0 (fun en w' => ∃ v, en = .returned v ∧ (v = (vB r) ∧ Kept (Old w0) w0 w')) := by
 refine ZC (n := 17) Try.func112 rfl rfl (Nat.le_of_ble_eq_true rfl) rfl ?_
 intro a hE
 have hM := M.start w0
 unfold Yb at hF
 refine Zc (Ze hE Za (dl rfl) rfl ?_); intro a hE
 refine Zf (Zc (Zd hE Za (dl rfl) rfl ?_)); intro a hE
 refine YK hE Za (dl rfl) rfl Try.underlying3 Try.underlying134 ?_; intro a hE
 refine Zh hE Za (dl rfl) rfl rfl rfl ?_; intro a hE
 refine Ze hE Za (dl rfl) rfl ?_; intro a hE
 refine Zf (Zc (Zd hE Za (dl rfl) rfl ?_)); intro a hE
 refine Zd hE Za (dl rfl) rfl ?_; intro a hE
 obtain ⟨_, e1, hF⟩ := bind_some hF
 have e1 := Wk e1
 refine s_sh hE Za (dl rfl) rfl rfl (bB_shl _ _ e1) ?_; intro a hE
 refine Zd hE Za (dl rfl) rfl ?_; intro a hE
 refine Zd hE Za (dl rfl) rfl ?_; intro a hE
 refine Zh hE Za (dl rfl) rfl rfl rfl ?_; intro a hE
 obtain ⟨_, e2, hF⟩ := bind_some hF
 have e2 := Wk e2
 refine s_sh hE Za (dl rfl) rfl rfl (bB_shr _ _ e2) ?_; intro a hE
 refine Zh hE Za (dl rfl) rfl rfl (bB_or (shlB p0 (wru (BitVec.ofInt 64 (IntKind.u64.wrap p1) &&& BitVec.ofInt 64 7).toNat)) (shrB p0 (IntKind.u64.wrap (8 - (wru (BitVec.ofInt 64 (IntKind.u64.wrap p1) &&& BitVec.ofInt 64 7).toNat))))) ?_; intro a hE
 refine Ze hE Za (dl rfl) rfl ?_; intro a hE
 refine Zf ?_
 have hr := Option.some.inj hF
 subst hr
 exact wp_ret (Zy hE rfl (Zu hE rfl) ⟨_, rfl, rfl, hM.kept⟩)
noncomputable def XH (s8 : (Vector UInt8 256) × Int) : Option (Fl ((Vector UInt8 256) × Int) (Vector UInt8 256)) :=
 if (decide (s8.2 < 256)) = true then ((Yc 285 (ZG s8.2)).bind fun r13 => (Yb r13 1).bind fun r15 => (Yb r13 4).bind fun r17 => (ZM s8.1 s8.2).bind fun x20 => some (Fl.nx ((s8.1.setIfInBounds (s8.2).toNat (((r13 ^^^ r15) ^^^ r17) ^^^ 90)), wr (s8.2 + 1)))) else (some (Fl.ex s8.1))
noncomputable def WD (s26 : (Vector (Vector UInt8 4) 4) × Int) (s34 : (Vector (Vector UInt8 4) 4) × Int) : Option (Fl ((Vector (Vector UInt8 4) 4) × Int) (Vector (Vector UInt8 4) 4)) :=
 if (decide (s34.2 < 4)) = true then ((Yc 285 (ZG (xorI s26.2 (wr (4 + s34.2))))).bind fun r40 => (ZM s34.1 s26.2).bind fun x43 => (ZM x43 s34.2).bind fun x46 => some (Fl.nx ((s34.1.setIfInBounds (s26.2).toNat (x43.setIfInBounds (s34.2).toNat r40)), wr (s34.2 + 1)))) else (some (Fl.ex s34.1))
noncomputable def Wx (s26 : (Vector (Vector UInt8 4) 4) × Int) : Option (Fl ((Vector (Vector UInt8 4) 4) × Int) (Vector (Vector UInt8 4) 4)) :=
 if (decide (s26.2 < 4)) = true then ((ZF (WD s26) (s26.1, 0) : Option ((Vector (Vector UInt8 4) 4))).bind fun j31 => some (Fl.nx (j31, wr (s26.2 + 1)))) else (some (Fl.ex s26.1))
noncomputable def WC (s53 : (Vector UInt8 16) × Int) : Option (Fl ((Vector UInt8 16) × Int) (Vector UInt8 16)) :=
 if (decide (s53.2 < 16)) = true then ((ZM s53.1 s53.2).bind fun x59 => some (Fl.nx ((s53.1.setIfInBounds (s53.2).toNat (ZG (Int.tmod (wr ((wr (13 * s53.2)) + 4)) 16))), wr (s53.2 + 1)))) else (some (Fl.ex s53.1))
noncomputable def X8 (p0 : Int) : Option (GCipher) :=
 (ZF (XH) ((Vector.replicate 256 (0 : UInt8)), 0) : Option ((Vector UInt8 256))).bind fun j5 => (ZF (Wx) ((Vector.replicate 4 (Vector.replicate 4 (0 : UInt8))), 0) : Option ((Vector (Vector UInt8 4) 4))).bind fun j23 => (ZF (WC) ((Vector.replicate 16 (0 : UInt8)), 0) : Option ((Vector UInt8 16))).bind fun j50 => some (⟨285, j5, j23, j50, p0⟩ : GCipher)
theorem c_impl_houseCipher (w0 : World) (p0 : Int) (r : GCipher) (hF : X8 p0 = some r) :
  Calls Try.prog 90 [(vI p0)].toArray w0 (fun en w' => ∃ v, en = .returned v ∧ (v = (Value.agg (Flat.enc r).toArray) ∧ Kept (Old w0) w0 w')) := by
 refine ZC (n := 61) Try.func90 rfl rfl (Nat.le_of_ble_eq_true rfl) rfl ?_
 intro a hE
 have hM := M.start w0
 unfold X8 at hF
 refine Zc (ZO hE hM Za (dl rfl) VP ?_); intro b1 w a hM hE
 refine Zf (Zc (Zd hE Za (dl rfl) rfl ?_)); intro a hE
 refine s_buildStr (parts := [(0, .const (vI 285)), (4, .tmp 9)]) (vs := [(0, (vI 285)), (4, (vI p0))]) (cs := cat [[(vI 285)], Flat.enc (Vector.replicate 256 (0 : UInt8)), Flat.enc (Vector.replicate 4 (Vector.replicate 4 (0 : UInt8))), Flat.enc (Vector.replicate 16 (0 : UInt8)), [(vI p0)]]) hE Za (dl rfl) rfl rfl VP pl103 (Wh (pre := []) (seg := [(vI 0)]) (seg' := [(vI 285)]) (post := [Flat.enc (Vector.replicate 256 (0 : UInt8)), Flat.enc (Vector.replicate 4 (Vector.replicate 4 (0 : UInt8))), Flat.enc (Vector.replicate 16 (0 : UInt8)), [(vI 0)]]) rfl cl0 rfl rfl rfl (Wh (pre := [[(vI 285)], Flat.enc (Vector.replicate 256 (0 : UInt8)), Flat.enc (Vector.replicate 4 (Vector.replicate 4 (0 : UInt8))), Flat.enc (Vector.replicate 16 (0 : UInt8))]) (seg := [(vI 0)]) (seg' := [(vI p0)]) (post := []) rfl (cl1 (n := 1) (m := 288) rfl (cl1 (n := 256) (m := 32) (Flat.len _) (cl1 (n := 16) (m := 16) (Flat.len _) (cl1 (n := 16) (m := 0) (Flat.len _) cl0)))) rfl rfl rfl fill_nil)) ?_; intro a hE
 refine ZO hE hM Za (dl rfl) VP ?_; intro b3 w a hM hE
 refine Zs (seg := cat [[(vI 285)], Flat.enc (Vector.replicate 256 (0 : UInt8)), Flat.enc (Vector.replicate 4 (Vector.replicate 4 (0 : UInt8))), Flat.enc (Vector.replicate 16 (0 : UInt8)), [(vI p0)]]) (cs' := cat [[(vI 285)], Flat.enc (Vector.replicate 256 (0 : UInt8)), Flat.enc (Vector.replicate 4 (Vector.replicate 4 (0 : UInt8))), Flat.enc (Vector.replicate 16 (0 : UInt8)), [(vI p0)]]) hE hM Za rfl rfl rfl VP (ZR (cl1 (n := 1) (m := 289) rfl (cl1 (n := 256) (m := 33) (Flat.len _) (cl1 (n := 16) (m := 17) (Flat.len _) (cl1 (n := 16) (m := 1) (Flat.len _) (cl1 (n := 1) (m := 0) rfl cl0)))))) (Nat.le_of_eq ((Nat.zero_add _).trans (Eq.trans (ZR (cl1 (n := 1) (m := 289) rfl (cl1 (n := 256) (m := 33) (Flat.len _) (cl1 (n := 16) (m := 17) (Flat.len _) (cl1 (n := 16) (m := 1) (Flat.len _) (cl1 (n := 1) (m := 0) rfl cl0)))))) (Eq.symm (ZR (cl1 (n := 1) (m := 289) rfl (cl1 (n := 256) (m := 33) (Flat.len _) (cl1 (n := 16) (m := 17) (Flat.len _) (cl1 (n := 16) (m := 1) (Flat.len _) (cl1 (n := 1) (m := 0) rfl cl0)))))))))) (cat_cell (cc1 (Flat.cell (285 : Int)) (cc1 (Flat.cell _) (cc1 (Flat.cell _) (cc1 (Flat.cell _) (cc1 (Flat.cell (p0 : Int)) cc0)))))) (Zq (Eq.trans (ZR (cl1 (n := 1) (m := 289) rfl (cl1 (n := 256) (m := 33) (Flat.len _) (cl1 (n := 16) (m := 17) (Flat.len _) (cl1 (n := 16) (m := 1) (Flat.len _) (cl1 (n := 1) (m := 0) rfl cl0)))))) (Eq.symm (ZR (cl1 (n := 1) (m := 289) rfl (cl1 (n := 256) (m := 33) (Flat.len _) (cl1 (n := 16) (m := 17) (Flat.len _) (cl1 (n := 16) (m := 1) (Flat.len _) (cl1 (n := 1) (m := 0) rfl cl0))))))))) ?_; intro w a hM hE
 refine Zf (wp_seq (Zc (Zd hE Za (dl rfl) rfl ?_))); intro a hE
 refine Zf ?_
 obtain ⟨j5, hl6, hF7⟩ := bind_some hF
 refine ZV (fun a w => Env 61 a [(2, (ptr b1 0)), (3, (ptr b3 0))] ∧ M (Old w0) w0 w [raw b3 (cat [[(vI 285)], Flat.enc j5, Flat.enc (Vector.replicate 4 (Vector.replicate 4 (0 : UInt8))), Flat.enc (Vector.replicate 16 (0 : UInt8)), [(vI p0)]]), raw b1 (cat [[(vI 0)], Flat.enc (Vector.replicate 256 (0 : UInt8)), Flat.enc (Vector.replicate 4 (Vector.replicate 4 (0 : UInt8))), Flat.enc (Vector.replicate 16 (0 : UInt8)), [(vI 0)]])]) ?_ ?_
 ·skip
  refine wp_block ?_
  refine ZN (fun (s8 : (Vector UInt8 256) × Int) a w => Env 61 a [(2, (ptr b1 0)), (3, (ptr b3 0)), (11, (vI s8.2))] ∧ M (Old w0) w0 w [raw b3 (cat [[(vI 285)], Flat.enc s8.1, Flat.enc (Vector.replicate 4 (Vector.replicate 4 (0 : UInt8))), Flat.enc (Vector.replicate 16 (0 : UInt8)), [(vI p0)]]), raw b1 (cat [[(vI 0)], Flat.enc (Vector.replicate 256 (0 : UInt8)), Flat.enc (Vector.replicate 4 (Vector.replicate 4 (0 : UInt8))), Flat.enc (Vector.replicate 16 (0 : UInt8)), [(vI 0)]])]) hl6 ⟨hE.sub ⟨rfl, rfl, rfl, trivial⟩, hM⟩ ?_
  rintro s8 a w ⟨hE, hM⟩ o11 hs9 hx10
  unfold XH at hs9
  refine Zc (Zh hE Za (dl rfl) rfl rfl rfl ?_); intro a hE
  refine Zf (wp_seq ?_)
  refine Zt hE rfl ?_ ?_
  ·intro hb12
   have hs9 := ZA hs9 hb12
   refine wp_skip (Zx (wp_seq (wp_block (Zc (Zd hE Za (dl rfl) rfl ?_))))); intro a hE
   refine Ze hE Za (dl rfl) rfl ?_; intro a hE
   refine Zf (Zc (Zd hE Za (dl rfl) rfl ?_)); intro a hE
   refine YK hE Za (dl rfl) rfl Try.underlying3 Try.underlying5 ?_; intro a hE
   rw [Yf] at hE
   obtain ⟨r13, e14, hs9⟩ := bind_some hs9
   refine Zw (vs := [(vI 285), (vB (ZG s8.2))]) hE Za (dl rfl) rfl cb111 (VE _ 285 (ZG s8.2) r13 e14) ?_
   rintro v w a ⟨rfl, hK⟩ hE
   have hM := hM.keep hK
   refine Ze hE Za (dl rfl) rfl ?_; intro a hE
   refine Zf (wp_region_lit (Zd hE Za (dl rfl) rfl ?_)); intro a hE
   refine Zd hE Za (dl rfl) rfl ?_; intro a hE
   refine Zd hE Za (dl rfl) rfl ?_; intro a hE
   obtain ⟨r15, e16, hs9⟩ := bind_some hs9
   refine Zw (vs := [(vB r13), (vI 1)]) hE Za (dl rfl) rfl cb112 (Un _ r13 1 r15 e16) ?_
   rintro v w a ⟨rfl, hK⟩ hE
   have hM := hM.keep hK
   refine Zh hE Za (dl rfl) rfl rfl (Vo r13 r15) ?_; intro a hE
   refine Zd hE Za (dl rfl) rfl ?_; intro a hE
   obtain ⟨r17, e18, hs9⟩ := bind_some hs9
   refine Zw (vs := [(vB r13), (vI 4)]) hE Za (dl rfl) rfl cb112 (Un _ r13 4 r17 e18) ?_
   rintro v w a ⟨rfl, hK⟩ hE
   have hM := hM.keep hK
   refine Zh hE Za (dl rfl) rfl rfl (Vo (r13 ^^^ r15) r17) ?_; intro a hE
   refine Zh hE Za (dl rfl) rfl rfl (Vo ((r13 ^^^ r15) ^^^ r17) 90) ?_; intro a hE
   refine Zo hE Za (dl rfl) rfl (fd103_1) ?_; intro a hE
   obtain ⟨x20, e21, hs9⟩ := bind_some hs9
   have hi19 := Zi e21
   refine Zm hE Za (dl rfl) rfl rfl Try.underlying97 ty5 hi19.1 ?_; intro a hE
   refine Zs (seg := [(vB (((r13 ^^^ r15) ^^^ r17) ^^^ 90))]) (cs' := cat [[(vI 285)], Flat.enc (s8.1.setIfInBounds (s8.2).toNat (((r13 ^^^ r15) ^^^ r17) ^^^ 90)), Flat.enc (Vector.replicate 4 (Vector.replicate 4 (0 : UInt8))), Flat.enc (Vector.replicate 16 (0 : UInt8)), [(vI p0)]]) hE hM Za rfl rfl rfl ty5 rfl (fit_catI (o' := 0 + (s8.2).toNat * 1) (pre := [[(vI 285)]]) (seg := Flat.enc s8.1) (post := [Flat.enc (Vector.replicate 4 (Vector.replicate 4 (0 : UInt8))), Flat.enc (Vector.replicate 16 (0 : UInt8)), [(vI p0)]]) (cl1 (n := 1) (m := 0) rfl cl0) (ZT (v := s8.1) (x := ((r13 ^^^ r15) ^^^ r17) ^^^ 90) hi19.1) (by first | omega | (simp only [Flat.n] <;> omega))) (Flat.cell (((r13 ^^^ r15) ^^^ r17) ^^^ 90 : UInt8)) (splice_catI (o' := 0 + (s8.2).toNat * 1) (pre := [[(vI 285)]]) (seg := Flat.enc s8.1) (post := [Flat.enc (Vector.replicate 4 (Vector.replicate 4 (0 : UInt8))), Flat.enc (Vector.replicate 16 (0 : UInt8)), [(vI p0)]]) (cl1 (n := 1) (m := 0) rfl cl0) (ZT (v := s8.1) (x := ((r13 ^^^ r15) ^^^ r17) ^^^ 90) hi19.1) (ZI (v := s8.1) (x := ((r13 ^^^ r15) ^^^ r17) ^^^ 90) hi19.1) (by first | omega | (simp only [Flat.n] <;> omega))) ?_; intro w a hM hE
   refine Zj (Yk (Zx (wp_region_lit (Zh hE Za (dl rfl) rfl rfl rfl ?_)))); intro a hE
   refine Zd hE Za (dl rfl) rfl ?_; intro a hE
   refine Zj (Zl ?_)
   exact ⟨_, (Option.some.inj hs9).symm, hE.sub ⟨rfl, rfl, rfl, trivial⟩, hM⟩
  ·intro hb12
   have hs9 := Zz hs9 hb12
   refine wp_exit (Zr (Zr (Yj ?_)))
   have ht22 := hx10 _ (Option.some.inj hs9).symm
   subst ht22
   refine Zl ?_
   exact ⟨hE.sub ⟨rfl, rfl, trivial⟩, hM⟩
 ·skip
  rintro a w ⟨hE, hM⟩
  refine Zx (wp_seq (Zc (Zd hE Za (dl rfl) rfl ?_))); intro a hE
  refine Zf ?_
  obtain ⟨j23, hl24, hF25⟩ := bind_some hF7
  refine ZV (fun a w => Env 61 a [(2, (ptr b1 0)), (3, (ptr b3 0))] ∧ M (Old w0) w0 w [raw b3 (cat [[(vI 285)], Flat.enc j5, Flat.enc j23, Flat.enc (Vector.replicate 16 (0 : UInt8)), [(vI p0)]]), raw b1 (cat [[(vI 0)], Flat.enc (Vector.replicate 256 (0 : UInt8)), Flat.enc (Vector.replicate 4 (Vector.replicate 4 (0 : UInt8))), Flat.enc (Vector.replicate 16 (0 : UInt8)), [(vI 0)]])]) ?_ ?_
  ·skip
   refine wp_block ?_
   refine ZN (fun (s26 : (Vector (Vector UInt8 4) 4) × Int) a w => Env 61 a [(2, (ptr b1 0)), (3, (ptr b3 0)), (29, (vI s26.2))] ∧ M (Old w0) w0 w [raw b3 (cat [[(vI 285)], Flat.enc j5, Flat.enc s26.1, Flat.enc (Vector.replicate 16 (0 : UInt8)), [(vI p0)]]), raw b1 (cat [[(vI 0)], Flat.enc (Vector.replicate 256 (0 : UInt8)), Flat.enc (Vector.replicate 4 (Vector.replicate 4 (0 : UInt8))), Flat.enc (Vector.replicate 16 (0 : UInt8)), [(vI 0)]])]) hl24 ⟨hE.sub ⟨rfl, rfl, rfl, trivial⟩, hM⟩ ?_
   rintro s26 a w ⟨hE, hM⟩ o29 hs27 hx28
   unfold Wx at hs27
   refine Zc (Zh hE Za (dl rfl) rfl rfl rfl ?_); intro a hE
   refine Zf (wp_seq ?_)
   refine Zt hE rfl ?_ ?_
   ·intro hb30
    have hs27 := ZA hs27 hb30
    refine wp_skip (Zx (wp_seq (wp_block (Zc (Zd hE Za (dl rfl) rfl ?_))))); intro a hE
    refine Ze hE Za (dl rfl) rfl ?_; intro a hE
    refine Zf (Zc (Zd hE Za (dl rfl) rfl ?_)); intro a hE
    refine Zf ?_
    obtain ⟨j31, hl32, hF33⟩ := bind_some hs27
    refine ZV (fun a w => Env 61 a [(2, (ptr b1 0)), (3, (ptr b3 0)), (29, (vI s26.2))] ∧ M (Old w0) w0 w [raw b3 (cat [[(vI 285)], Flat.enc j5, Flat.enc j31, Flat.enc (Vector.replicate 16 (0 : UInt8)), [(vI p0)]]), raw b1 (cat [[(vI 0)], Flat.enc (Vector.replicate 256 (0 : UInt8)), Flat.enc (Vector.replicate 4 (Vector.replicate 4 (0 : UInt8))), Flat.enc (Vector.replicate 16 (0 : UInt8)), [(vI 0)]])]) ?_ ?_
    ·skip
     refine wp_block ?_
     refine ZN (fun (s34 : (Vector (Vector UInt8 4) 4) × Int) a w => Env 61 a [(2, (ptr b1 0)), (3, (ptr b3 0)), (6, (vI s26.2)), (29, (vI s26.2)), (32, (vI s34.2))] ∧ M (Old w0) w0 w [raw b3 (cat [[(vI 285)], Flat.enc j5, Flat.enc s34.1, Flat.enc (Vector.replicate 16 (0 : UInt8)), [(vI p0)]]), raw b1 (cat [[(vI 0)], Flat.enc (Vector.replicate 256 (0 : UInt8)), Flat.enc (Vector.replicate 4 (Vector.replicate 4 (0 : UInt8))), Flat.enc (Vector.replicate 16 (0 : UInt8)), [(vI 0)]])]) hl32 ⟨hE.sub ⟨rfl, rfl, rfl, rfl, rfl, trivial⟩, hM⟩ ?_
     rintro s34 a w ⟨hE, hM⟩ o37 hs35 hx36
     unfold WD at hs35
     refine Zc (Zh hE Za (dl rfl) rfl rfl rfl ?_); intro a hE
     refine Zf (wp_seq ?_)
     refine Zt hE rfl ?_ ?_
     ·intro hb38
      have hs35 := ZA hs35 hb38
      refine wp_skip (Zx (wp_seq (wp_block (Zc (Zd hE Za (dl rfl) rfl ?_))))); intro a hE
      refine Ze hE Za (dl rfl) rfl ?_; intro a hE
      refine Zf ?_
      obtain ⟨r40, e41, hs35⟩ := bind_some hs35
      obtain ⟨x43, e44, hs35⟩ := bind_some hs35
      have hi42 := Zi e44
      obtain ⟨x46, e47, hs35⟩ := bind_some hs35
      have hi45 := Zi e47
      refine Yd (n := 61) (hd := [_, _, _, _, _, _, _, _, _, _, _]) (tl := [_]) YB rfl rfl [35, 36, 37, 38, 39, 40, 41, 42, 43, 44, 45] (by decide) (fun w => M (Old w0) w0 w [raw b3 (cat [[(vI 285)], Flat.enc j5, Flat.enc s34.1, Flat.enc (Vector.replicate 16 (0 : UInt8)), [(vI p0)]]), raw b1 (cat [[(vI 0)], Flat.enc (Vector.replicate 256 (0 : UInt8)), Flat.enc (Vector.replicate 4 (Vector.replicate 4 (0 : UInt8))), Flat.enc (Vector.replicate 16 (0 : UInt8)), [(vI 0)]])]) (fun j => ([fun v _ => v = (vI s26.2), fun v _ => v = (vI s34.2), fun v _ => v = (vI s26.2), fun v _ => v = (vI s34.2), fun v _ => v = (vI (wr (4 + s34.2))), fun v _ => v = (vI (xorI s26.2 (wr (4 + s34.2)))), fun v _ => v = (vB (ZG (xorI s26.2 (wr (4 + s34.2))))), fun v _ => v = (vB r40), fun v _ => v = (ptr b3 (0 + 257)), fun v _ => v = (ptr b3 (0 + 257 + (s26.2).toNat * 4)), fun v _ => v = (ptr b3 (0 + 257 + (s26.2).toNat * 4 + (s34.2).toNat * 1))] : List (Value → World → Prop)).getD j (fun _ _ => True)) (fun _ _ h hk => h.keep hk) (gup (Zg (Zg (Zg (Zg (Zg (Zg (Zg (Zg (Zg (Zg (Zg Wu)))))))))))) hE hM.drew (ZH (Zb ?_ (Zb ?_ (Zb ?_ (Zb ?_ (Zb ?_ (Zb ?_ (Zb ?_ (Zb ?_ (Zb ?_ (Zb ?_ (Zb ?_ ZD)))))))))))) ?_
      ·exact fun a w ux39 hE hM hp => Zd hE Za (dl rfl) rfl fun a hE => ⟨Kept.refl _ _, _, _, rfl, hE, rfl⟩
      ·exact fun a w ux39 hE hM hp => Zd hE Za (dl rfl) rfl fun a hE => ⟨Kept.refl _ _, _, _, rfl, hE, rfl⟩
      ·exact fun a w ux39 hE hM hp => Zd hE Za (dl rfl) rfl fun a hE => ⟨Kept.refl _ _, _, _, rfl, hE, rfl⟩
      ·exact fun a w ux39 hE hM hp => Zd hE Za (dl rfl) rfl fun a hE => ⟨Kept.refl _ _, _, _, rfl, hE, rfl⟩
      ·intro a w ux39 hE hM hp
       have f3 : ux39 3 = (vI s34.2) := hp 0 _ rfl rfl
       exact Zh hE Za (dl rfl) rfl (lk rfl f3) rfl fun a hE => ⟨Kept.refl _ _, _, _, rfl, hE, rfl⟩
      ·intro a w ux39 hE hM hp
       have f2 : ux39 2 = (vI s26.2) := hp 0 _ rfl rfl
       have f4 : ux39 4 = (vI (wr (4 + s34.2))) := hp 1 _ rfl rfl
       exact Zh hE Za (dl rfl) (lk rfl f2) (lk rfl f4) rfl fun a hE => ⟨Kept.refl _ _, _, _, rfl, hE, rfl⟩
      ·intro a w ux39 hE hM hp
       have f5 : ux39 5 = (vI (xorI s26.2 (wr (4 + s34.2)))) := hp 0 _ rfl rfl
       refine YK hE Za (dl rfl) (lk rfl f5) Try.underlying3 Try.underlying5 ?_; intro a hE
       rw [Yf] at hE
       exact ⟨Kept.refl _ _, _, _, rfl, hE, rfl⟩
      ·intro a w ux39 hE hM hp
       have f6 : ux39 6 = (vB (ZG (xorI s26.2 (wr (4 + s34.2))))) := hp 0 _ rfl rfl
       refine Zw (vs := [(vI 285), (vB (ZG (xorI s26.2 (wr (4 + s34.2)))))]) hE Za (dl rfl) (Z0 (ZY rfl (ZY (lk rfl f6) Xf))) cb111 (VE _ 285 (ZG (xorI s26.2 (wr (4 + s34.2)))) r40 e41) ?_
       rintro v w a ⟨rfl, hK⟩ hE
       exact ⟨hK, _, _, rfl, hE, rfl⟩
      ·exact fun a w ux39 hE hM hp => Zo hE Za (dl rfl) rfl (fd103_2) fun a hE => ⟨Kept.refl _ _, _, _, rfl, hE, rfl⟩
      ·intro a w ux39 hE hM hp
       have f0 : ux39 0 = (vI s26.2) := hp 1 _ rfl rfl
       have f8 : ux39 8 = (ptr b3 (0 + 257)) := hp 0 _ rfl rfl
       exact Zm hE Za (dl rfl) (lk rfl f8) (lk rfl f0) Try.underlying100 Va hi42.1 fun a hE => ⟨Kept.refl _ _, _, _, rfl, hE, rfl⟩
      ·intro a w ux39 hE hM hp
       have f1 : ux39 1 = (vI s34.2) := hp 1 _ rfl rfl
       have f9 : ux39 9 = (ptr b3 (0 + 257 + (s26.2).toNat * 4)) := hp 0 _ rfl rfl
       exact Zm hE Za (dl rfl) (lk rfl f9) (lk rfl f1) Try.underlying98 ty5 hi45.1 fun a hE => ⟨Kept.refl _ _, _, _, rfl, hE, rfl⟩
      ·intro a w ux39 hE hM hg
       have hE := hE.sub (e' := [(42, (vB r40)), (45, (ptr b3 (0 + 257 + (s26.2).toNat * 4 + (s34.2).toNat * 1))), (2, (ptr b1 0)), (3, (ptr b3 0)), (6, (vI s26.2)), (7, (vI s34.2)), (29, (vI s26.2)), (32, (vI s34.2)), (33, (vT (decide (s34.2 < 4)))), (34, (vI s34.2))]) ⟨lk rfl (hg 7 (by decide)), lk rfl (hg 10 (by decide)), rfl, rfl, rfl, rfl, rfl, rfl, rfl, rfl, trivial⟩
       refine Zs (seg := [(vB r40)]) (cs' := cat [[(vI 285)], Flat.enc j5, Flat.enc (s34.1.setIfInBounds (s26.2).toNat (x43.setIfInBounds (s34.2).toNat r40)), Flat.enc (Vector.replicate 16 (0 : UInt8)), [(vI p0)]]) hE hM Za rfl rfl rfl ty5 rfl (fit_catI (o' := (s26.2).toNat * 4 + (0 + (s34.2).toNat * 1)) (pre := [[(vI 285)], Flat.enc j5]) (seg := Flat.enc s34.1) (post := [Flat.enc (Vector.replicate 16 (0 : UInt8)), [(vI p0)]]) (cl1 (n := 1) (m := 256) rfl (cl1 (n := 256) (m := 0) (Flat.len _) cl0)) (Vh (o' := 0 + (s34.2).toNat * 1) hi42 (ZT (v := x43) (x := r40) hi45.1) (by first | omega | (simp only [Flat.n] <;> omega))) (by first | omega | (simp only [Flat.n] <;> omega))) (Flat.cell (r40 : UInt8)) (splice_catI (o' := (s26.2).toNat * 4 + (0 + (s34.2).toNat * 1)) (pre := [[(vI 285)], Flat.enc j5]) (seg := Flat.enc s34.1) (post := [Flat.enc (Vector.replicate 16 (0 : UInt8)), [(vI p0)]]) (cl1 (n := 1) (m := 256) rfl (cl1 (n := 256) (m := 0) (Flat.len _) cl0)) (Vh (o' := 0 + (s34.2).toNat * 1) hi42 (ZT (v := x43) (x := r40) hi45.1) (by first | omega | (simp only [Flat.n] <;> omega))) (Wm (o' := 0 + (s34.2).toNat * 1) hi42 (ZT (v := x43) (x := r40) hi45.1) (ZI (v := x43) (x := r40) hi45.1) (by first | omega | (simp only [Flat.n] <;> omega))) (by first | omega | (simp only [Flat.n] <;> omega))) ?_; intro w a hM hE
       refine Zj (Yk (Zx (wp_region_lit (Zh hE Za (dl rfl) rfl rfl rfl ?_)))); intro a hE
       refine Zd hE Za (dl rfl) rfl ?_; intro a hE
       refine Zj (Zl ?_)
       exact ⟨_, (Option.some.inj hs35).symm, hE.sub ⟨rfl, rfl, rfl, rfl, rfl, trivial⟩, hM⟩
     ·intro hb38
      have hs35 := Zz hs35 hb38
      refine wp_exit (Zr (Zr (Yj ?_)))
      have ht48 := hx36 _ (Option.some.inj hs35).symm
      subst ht48
      refine Zl ?_
      exact ⟨hE.sub ⟨rfl, rfl, rfl, trivial⟩, hM⟩
    ·skip
     rintro a w ⟨hE, hM⟩
     refine Yk (Zx (wp_region_lit (Zh hE Za (dl rfl) rfl rfl rfl ?_))); intro a hE
     refine Zd hE Za (dl rfl) rfl ?_; intro a hE
     refine Zj (Zl ?_)
     exact ⟨_, (Option.some.inj hF33).symm, hE.sub ⟨rfl, rfl, rfl, trivial⟩, hM⟩
   ·intro hb30
    have hs27 := Zz hs27 hb30
    refine wp_exit (Zr (Zr (Yj ?_)))
    have ht49 := hx28 _ (Option.some.inj hs27).symm
    subst ht49
    refine Zl ?_
    exact ⟨hE.sub ⟨rfl, rfl, trivial⟩, hM⟩
  ·skip
   rintro a w ⟨hE, hM⟩
   refine Zx (wp_seq (Zc (Zd hE Za (dl rfl) rfl ?_))); intro a hE
   refine Zf ?_
   obtain ⟨j50, hl51, hF52⟩ := bind_some hF25
   refine ZV (fun a w => Env 61 a [(2, (ptr b1 0)), (3, (ptr b3 0))] ∧ M (Old w0) w0 w [raw b3 (cat [[(vI 285)], Flat.enc j5, Flat.enc j23, Flat.enc j50, [(vI p0)]]), raw b1 (cat [[(vI 0)], Flat.enc (Vector.replicate 256 (0 : UInt8)), Flat.enc (Vector.replicate 4 (Vector.replicate 4 (0 : UInt8))), Flat.enc (Vector.replicate 16 (0 : UInt8)), [(vI 0)]])]) ?_ ?_
   ·skip
    refine wp_block ?_
    refine ZN (fun (s53 : (Vector UInt8 16) × Int) a w => Env 61 a [(2, (ptr b1 0)), (3, (ptr b3 0)), (48, (vI s53.2))] ∧ M (Old w0) w0 w [raw b3 (cat [[(vI 285)], Flat.enc j5, Flat.enc j23, Flat.enc s53.1, [(vI p0)]]), raw b1 (cat [[(vI 0)], Flat.enc (Vector.replicate 256 (0 : UInt8)), Flat.enc (Vector.replicate 4 (Vector.replicate 4 (0 : UInt8))), Flat.enc (Vector.replicate 16 (0 : UInt8)), [(vI 0)]])]) hl51 ⟨hE.sub ⟨rfl, rfl, rfl, trivial⟩, hM⟩ ?_
    rintro s53 a w ⟨hE, hM⟩ o56 hs54 hx55
    unfold WC at hs54
    refine Zc (Zh hE Za (dl rfl) rfl rfl rfl ?_); intro a hE
    refine Zf (wp_seq ?_)
    refine Zt hE rfl ?_ ?_
    ·intro hb57
     have hs54 := ZA hs54 hb57
     refine wp_skip (Zx (wp_seq (wp_block (Zc (Zd hE Za (dl rfl) rfl ?_))))); intro a hE
     refine Ze hE Za (dl rfl) rfl ?_; intro a hE
     refine Zf (wp_region_lit (Zd hE Za (dl rfl) rfl ?_)); intro a hE
     refine Zd hE Za (dl rfl) rfl ?_; intro a hE
     refine Zh hE Za (dl rfl) rfl rfl rfl ?_; intro a hE
     refine Zh hE Za (dl rfl) rfl rfl rfl ?_; intro a hE
     refine Zh hE Za (dl rfl) rfl rfl (bI_rem _ _ (by decide)) ?_; intro a hE
     refine YK hE Za (dl rfl) rfl Try.underlying3 Try.underlying5 ?_; intro a hE
     rw [Yf] at hE
     refine Zo hE Za (dl rfl) rfl (fd103_3) ?_; intro a hE
     obtain ⟨x59, e60, hs54⟩ := bind_some hs54
     have hi58 := Zi e60
     refine Zm hE Za (dl rfl) rfl rfl Try.underlying101 ty5 hi58.1 ?_; intro a hE
     refine Zs (seg := [(vB (ZG (Int.tmod (wr ((wr (13 * s53.2)) + 4)) 16)))]) (cs' := cat [[(vI 285)], Flat.enc j5, Flat.enc j23, Flat.enc (s53.1.setIfInBounds (s53.2).toNat (ZG (Int.tmod (wr ((wr (13 * s53.2)) + 4)) 16))), [(vI p0)]]) hE hM Za rfl rfl rfl ty5 rfl (fit_catI (o' := 0 + (s53.2).toNat * 1) (pre := [[(vI 285)], Flat.enc j5, Flat.enc j23]) (seg := Flat.enc s53.1) (post := [[(vI p0)]]) (cl1 (n := 1) (m := 272) rfl (cl1 (n := 256) (m := 16) (Flat.len _) (cl1 (n := 16) (m := 0) (Flat.len _) cl0))) (ZT (v := s53.1) (x := ZG (Int.tmod (wr ((wr (13 * s53.2)) + 4)) 16)) hi58.1) (by first | omega | (simp only [Flat.n] <;> omega))) (Flat.cell (ZG (Int.tmod (wr ((wr (13 * s53.2)) + 4)) 16) : UInt8)) (splice_catI (o' := 0 + (s53.2).toNat * 1) (pre := [[(vI 285)], Flat.enc j5, Flat.enc j23]) (seg := Flat.enc s53.1) (post := [[(vI p0)]]) (cl1 (n := 1) (m := 272) rfl (cl1 (n := 256) (m := 16) (Flat.len _) (cl1 (n := 16) (m := 0) (Flat.len _) cl0))) (ZT (v := s53.1) (x := ZG (Int.tmod (wr ((wr (13 * s53.2)) + 4)) 16)) hi58.1) (ZI (v := s53.1) (x := ZG (Int.tmod (wr ((wr (13 * s53.2)) + 4)) 16)) hi58.1) (by first | omega | (simp only [Flat.n] <;> omega))) ?_; intro w a hM hE
     refine Zj (Yk (Zx (wp_region_lit (Zh hE Za (dl rfl) rfl rfl rfl ?_)))); intro a hE
     refine Zd hE Za (dl rfl) rfl ?_; intro a hE
     refine Zj (Zl ?_)
     exact ⟨_, (Option.some.inj hs54).symm, hE.sub ⟨rfl, rfl, rfl, trivial⟩, hM⟩
    ·intro hb57
     have hs54 := Zz hs54 hb57
     refine wp_exit (Zr (Zr (Yj ?_)))
     have ht61 := hx55 _ (Option.some.inj hs54).symm
     subst ht61
     refine Zl ?_
     exact ⟨hE.sub ⟨rfl, rfl, trivial⟩, hM⟩
   ·skip
    rintro a w ⟨hE, hM⟩
    refine Zx (Zc (Zp (cs := Flat.enc (⟨285, j5, j23, j50, p0⟩ : GCipher)) hE Za (dl rfl) rfl VP rfl (hM.rawAt (pre := [])) (ZR (cl1 (n := 1) (m := 289) rfl (cl1 (n := 256) (m := 33) (Flat.len _) (cl1 (n := 16) (m := 17) (Flat.len _) (cl1 (n := 16) (m := 1) (Flat.len _) (cl1 (n := 1) (m := 0) rfl cl0)))))) ?_)); intro a hE
    have hM := hM.pull (pre := [_])
    refine Zs (seg := cat [[(vI ((⟨285, j5, j23, j50, p0⟩ : GCipher).Field))], Flat.enc ((⟨285, j5, j23, j50, p0⟩ : GCipher).Box), Flat.enc ((⟨285, j5, j23, j50, p0⟩ : GCipher).Mix), Flat.enc ((⟨285, j5, j23, j50, p0⟩ : GCipher).Places), [(vI ((⟨285, j5, j23, j50, p0⟩ : GCipher).Rounds))]]) (cs' := cat [[(vI ((⟨285, j5, j23, j50, p0⟩ : GCipher).Field))], Flat.enc ((⟨285, j5, j23, j50, p0⟩ : GCipher).Box), Flat.enc ((⟨285, j5, j23, j50, p0⟩ : GCipher).Mix), Flat.enc ((⟨285, j5, j23, j50, p0⟩ : GCipher).Places), [(vI ((⟨285, j5, j23, j50, p0⟩ : GCipher).Rounds))]]) hE hM Za rfl rfl rfl VP (ZR (cl1 (n := 1) (m := 289) rfl (cl1 (n := 256) (m := 33) (Flat.len _) (cl1 (n := 16) (m := 17) (Flat.len _) (cl1 (n := 16) (m := 1) (Flat.len _) (cl1 (n := 1) (m := 0) rfl cl0)))))) (Nat.le_of_eq ((Nat.zero_add _).trans (Eq.trans (ZR (cl1 (n := 1) (m := 289) rfl (cl1 (n := 256) (m := 33) (Flat.len _) (cl1 (n := 16) (m := 17) (Flat.len _) (cl1 (n := 16) (m := 1) (Flat.len _) (cl1 (n := 1) (m := 0) rfl cl0)))))) (Eq.symm (ZR (cl1 (n := 1) (m := 289) rfl (cl1 (n := 256) (m := 33) (Flat.len _) (cl1 (n := 16) (m := 17) (Flat.len _) (cl1 (n := 16) (m := 1) (Flat.len _) (cl1 (n := 1) (m := 0) rfl cl0)))))))))) (cat_cell (cc1 (Flat.cell ((⟨285, j5, j23, j50, p0⟩ : GCipher).Field : Int)) (cc1 (Flat.cell _) (cc1 (Flat.cell _) (cc1 (Flat.cell _) (cc1 (Flat.cell ((⟨285, j5, j23, j50, p0⟩ : GCipher).Rounds : Int)) cc0)))))) (Zq (Eq.trans (ZR (cl1 (n := 1) (m := 289) rfl (cl1 (n := 256) (m := 33) (Flat.len _) (cl1 (n := 16) (m := 17) (Flat.len _) (cl1 (n := 16) (m := 1) (Flat.len _) (cl1 (n := 1) (m := 0) rfl cl0)))))) (Eq.symm (ZR (cl1 (n := 1) (m := 289) rfl (cl1 (n := 256) (m := 33) (Flat.len _) (cl1 (n := 16) (m := 17) (Flat.len _) (cl1 (n := 16) (m := 1) (Flat.len _) (cl1 (n := 1) (m := 0) rfl cl0))))))))) ?_; intro w a hM hE
    refine Zf ?_
    have hr := Option.some.inj hF52
    subst hr
    have hq62 : YR Try.prog _ _ (.cell 2 103) _ := Z6 hE rfl VP rfl (hM.rawAt (pre := [])) (ZR (cl1 (n := 1) (m := 289) rfl (cl1 (n := 256) (m := 33) (Flat.len _) (cl1 (n := 16) (m := 17) (Flat.len _) (cl1 (n := 16) (m := 1) (Flat.len _) (cl1 (n := 1) (m := 0) rfl cl0)))))) rfl
    have hM := M.fst (l := []) hM
    exact wp_ret (Zy hE rfl hq62 ⟨_, rfl, rfl, hM.kept⟩)
noncomputable def Uk (s8 : (Vector (Vector UInt8 4) 4) × Int) : Option (Fl ((Vector (Vector UInt8 4) 4) × Int) (Vector (Vector UInt8 4) 4)) :=
 if (decide (s8.2 < 4)) = true then ((ZM s8.1 s8.2).bind fun x14 => (ZM x14 s8.2).bind fun x17 => some (Fl.nx ((s8.1.setIfInBounds (s8.2).toNat (x14.setIfInBounds (s8.2).toNat 1)), wr (s8.2 + 1)))) else (some (Fl.ex s8.1))
noncomputable def Wr : Option ((Vector (Vector UInt8 4) 4)) :=
 (ZF (Uk) ((Vector.replicate 4 (Vector.replicate 4 (0 : UInt8))), 0) : Option ((Vector (Vector UInt8 4) 4))).bind fun j5 => some j5
theorem c_impl_UnitMatrix (w0 : World)  (r : (Vector (Vector UInt8 4) 4)) (hF : Wr  = some r) :
  Calls Try.prog 126 [].toArray w0 (fun en w' => ∃ v, en = .returned v ∧ (v = (Value.agg (Flat.enc r).toArray) ∧ Kept (Old w0) w0 w')) := by
 refine ZC (n := 13) Try.func126 rfl rfl (Nat.le_of_ble_eq_true rfl) rfl ?_
 intro a hE
 have hM := M.start w0
 unfold Wr at hF
 refine Zc (ZO hE hM Za (dl rfl) VM ?_); intro b1 w a hM hE
 refine Zf (Zc (Xq (parts := []) (vs := []) (cs := Flat.enc (Vector.replicate 4 (Vector.replicate 4 (0 : UInt8)))) hE Za (dl rfl) rfl rfl VM rfl Va YM ?_)); intro a hE
 refine ZO hE hM Za (dl rfl) VM ?_; intro b3 w a hM hE
 refine Zs (seg := Flat.enc (Vector.replicate 4 (Vector.replicate 4 (0 : UInt8)))) (cs' := Flat.enc (Vector.replicate 4 (Vector.replicate 4 (0 : UInt8)))) hE hM Za rfl rfl rfl VM (Flat.len _) (zle flq) (Flat.cell _) (Zq flq) ?_; intro w a hM hE
 refine Zf (wp_seq (Zc (Zd hE Za (dl rfl) rfl ?_))); intro a hE
 refine Zf ?_
 obtain ⟨j5, hl6, hF7⟩ := bind_some hF
 refine ZV (fun a w => Env 13 a [(0, (ptr b1 0)), (1, (ptr b3 0))] ∧ M (Old w0) w0 w [raw b3 (Flat.enc j5), raw b1 (Flat.enc (Vector.replicate 4 (Vector.replicate 4 (0 : UInt8))))]) ?_ ?_
 ·skip
  refine wp_block ?_
  refine ZN (fun (s8 : (Vector (Vector UInt8 4) 4) × Int) a w => Env 13 a [(0, (ptr b1 0)), (1, (ptr b3 0)), (4, (vI s8.2))] ∧ M (Old w0) w0 w [raw b3 (Flat.enc s8.1), raw b1 (Flat.enc (Vector.replicate 4 (Vector.replicate 4 (0 : UInt8))))]) hl6 ⟨hE.sub ⟨rfl, rfl, rfl, trivial⟩, hM⟩ ?_
  rintro s8 a w ⟨hE, hM⟩ o11 hs9 hx10
  unfold Uk at hs9
  refine Zc (Zh hE Za (dl rfl) rfl rfl rfl ?_); intro a hE
  refine Zf (wp_seq ?_)
  refine Zt hE rfl ?_ ?_
  ·intro hb12
   have hs9 := ZA hs9 hb12
   refine wp_skip (Zx (wp_seq (wp_block (Zc (Zd hE Za (dl rfl) rfl ?_))))); intro a hE
   refine Ze hE Za (dl rfl) rfl ?_; intro a hE
   refine Zf (wp_region_lit (Zd hE Za (dl rfl) rfl ?_)); intro a hE
   refine Zd hE Za (dl rfl) rfl ?_; intro a hE
   obtain ⟨x14, e15, hs9⟩ := bind_some hs9
   have hi13 := Zi e15
   refine Zm hE Za (dl rfl) rfl rfl Try.underlying100 Va hi13.1 ?_; intro a hE
   obtain ⟨x17, e18, hs9⟩ := bind_some hs9
   have hi16 := Zi e18
   refine Zm hE Za (dl rfl) rfl rfl Try.underlying98 ty5 hi16.1 ?_; intro a hE
   refine Zs (seg := [(vB 1)]) (cs' := Flat.enc (s8.1.setIfInBounds (s8.2).toNat (x14.setIfInBounds (s8.2).toNat 1))) hE hM Za rfl rfl rfl ty5 rfl (Vh (o' := 0 + (s8.2).toNat * 1) hi13 (ZT (v := x14) (x := 1) hi16.1) (by first | omega | (simp only [Flat.n] <;> omega))) (Flat.cell (1 : UInt8)) (Wm (o' := 0 + (s8.2).toNat * 1) hi13 (ZT (v := x14) (x := 1) hi16.1) (ZI (v := x14) (x := 1) hi16.1) (by first | omega | (simp only [Flat.n] <;> omega))) ?_; intro w a hM hE
   refine Zj (Yk (Zx (wp_region_lit (Zh hE Za (dl rfl) rfl rfl rfl ?_)))); intro a hE
   refine Zd hE Za (dl rfl) rfl ?_; intro a hE
   refine Zj (Zl ?_)
   exact ⟨_, (Option.some.inj hs9).symm, hE.sub ⟨rfl, rfl, rfl, trivial⟩, hM⟩
  ·intro hb12
   have hs9 := Zz hs9 hb12
   refine wp_exit (Zr (Zr (Yj ?_)))
   have ht19 := hx10 _ (Option.some.inj hs9).symm
   subst ht19
   refine Zl ?_
   exact ⟨hE.sub ⟨rfl, rfl, trivial⟩, hM⟩
 ·skip
  rintro a w ⟨hE, hM⟩
  refine Zx (Zc (Zp (cs := Flat.enc j5) hE Za (dl rfl) rfl VM rfl (hM.rawAt (pre := [])) (Flat.len _) ?_)); intro a hE
  have hM := hM.pull (pre := [_])
  refine Zs (seg := Flat.enc j5) (cs' := Flat.enc j5) hE hM Za rfl rfl rfl VM (Flat.len _) (zle flq) (Flat.cell _) (Zq flq) ?_; intro w a hM hE
  refine Zf ?_
  have hr := Option.some.inj hF7
  subst hr
  have hq20 : YR Try.prog _ _ (.cell 0 100) _ := Z6 hE rfl VM rfl (hM.rawAt (pre := [])) (Flat.len _) rfl
  have hM := M.fst (l := []) hM
  exact wp_ret (Zy hE rfl hq20 ⟨_, rfl, rfl, hM.kept⟩)
noncomputable def VN (s13 : (Vector (Vector UInt8 4) 4) × (Vector (Vector UInt8 4) 4) × Int × UInt8) (s21 : Int) : Option (Fl Int Int) :=
 (if (decide (s21 < 4)) = true then ((ZM s13.1 s21).bind fun x30 => (ZM x30 s13.2.2.1).bind fun x33 => some (x33 == 0)) else (some false) : Option (Bool)).bind fun j25 => if j25 = true then (some (Fl.nx (wr (s21 + 1)))) else (some (Fl.ex s21))
noncomputable def Xo (p0 : Int) (s13 : (Vector (Vector UInt8 4) 4) × (Vector (Vector UInt8 4) 4) × Int × UInt8) (r90 : UInt8) (s95 : (Vector (Vector UInt8 4) 4) × (Vector (Vector UInt8 4) 4) × Int) : Option (Fl ((Vector (Vector UInt8 4) 4) × (Vector (Vector UInt8 4) 4) × Int) ((Vector (Vector UInt8 4) 4) × (Vector (Vector UInt8 4) 4))) :=
 if (decide (s95.2.2 < 4)) = true then ((ZM s95.1 s13.2.2.1).bind fun x102 => (ZM x102 s95.2.2).bind fun x105 => (Z3 p0 x105 r90).bind fun r107 => (ZM s95.2.1 s13.2.2.1).bind fun x110 => (ZM x110 s95.2.2).bind fun x113 => (Z3 p0 x113 r90).bind fun r115 => (ZM s95.1 s13.2.2.1).bind fun x118 => (ZM x118 s95.2.2).bind fun x121 => (ZM s95.2.1 s13.2.2.1).bind fun x124 => (ZM x124 s95.2.2).bind fun x127 => some (Fl.nx ((s95.1.setIfInBounds (s13.2.2.1).toNat (x118.setIfInBounds (s95.2.2).toNat r107)), (s95.2.1.setIfInBounds (s13.2.2.1).toNat (x124.setIfInBounds (s95.2.2).toNat r115)), wr (s95.2.2 + 1)))) else (some (Fl.ex (s95.1, s95.2.1)))
noncomputable def Xs (p0 : Int) (s13 : (Vector (Vector UInt8 4) 4) × (Vector (Vector UInt8 4) 4) × Int × UInt8) (s133 : (Vector (Vector UInt8 4) 4) × (Vector (Vector UInt8 4) 4) × Int) (x145 : UInt8) (s160 : (Vector (Vector UInt8 4) 4) × (Vector (Vector UInt8 4) 4) × Int) : Option (Fl ((Vector (Vector UInt8 4) 4) × (Vector (Vector UInt8 4) 4) × Int) ((Vector (Vector UInt8 4) 4) × (Vector (Vector UInt8 4) 4))) :=
 if (decide (s160.2.2 < 4)) = true then (((ZM s160.1 s133.2.2).bind fun x170 => (ZM x170 s160.2.2).bind fun x173 => (ZM s160.1 s13.2.2.1).bind fun x176 => (ZM x176 s160.2.2).bind fun x179 => (Z3 p0 x145 x179).bind fun r181 => (ZM s160.1 s133.2.2).bind fun x184 => (ZM x184 s160.2.2).bind fun x187 => some (s160.1.setIfInBounds (s133.2.2).toNat (x184.setIfInBounds (s160.2.2).toNat (x173 ^^^ r181))) : Option ((Vector (Vector UInt8 4) 4))).bind fun j165 => (ZM s160.2.1 s133.2.2).bind fun x192 => (ZM x192 s160.2.2).bind fun x195 => (ZM s160.2.1 s13.2.2.1).bind fun x198 => (ZM x198 s160.2.2).bind fun x201 => (Z3 p0 x145 x201).bind fun r203 => (ZM s160.2.1 s133.2.2).bind fun x206 => (ZM x206 s160.2.2).bind fun x209 => some (Fl.nx (j165, (s160.2.1.setIfInBounds (s133.2.2).toNat (x206.setIfInBounds (s160.2.2).toNat (x195 ^^^ r203))), wr (s160.2.2 + 1)))) else (some (Fl.ex (s160.1, s160.2.1)))
noncomputable def Xp (p0 : Int) (s13 : (Vector (Vector UInt8 4) 4) × (Vector (Vector UInt8 4) 4) × Int × UInt8) (s133 : (Vector (Vector UInt8 4) 4) × (Vector (Vector UInt8 4) 4) × Int) : Option (Fl ((Vector (Vector UInt8 4) 4) × (Vector (Vector UInt8 4) 4) × Int) ((Vector (Vector UInt8 4) 4) × (Vector (Vector UInt8 4) 4))) :=
 if (decide (s133.2.2 < 4)) = true then (((ZM s133.1 s133.2.2).bind fun x142 => (ZM x142 s13.2.2.1).bind fun x145 => (if (s133.2.2 != s13.2.2.1) = true then (some (x145 != 0)) else (some false) : Option (Bool)).bind fun j147 => (if j147 = true then ((ZF (Xs p0 s13 s133 x145) (s133.1, s133.2.1, 0) : Option ((Vector (Vector UInt8 4) 4) × (Vector (Vector UInt8 4) 4))).bind fun j157 => some (j157.1, j157.2)) else (some (s133.1, s133.2.1)) : Option ((Vector (Vector UInt8 4) 4) × (Vector (Vector UInt8 4) 4))).bind fun j153 => some (j153.1, j153.2) : Option ((Vector (Vector UInt8 4) 4) × (Vector (Vector UInt8 4) 4))).bind fun j138 => some (Fl.nx (j138.1, j138.2, wr (s133.2.2 + 1)))) else (some (Fl.ex (s133.1, s133.2.1)))
noncomputable def Yq (p0 : Int) (s13 : (Vector (Vector UInt8 4) 4) × (Vector (Vector UInt8 4) 4) × Int × UInt8) : Option (Fl ((Vector (Vector UInt8 4) 4) × (Vector (Vector UInt8 4) 4) × Int × UInt8) (Fl ((Vector (Vector UInt8 4) 4) × UInt8) (UInt8 × (Vector (Vector UInt8 4) 4)))) :=
 if (decide (s13.2.2.1 < 4)) = true then ((ZF (VN s13) s13.2.2.1 : Option (Int)).bind fun j18 => if (j18 == 4) = true then (some (Fl.ex (Fl.ex (0, (Vector.replicate 4 (Vector.replicate 4 (0 : UInt8))))))) else (((ZM s13.1 s13.2.2.1).bind fun x47 => (ZM s13.1 j18).bind fun x50 => (ZM s13.1 j18).bind fun x53 => (ZM (s13.1.setIfInBounds (j18).toNat x47) s13.2.2.1).bind fun x56 => some ((s13.1.setIfInBounds (j18).toNat x47).setIfInBounds (s13.2.2.1).toNat x50) : Option ((Vector (Vector UInt8 4) 4))).bind fun j42 => ((ZM s13.2.1 s13.2.2.1).bind fun x64 => (ZM s13.2.1 j18).bind fun x67 => (ZM s13.2.1 j18).bind fun x70 => (ZM (s13.2.1.setIfInBounds (j18).toNat x64) s13.2.2.1).bind fun x73 => some ((s13.2.1.setIfInBounds (j18).toNat x64).setIfInBounds (s13.2.2.1).toNat x67) : Option ((Vector (Vector UInt8 4) 4))).bind fun j59 => (ZM j42 s13.2.2.1).bind fun x77 => (ZM x77 s13.2.2.1).bind fun x80 => (Z3 p0 s13.2.2.2 x80).bind fun r82 => (ZM j42 s13.2.2.1).bind fun x85 => (ZM x85 s13.2.2.1).bind fun x88 => (Yc p0 x88).bind fun r90 => (ZF (Xo p0 s13 r90) (j42, j59, 0) : Option ((Vector (Vector UInt8 4) 4) × (Vector (Vector UInt8 4) 4))).bind fun j92 => (ZF (Xp p0 s13) (j92.1, j92.2, 0) : Option ((Vector (Vector UInt8 4) 4) × (Vector (Vector UInt8 4) 4))).bind fun j130 => some (Fl.nx (j130.1, j130.2, wr (s13.2.2.1 + 1), r82)))) else (some (Fl.ex (Fl.nx (s13.2.1, s13.2.2.2))))
noncomputable def Y0 (p0 : Int) (p1 : (Vector (Vector UInt8 4) 4)) : Option (UInt8 × (Vector (Vector UInt8 4) 4)) :=
 (Wr).bind fun r5 => (ZF (Yq p0) (p1, r5, 0, 1) : Option (Fl ((Vector (Vector UInt8 4) 4) × UInt8) (UInt8 × (Vector (Vector UInt8 4) 4)))).bind fun j9 => j9.el (fun s12 => (some (s12.1, s12.2) : Option ((Vector (Vector UInt8 4) 4) × UInt8)).bind fun j217 => some (j217.2, j217.1)) (fun r => some r)
theorem c_impl_field_invert (w0 : World) (p0 : Int) (p1 : (Vector (Vector UInt8 4) 4)) (r : UInt8 × (Vector (Vector UInt8 4) 4)) (hF : Y0 p0 p1 = some r) :
  Calls Try.prog 107 [(vI p0), (Value.agg (Flat.enc p1).toArray)].toArray w0 (fun en w' => ∃ v, en = .returned v ∧ (v = (Value.tuple [(vB r.1), (Value.agg (Flat.enc r.2).toArray)].toArray) ∧ Kept (Old w0) w0 w')) := by
 refine ZC (n := 153) Try.func107 rfl rfl (Nat.le_of_ble_eq_true rfl) rfl ?_
 intro a hE
 have hM := M.start w0
 unfold Y0 at hF
 refine Zc (Z4 (cs := Flat.enc p1) hE hM Za (dl rfl) rfl rfl ?_); intro b1 w a hM hE
 refine Ze hE Za (dl rfl) rfl ?_; intro a hE
 refine ZO hE hM Za (dl rfl) VM ?_; intro b3 w a hM hE
 refine Zf (Zc ?_)
 obtain ⟨r5, e6, hF⟩ := bind_some hF
 refine Zw (vs := []) hE Za (dl rfl) rfl cb126 (c_impl_UnitMatrix _  r5 e6) ?_
 rintro v w a ⟨rfl, hK⟩ hE
 have hM := hM.keep hK
 refine ZO hE hM Za (dl rfl) VM ?_; intro b7 w a hM hE
 refine Zs (seg := Flat.enc r5) (cs' := Flat.enc r5) hE hM Za rfl rfl rfl VM (Flat.len _) (zle flq) (Flat.cell _) (Zq flq) ?_; intro w a hM hE
 refine Ze hE Za (dl rfl) rfl ?_; intro a hE
 refine Zf (wp_seq (Zc (Zd hE Za (dl rfl) rfl ?_))); intro a hE
 refine Zf ?_
 obtain ⟨j9, hl10, hF11⟩ := bind_some hF
 refine ZV (fun a w => ∃ s12 : (Vector (Vector UInt8 4) 4) × UInt8, j9 = Fl.nx s12 ∧ Env 153 a [(5, (ptr b3 0)), (6, (ptr b7 0)), (7, (vB s12.2))] ∧ M (Old w0) w0 w [raw b7 (Flat.enc s12.1), raw b3 (Flat.enc (Vector.replicate 4 (Vector.replicate 4 (0 : UInt8))))]) ?_ ?_
 ·skip
  refine wp_block ?_
  refine ZN (fun (s13 : (Vector (Vector UInt8 4) 4) × (Vector (Vector UInt8 4) 4) × Int × UInt8) a w => Env 153 a [(0, (vI p0)), (3, (ptr b1 0)), (5, (ptr b3 0)), (6, (ptr b7 0)), (7, (vB s13.2.2.2)), (16, (vI s13.2.2.1))] ∧ M (Old w0) w0 w [raw b7 (Flat.enc s13.2.1), raw b3 (Flat.enc (Vector.replicate 4 (Vector.replicate 4 (0 : UInt8)))), raw b1 (Flat.enc s13.1)]) hl10 ⟨hE.sub ⟨rfl, rfl, rfl, rfl, rfl, rfl, trivial⟩, hM⟩ ?_
  rintro s13 a w ⟨hE, hM⟩ o16 hs14 hx15
  unfold Yq at hs14
  refine Zc (Zh hE Za (dl rfl) rfl rfl rfl ?_); intro a hE
  refine Zf (wp_seq ?_)
  refine Zt hE rfl ?_ ?_
  ·intro hb17
   have hs14 := ZA hs14 hb17
   refine wp_skip (Zx (wp_seq (wp_block (Zc (Zd hE Za (dl rfl) rfl ?_))))); intro a hE
   refine Ze hE Za (dl rfl) rfl ?_; intro a hE
   refine Zf (Zc (Zd hE Za (dl rfl) rfl ?_)); intro a hE
   refine Ze hE Za (dl rfl) rfl ?_; intro a hE
   refine Zf ?_
   obtain ⟨j18, hl19, hF20⟩ := bind_some hs14
   refine ZS (fun a w => Env 153 a [(0, (vI p0)), (3, (ptr b1 0)), (5, (ptr b3 0)), (6, (ptr b7 0)), (7, (vB s13.2.2.2)), (8, (vI s13.2.2.1)), (9, (vI j18)), (16, (vI s13.2.2.1))] ∧ M (Old w0) w0 w [raw b7 (Flat.enc s13.2.1), raw b3 (Flat.enc (Vector.replicate 4 (Vector.replicate 4 (0 : UInt8)))), raw b1 (Flat.enc s13.1)]) ?_ ?_
   ·skip
    refine wp_block ?_
    refine ZN (fun (s21 : Int) a w => Env 153 a [(0, (vI p0)), (3, (ptr b1 0)), (5, (ptr b3 0)), (6, (ptr b7 0)), (7, (vB s13.2.2.2)), (8, (vI s13.2.2.1)), (9, (vI s21)), (16, (vI s13.2.2.1))] ∧ M (Old w0) w0 w [raw b7 (Flat.enc s13.2.1), raw b3 (Flat.enc (Vector.replicate 4 (Vector.replicate 4 (0 : UInt8)))), raw b1 (Flat.enc s13.1)]) hl19 ⟨hE.sub ⟨rfl, rfl, rfl, rfl, rfl, rfl, rfl, rfl, trivial⟩, hM⟩ ?_
    rintro s21 a w ⟨hE, hM⟩ o24 hs22 hx23
    unfold VN at hs22
    refine wp_seq ?_
    obtain ⟨j25, hl26, hF27⟩ := bind_some hs22
    refine ZS (fun a w => Env 153 a [(0, (vI p0)), (3, (ptr b1 0)), (5, (ptr b3 0)), (6, (ptr b7 0)), (7, (vB s13.2.2.2)), (8, (vI s13.2.2.1)), (9, (vI s21)), (16, (vI s13.2.2.1)), (29, (vT j25))] ∧ M (Old w0) w0 w [raw b7 (Flat.enc s13.2.1), raw b3 (Flat.enc (Vector.replicate 4 (Vector.replicate 4 (0 : UInt8)))), raw b1 (Flat.enc s13.1)]) ?_ ?_
    ·skip
     refine wp_region_lit (Zd hE Za (dl rfl) rfl ?_); intro a hE
     refine Zh hE Za (dl rfl) rfl rfl rfl ?_; intro a hE
     refine Zd hE Za (dl rfl) rfl ?_; intro a hE
     refine WE (decide (s21 < 4)) (fun hb28 => ?_) (fun hb28 => ?_)
     ·have hl26 := ZA hl26 hb28
      refine Zd hE (Zk hE rfl (lkb rfl hb28)) (by decide) rfl ?_; intro a hE
      refine Zd hE (Zk hE rfl (lkb rfl hb28)) (by decide) rfl ?_; intro a hE
      obtain ⟨x30, e31, hl26⟩ := bind_some hl26
      have hi29 := Zi e31
      refine Zm hE (Zk hE rfl (lkb rfl hb28)) (by decide) rfl rfl Try.underlying100 Va hi29.1 ?_; intro a hE
      obtain ⟨x33, e34, hl26⟩ := bind_some hl26
      have hi32 := Zi e34
      refine Zm hE (Zk hE rfl (lkb rfl hb28)) (by decide) rfl rfl Try.underlying98 ty5 hi32.1 ?_; intro a hE
      refine Zv (v := (vB x33)) hE (Zk hE rfl (lkb rfl hb28)) (by decide) rfl ty5 rfl (At.vec (At.vec (hM.rawAt (pre := [_, _])) hi29.2) hi32.2) ?_; intro a hE
      refine Zh hE (Zk hE rfl (lkb rfl hb28)) (by decide) rfl rfl (bB_eql x33 0) ?_; intro a hE
      refine Yn hE Za (dl rfl) (lkb rfl hb28) rfl ?_; intro a hE
      refine Zj ?_
      have ht35 := Option.some.inj hl26
      subst ht35
      refine Zl ?_
      exact ⟨hE.sub ⟨rfl, rfl, rfl, rfl, rfl, rfl, rfl, rfl, rfl, trivial⟩, hM⟩
     ·have hl26 := Zz hl26 hb28
      refine Zn hE rfl (lkb rfl hb28) rfl (by decide) ?_; intro a hE
      refine Zn hE rfl (lkb rfl hb28) rfl (by decide) ?_; intro a hE
      refine Zn hE rfl (lkb rfl hb28) rfl (by decide) ?_; intro a hE
      refine Zn hE rfl (lkb rfl hb28) rfl (by decide) ?_; intro a hE
      refine Zn hE rfl (lkb rfl hb28) rfl (by decide) ?_; intro a hE
      refine Zn hE rfl (lkb rfl hb28) rfl (by decide) ?_; intro a hE
      refine YP hE Za (dl rfl) (lkb rfl hb28) rfl ?_; intro a hE
      refine Zj ?_
      have ht36 := Option.some.inj hl26
      subst ht36
      refine Zl ?_
      exact ⟨hE.sub ⟨rfl, rfl, rfl, rfl, rfl, rfl, rfl, rfl, rfl, trivial⟩, hM⟩
    ·skip
     rintro a w ⟨hE, hM⟩
     refine Zt hE rfl ?_ ?_
     ·intro hb37
      have hF27 := ZA hF27 hb37
      refine wp_skip (Zx (wp_block (wp_region_lit (Zd hE Za (dl rfl) rfl ?_)))); intro a hE
      refine Zh hE Za (dl rfl) rfl rfl rfl ?_; intro a hE
      refine Ze hE Za (dl rfl) rfl ?_; intro a hE
      refine Zj (Yk (Zl ?_))
      exact ⟨_, (Option.some.inj hF27).symm, hE.sub ⟨rfl, rfl, rfl, rfl, rfl, rfl, rfl, rfl, trivial⟩, hM⟩
     ·intro hb37
      have hF27 := Zz hF27 hb37
      refine wp_exit (Zr (Zr (Yj ?_)))
      have ht38 := hx23 _ (Option.some.inj hF27).symm
      subst ht38
      refine Zl ?_
      exact ⟨hE.sub ⟨rfl, rfl, rfl, rfl, rfl, rfl, rfl, rfl, trivial⟩, hM⟩
   ·skip
    rintro a w ⟨hE, hM⟩
    refine wp_seq (Zc (Zd hE Za (dl rfl) rfl ?_)); intro a hE
    refine Zh hE Za (dl rfl) rfl rfl rfl ?_; intro a hE
    refine Zf ?_
    refine Zt hE rfl ?_ ?_
    ·intro hb39
     have hF20 := ZA hF20 hb39
     refine Zc (Xq (parts := []) (vs := []) (cs := Flat.enc (Vector.replicate 4 (Vector.replicate 4 (0 : UInt8)))) hE Za (dl rfl) rfl rfl VM rfl Va YM ?_); intro a hE
     refine Ze hE Za (dl rfl) rfl ?_; intro a hE
     have hM := hM.pull (pre := [_])
     refine Zs (seg := Flat.enc (Vector.replicate 4 (Vector.replicate 4 (0 : UInt8)))) (cs' := Flat.enc (Vector.replicate 4 (Vector.replicate 4 (0 : UInt8)))) hE hM Za rfl rfl rfl VM (Flat.len _) (zle flq) (Flat.cell _) (Zq flq) ?_; intro w a hM hE
     refine Zf ?_
     have ht40 := hx15 _ (Option.some.inj hF20).symm
     subst ht40
     have hr := Option.some.inj hF11
     subst hr
     have hq41 : YR Try.prog _ _ (.cell 5 100) _ := Z6 hE rfl VM rfl (hM.rawAt (pre := [])) (Flat.len _) rfl
     have hM := M.fst (l := []) hM
     exact wp_ret (ZL (W0 (ZL (ZL (W0 (ZL (ZL (k_ret2 hE rfl (Zu hE rfl) hq41 ⟨_, rfl, rfl, hM.kept⟩))))))))
    ·intro hb39
     have hF20 := Zz hF20 hb39
     refine wp_skip (Zx ?_)
     obtain ⟨j42, hl43, hF44⟩ := bind_some hF20
     refine ZS (fun a w => Env 153 a [(0, (vI p0)), (3, (ptr b1 0)), (5, (ptr b3 0)), (6, (ptr b7 0)), (7, (vB s13.2.2.2)), (8, (vI s13.2.2.1)), (9, (vI j18)), (16, (vI s13.2.2.1))] ∧ M (Old w0) w0 w [raw b7 (Flat.enc s13.2.1), raw b3 (Flat.enc (Vector.replicate 4 (Vector.replicate 4 (0 : UInt8)))), raw b1 (Flat.enc j42)]) ?_ ?_
     ·skip
      have hM := hM.pull (pre := [_, _])
      obtain ⟨x47, e48, hl43⟩ := bind_some hl43
      have hi46 := Zi e48
      obtain ⟨x50, e51, hl43⟩ := bind_some hl43
      have hi49 := Zi e51
      obtain ⟨x53, e54, hl43⟩ := bind_some hl43
      have hi52 := Zi e54
      refine WA (n := 153) (hd := [_, _, _, _, _, _, _, _, _, _]) (tl := [_, _]) YB rfl rfl [35, 36, 37, 38, 39, 40, 41, 42, 43, 162] (by decide) (fun D u w => M (Old w0) w0 w ([raw b7 (Flat.enc s13.2.1), raw b3 (Flat.enc (Vector.replicate 4 (Vector.replicate 4 (0 : UInt8))))] ++ qL ([mkT 9 (raw b1 (Flat.enc s13.1)) (raw b1 (Flat.enc (s13.1.setIfInBounds (j18).toNat x47)))] : Mk) D u) ∧ GOk ([([], fun us v => v = (vI j18)), ([], fun us v => v = (vI s13.2.2.1)), ([], fun us v => v = (vI s13.2.2.1)), ([], fun us v => v = (ptr b1 (0 + (s13.2.2.1).toNat * 4))), ([], fun us v => v = (Value.agg (Flat.enc x47).toArray)), ([], fun us v => v = (vI j18)), ([], fun us v => v = (ptr b1 (0 + (j18).toNat * 4))), ([], fun us v => v = (Value.agg (Flat.enc x50).toArray)), ([], fun us v => v = (ptr b1 (0 + (j18).toNat * 4))), ([], fun us v => True)] : Gs) D u) hE (fun u => ⟨M.qT (M.q0 hM.drew u), gok0⟩) (ZH (Zb ?_ (Zb ?_ (Zb ?_ (Zb ?_ (Zb ?_ (Zb ?_ (Zb ?_ (Zb ?_ (Zb ?_ (Zb ?_ ZD))))))))))) ?_
      ·intro a w ux45 D hE hI hD hdc hp
       have hM0 := hI.1
       have hM := hI.1
       have hM := hM.togA (pre := [_, _]) (Bool.eq_false_iff.2 fun hx => Bool.noConfusion (hD.symm.trans (hdc 9 _ _ rfl (List.mem_of_getElem? (i := 2) rfl) rfl hx)))
       exact Zd hE Za (dl rfl) rfl fun a hE => ⟨_, _, rfl, hE, M.qKeep hM0 rfl, hI.2.put hD rfl ZE rfl⟩
      ·intro a w ux45 D hE hI hD hdc hp
       have hM0 := hI.1
       exact Zd hE Za (dl rfl) rfl fun a hE => ⟨_, _, rfl, hE, M.qKeep hM0 rfl, hI.2.put hD rfl ZE rfl⟩
      ·intro a w ux45 D hE hI hD hdc hp
       have hM0 := hI.1
       have hM := hI.1
       have hM := hM.togA (pre := [_, _]) (Bool.eq_false_iff.2 fun hx => Bool.noConfusion (hD.symm.trans (hdc 9 _ _ rfl (List.mem_of_getElem? (i := 4) rfl) rfl hx)))
       exact Zd hE Za (dl rfl) rfl fun a hE => ⟨_, _, rfl, hE, M.qKeep hM0 rfl, hI.2.put hD rfl ZE rfl⟩
      ·intro a w ux45 D hE hI hD hdc hp
       have d2 : D 2 = true := hp 0 _ rfl rfl
       have g2 := hI.2 2 d2 _ rfl
       have f2 : ux45 2 = (vI s13.2.2.1) := g2.2
       have hM0 := hI.1
       have hM := hI.1
       have hM := hM.togA (pre := [_, _]) (Bool.eq_false_iff.2 fun hx => Bool.noConfusion (hD.symm.trans (hdc 9 _ _ rfl (List.mem_of_getElem? (i := 5) rfl) rfl hx)))
       exact Zm hE Za (dl rfl) rfl (lk rfl f2) Try.underlying100 Va hi46.1 fun a hE => ⟨_, _, rfl, hE, M.qKeep hM0 rfl, hI.2.put hD rfl ZE rfl⟩
      ·intro a w ux45 D hE hI hD hdc hp
       have d3 : D 3 = true := hp 0 _ rfl rfl
       have g3 := hI.2 3 d3 _ rfl
       have f3 : ux45 3 = (ptr b1 (0 + (s13.2.2.1).toNat * 4)) := g3.2
       have hM0 := hI.1
       have hM := hI.1
       have hM := hM.togA (pre := [_, _]) (Bool.eq_false_iff.2 fun hx => Bool.noConfusion (hD.symm.trans (hdc 9 _ _ rfl (List.mem_of_getElem? (i := 1) rfl) rfl hx)))
       exact Zp (cs := Flat.enc x47) hE Za (dl rfl) (lk rfl f3) Va rfl (At.vec (hM.rawAt (pre := [_, _])) hi46.2) (Flat.len _) fun a hE => ⟨_, _, rfl, hE, M.qKeep hM0 rfl, hI.2.put hD rfl ZE rfl⟩
      ·intro a w ux45 D hE hI hD hdc hp
       have hM0 := hI.1
       exact Zd hE Za (dl rfl) rfl fun a hE => ⟨_, _, rfl, hE, M.qKeep hM0 rfl, hI.2.put hD rfl ZE rfl⟩
      ·intro a w ux45 D hE hI hD hdc hp
       have d5 : D 5 = true := hp 0 _ rfl rfl
       have g5 := hI.2 5 d5 _ rfl
       have f5 : ux45 5 = (vI j18) := g5.2
       have hM0 := hI.1
       have hM := hI.1
       have hM := hM.togA (pre := [_, _]) (Bool.eq_false_iff.2 fun hx => Bool.noConfusion (hD.symm.trans (hdc 9 _ _ rfl (List.mem_of_getElem? (i := 8) rfl) rfl hx)))
       exact Zm hE Za (dl rfl) rfl (lk rfl f5) Try.underlying100 Va hi49.1 fun a hE => ⟨_, _, rfl, hE, M.qKeep hM0 rfl, hI.2.put hD rfl ZE rfl⟩
      ·intro a w ux45 D hE hI hD hdc hp
       have d6 : D 6 = true := hp 0 _ rfl rfl
       have g6 := hI.2 6 d6 _ rfl
       have f6 : ux45 6 = (ptr b1 (0 + (j18).toNat * 4)) := g6.2
       have hM0 := hI.1
       have hM := hI.1
       have hM := hM.togA (pre := [_, _]) (Bool.eq_false_iff.2 fun hx => Bool.noConfusion (hD.symm.trans (hdc 9 _ _ rfl (List.mem_of_getElem? (i := 9) rfl) rfl hx)))
       exact Zp (cs := Flat.enc x50) hE Za (dl rfl) (lk rfl f6) Va rfl (At.vec (hM.rawAt (pre := [_, _])) hi49.2) (Flat.len _) fun a hE => ⟨_, _, rfl, hE, M.qKeep hM0 rfl, hI.2.put hD rfl ZE rfl⟩
      ·intro a w ux45 D hE hI hD hdc hp
       have d0 : D 0 = true := hp 0 _ rfl rfl
       have g0 := hI.2 0 d0 _ rfl
       have f0 : ux45 0 = (vI j18) := g0.2
       have hM0 := hI.1
       have hM := hI.1
       have hM := hM.togA (pre := [_, _]) (Bool.eq_false_iff.2 fun hx => Bool.noConfusion (hD.symm.trans (hdc 9 _ _ rfl (List.mem_of_getElem? (i := 0) rfl) rfl hx)))
       exact Zm hE Za (dl rfl) rfl (lk rfl f0) Try.underlying100 Va hi52.1 fun a hE => ⟨_, _, rfl, hE, M.qKeep hM0 rfl, hI.2.put hD rfl ZE rfl⟩
      ·intro a w ux45 D hE hI hD hdc hp
       have d4 : D 4 = true := hp 1 _ rfl rfl
       have g4 := hI.2 4 d4 _ rfl
       have f4 : ux45 4 = (Value.agg (Flat.enc x47).toArray) := g4.2
       have d8 : D 8 = true := hp 0 _ rfl rfl
       have g8 := hI.2 8 d8 _ rfl
       have f8 : ux45 8 = (ptr b1 (0 + (j18).toNat * 4)) := g8.2
       have hM0 := hI.1
       have hM := hI.1
       have hM := hM.togA (pre := [_, _]) hD
       have hM := hM.pull (pre := [_, _])
       refine Zs (seg := Flat.enc x47) (cs' := Flat.enc (s13.1.setIfInBounds (j18).toNat x47)) hE hM Za (lk rfl f8) (lk rfl f4) rfl Va (Flat.len _) (ZT (v := s13.1) (x := x47) hi52.1) (Flat.cell _) (ZI (v := s13.1) (x := x47) hi52.1) ?_; intro w a hM hE
       exact ⟨undef, _, rfl, Env.dummy hE (by decide), M.qTog (mk1 := []) (mk2 := []) hM rfl, hI.2.put hD rfl ZE trivial⟩
      ·intro a w ux45 D hE hI hall
       have hM := hI.1
       have d0 : D 0 = true := hall 0 (by decide)
       have d1 : D 1 = true := hall 1 (by decide)
       have d2 : D 2 = true := hall 2 (by decide)
       have d3 : D 3 = true := hall 3 (by decide)
       have d4 : D 4 = true := hall 4 (by decide)
       have d5 : D 5 = true := hall 5 (by decide)
       have d6 : D 6 = true := hall 6 (by decide)
       have d7 : D 7 = true := hall 7 (by decide)
       have d8 : D 8 = true := hall 8 (by decide)
       have d9 : D 9 = true := hall 9 (by decide)
       have f0 : ux45 0 = (vI j18) := (hI.2 0 d0 _ rfl).2
       have f1 : ux45 1 = (vI s13.2.2.1) := (hI.2 1 d1 _ rfl).2
       have f2 : ux45 2 = (vI s13.2.2.1) := (hI.2 2 d2 _ rfl).2
       have f3 : ux45 3 = (ptr b1 (0 + (s13.2.2.1).toNat * 4)) := (hI.2 3 d3 _ rfl).2
       have f4 : ux45 4 = (Value.agg (Flat.enc x47).toArray) := (hI.2 4 d4 _ rfl).2
       have f5 : ux45 5 = (vI j18) := (hI.2 5 d5 _ rfl).2
       have f6 : ux45 6 = (ptr b1 (0 + (j18).toNat * 4)) := (hI.2 6 d6 _ rfl).2
       have f7 : ux45 7 = (Value.agg (Flat.enc x50).toArray) := (hI.2 7 d7 _ rfl).2
       have f8 : ux45 8 = (ptr b1 (0 + (j18).toNat * 4)) := (hI.2 8 d8 _ rfl).2
       have hM := hM.togB (pre := [_, _]) d9
       have hE := hE.sub (e' := [(36, (vI s13.2.2.1)), (42, (Value.agg (Flat.enc x50).toArray)), (0, (vI p0)), (3, (ptr b1 0)), (5, (ptr b3 0)), (6, (ptr b7 0)), (7, (vB s13.2.2.2)), (8, (vI s13.2.2.1)), (9, (vI j18)), (16, (vI s13.2.2.1)), (32, (vI j18)), (33, (vT (j18 == 4)))]) ⟨lk rfl f1, lk rfl f7, rfl, rfl, rfl, rfl, rfl, rfl, rfl, rfl, rfl, rfl, trivial⟩
       obtain ⟨x56, e57, hl43⟩ := bind_some hl43
       have hi55 := Zi e57
       refine Zm hE Za (dl rfl) rfl rfl Try.underlying100 Va hi55.1 ?_; intro a hE
       have hM := hM.pull (pre := [_, _])
       refine Zs (seg := Flat.enc x50) (cs' := Flat.enc ((s13.1.setIfInBounds (j18).toNat x47).setIfInBounds (s13.2.2.1).toNat x50)) hE hM Za rfl rfl rfl Va (Flat.len _) (ZT (v := (s13.1.setIfInBounds (j18).toNat x47)) (x := x50) hi55.1) (Flat.cell _) (ZI (v := (s13.1.setIfInBounds (j18).toNat x47)) (x := x50) hi55.1) ?_; intro w a hM hE
       refine Zj ?_
       have ht58 := Option.some.inj hl43
       subst ht58
       refine Zl ?_
       have hM := hM.pull (pre := [_, _])
       have hM := hM.pull (pre := [_, _])
       exact ⟨hE.sub ⟨rfl, rfl, rfl, rfl, rfl, rfl, rfl, rfl, trivial⟩, hM⟩
     ·skip
      rintro a w ⟨hE, hM⟩
      obtain ⟨j59, hl60, hF61⟩ := bind_some hF44
      refine ZS (fun a w => Env 153 a [(0, (vI p0)), (3, (ptr b1 0)), (5, (ptr b3 0)), (6, (ptr b7 0)), (7, (vB s13.2.2.2)), (8, (vI s13.2.2.1)), (16, (vI s13.2.2.1))] ∧ M (Old w0) w0 w [raw b7 (Flat.enc j59), raw b3 (Flat.enc (Vector.replicate 4 (Vector.replicate 4 (0 : UInt8)))), raw b1 (Flat.enc j42)]) ?_ ?_
      ·skip
       obtain ⟨x64, e65, hl60⟩ := bind_some hl60
       have hi63 := Zi e65
       obtain ⟨x67, e68, hl60⟩ := bind_some hl60
       have hi66 := Zi e68
       obtain ⟨x70, e71, hl60⟩ := bind_some hl60
       have hi69 := Zi e71
       refine WA (n := 153) (hd := [_, _, _, _, _, _, _, _, _, _]) (tl := [_, _]) YB rfl rfl [45, 46, 47, 48, 49, 50, 51, 52, 53, 162] (by decide) (fun D u w => M (Old w0) w0 w ([raw b3 (Flat.enc (Vector.replicate 4 (Vector.replicate 4 (0 : UInt8)))), raw b1 (Flat.enc j42)] ++ qL ([mkT 9 (raw b7 (Flat.enc s13.2.1)) (raw b7 (Flat.enc (s13.2.1.setIfInBounds (j18).toNat x64)))] : Mk) D u) ∧ GOk ([([], fun us v => v = (vI j18)), ([], fun us v => v = (vI s13.2.2.1)), ([], fun us v => v = (vI s13.2.2.1)), ([], fun us v => v = (ptr b7 (0 + (s13.2.2.1).toNat * 4))), ([], fun us v => v = (Value.agg (Flat.enc x64).toArray)), ([], fun us v => v = (vI j18)), ([], fun us v => v = (ptr b7 (0 + (j18).toNat * 4))), ([], fun us v => v = (Value.agg (Flat.enc x67).toArray)), ([], fun us v => v = (ptr b7 (0 + (j18).toNat * 4))), ([], fun us v => True)] : Gs) D u) hE (fun u => ⟨M.qT (M.q0 hM.drew u), gok0⟩) (ZH (Zb ?_ (Zb ?_ (Zb ?_ (Zb ?_ (Zb ?_ (Zb ?_ (Zb ?_ (Zb ?_ (Zb ?_ (Zb ?_ ZD))))))))))) ?_
       ·intro a w ux62 D hE hI hD hdc hp
        have hM0 := hI.1
        have hM := hI.1
        have hM := hM.togA (pre := [_, _]) (Bool.eq_false_iff.2 fun hx => Bool.noConfusion (hD.symm.trans (hdc 9 _ _ rfl (List.mem_of_getElem? (i := 2) rfl) rfl hx)))
        exact Zd hE Za (dl rfl) rfl fun a hE => ⟨_, _, rfl, hE, M.qKeep hM0 rfl, hI.2.put hD rfl ZE rfl⟩
       ·intro a w ux62 D hE hI hD hdc hp
        have hM0 := hI.1
        exact Zd hE Za (dl rfl) rfl fun a hE => ⟨_, _, rfl, hE, M.qKeep hM0 rfl, hI.2.put hD rfl ZE rfl⟩
       ·intro a w ux62 D hE hI hD hdc hp
        have hM0 := hI.1
        have hM := hI.1
        have hM := hM.togA (pre := [_, _]) (Bool.eq_false_iff.2 fun hx => Bool.noConfusion (hD.symm.trans (hdc 9 _ _ rfl (List.mem_of_getElem? (i := 4) rfl) rfl hx)))
        exact Zd hE Za (dl rfl) rfl fun a hE => ⟨_, _, rfl, hE, M.qKeep hM0 rfl, hI.2.put hD rfl ZE rfl⟩
       ·intro a w ux62 D hE hI hD hdc hp
        have d2 : D 2 = true := hp 0 _ rfl rfl
        have g2 := hI.2 2 d2 _ rfl
        have f2 : ux62 2 = (vI s13.2.2.1) := g2.2
        have hM0 := hI.1
        have hM := hI.1
        have hM := hM.togA (pre := [_, _]) (Bool.eq_false_iff.2 fun hx => Bool.noConfusion (hD.symm.trans (hdc 9 _ _ rfl (List.mem_of_getElem? (i := 5) rfl) rfl hx)))
        exact Zm hE Za (dl rfl) rfl (lk rfl f2) Try.underlying100 Va hi63.1 fun a hE => ⟨_, _, rfl, hE, M.qKeep hM0 rfl, hI.2.put hD rfl ZE rfl⟩
       ·intro a w ux62 D hE hI hD hdc hp
        have d3 : D 3 = true := hp 0 _ rfl rfl
        have g3 := hI.2 3 d3 _ rfl
        have f3 : ux62 3 = (ptr b7 (0 + (s13.2.2.1).toNat * 4)) := g3.2
        have hM0 := hI.1
        have hM := hI.1
        have hM := hM.togA (pre := [_, _]) (Bool.eq_false_iff.2 fun hx => Bool.noConfusion (hD.symm.trans (hdc 9 _ _ rfl (List.mem_of_getElem? (i := 1) rfl) rfl hx)))
        exact Zp (cs := Flat.enc x64) hE Za (dl rfl) (lk rfl f3) Va rfl (At.vec (hM.rawAt (pre := [_, _])) hi63.2) (Flat.len _) fun a hE => ⟨_, _, rfl, hE, M.qKeep hM0 rfl, hI.2.put hD rfl ZE rfl⟩
       ·intro a w ux62 D hE hI hD hdc hp
        have hM0 := hI.1
        exact Zd hE Za (dl rfl) rfl fun a hE => ⟨_, _, rfl, hE, M.qKeep hM0 rfl, hI.2.put hD rfl ZE rfl⟩
       ·intro a w ux62 D hE hI hD hdc hp
        have d5 : D 5 = true := hp 0 _ rfl rfl
        have g5 := hI.2 5 d5 _ rfl
        have f5 : ux62 5 = (vI j18) := g5.2
        have hM0 := hI.1
        have hM := hI.1
        have hM := hM.togA (pre := [_, _]) (Bool.eq_false_iff.2 fun hx => Bool.noConfusion (hD.symm.trans (hdc 9 _ _ rfl (List.mem_of_getElem? (i := 8) rfl) rfl hx)))
        exact Zm hE Za (dl rfl) rfl (lk rfl f5) Try.underlying100 Va hi66.1 fun a hE => ⟨_, _, rfl, hE, M.qKeep hM0 rfl, hI.2.put hD rfl ZE rfl⟩
       ·intro a w ux62 D hE hI hD hdc hp
        have d6 : D 6 = true := hp 0 _ rfl rfl
        have g6 := hI.2 6 d6 _ rfl
        have f6 : ux62 6 = (ptr b7 (0 + (j18).toNat * 4)) := g6.2
        have hM0 := hI.1
        have hM := hI.1
        have hM := hM.togA (pre := [_, _]) (Bool.eq_false_iff.2 fun hx => Bool.noConfusion (hD.symm.trans (hdc 9 _ _ rfl (List.mem_of_getElem? (i := 9) rfl) rfl hx)))
        exact Zp (cs := Flat.enc x67) hE Za (dl rfl) (lk rfl f6) Va rfl (At.vec (hM.rawAt (pre := [_, _])) hi66.2) (Flat.len _) fun a hE => ⟨_, _, rfl, hE, M.qKeep hM0 rfl, hI.2.put hD rfl ZE rfl⟩
       ·intro a w ux62 D hE hI hD hdc hp
        have d0 : D 0 = true := hp 0 _ rfl rfl
        have g0 := hI.2 0 d0 _ rfl
        have f0 : ux62 0 = (vI j18) := g0.2
        have hM0 := hI.1
        have hM := hI.1
        have hM := hM.togA (pre := [_, _]) (Bool.eq_false_iff.2 fun hx => Bool.noConfusion (hD.symm.trans (hdc 9 _ _ rfl (List.mem_of_getElem? (i := 0) rfl) rfl hx)))
        exact Zm hE Za (dl rfl) rfl (lk rfl f0) Try.underlying100 Va hi69.1 fun a hE => ⟨_, _, rfl, hE, M.qKeep hM0 rfl, hI.2.put hD rfl ZE rfl⟩
       ·intro a w ux62 D hE hI hD hdc hp
        have d4 : D 4 = true := hp 1 _ rfl rfl
        have g4 := hI.2 4 d4 _ rfl
        have f4 : ux62 4 = (Value.agg (Flat.enc x64).toArray) := g4.2
        have d8 : D 8 = true := hp 0 _ rfl rfl
        have g8 := hI.2 8 d8 _ rfl
        have f8 : ux62 8 = (ptr b7 (0 + (j18).toNat * 4)) := g8.2
        have hM0 := hI.1
        have hM := hI.1
        have hM := hM.togA (pre := [_, _]) hD
        have hM := hM.pull (pre := [_, _])
        refine Zs (seg := Flat.enc x64) (cs' := Flat.enc (s13.2.1.setIfInBounds (j18).toNat x64)) hE hM Za (lk rfl f8) (lk rfl f4) rfl Va (Flat.len _) (ZT (v := s13.2.1) (x := x64) hi69.1) (Flat.cell _) (ZI (v := s13.2.1) (x := x64) hi69.1) ?_; intro w a hM hE
        exact ⟨undef, _, rfl, Env.dummy hE (by decide), M.qTog (mk1 := []) (mk2 := []) hM rfl, hI.2.put hD rfl ZE trivial⟩
       ·intro a w ux62 D hE hI hall
        have hM := hI.1
        have d0 : D 0 = true := hall 0 (by decide)
        have d1 : D 1 = true := hall 1 (by decide)
        have d2 : D 2 = true := hall 2 (by decide)
        have d3 : D 3 = true := hall 3 (by decide)
        have d4 : D 4 = true := hall 4 (by decide)
        have d5 : D 5 = true := hall 5 (by decide)
        have d6 : D 6 = true := hall 6 (by decide)
        have d7 : D 7 = true := hall 7 (by decide)
        have d8 : D 8 = true := hall 8 (by decide)
        have d9 : D 9 = true := hall 9 (by decide)
        have f0 : ux62 0 = (vI j18) := (hI.2 0 d0 _ rfl).2
        have f1 : ux62 1 = (vI s13.2.2.1) := (hI.2 1 d1 _ rfl).2
        have f2 : ux62 2 = (vI s13.2.2.1) := (hI.2 2 d2 _ rfl).2
        have f3 : ux62 3 = (ptr b7 (0 + (s13.2.2.1).toNat * 4)) := (hI.2 3 d3 _ rfl).2
        have f4 : ux62 4 = (Value.agg (Flat.enc x64).toArray) := (hI.2 4 d4 _ rfl).2
        have f5 : ux62 5 = (vI j18) := (hI.2 5 d5 _ rfl).2
        have f6 : ux62 6 = (ptr b7 (0 + (j18).toNat * 4)) := (hI.2 6 d6 _ rfl).2
        have f7 : ux62 7 = (Value.agg (Flat.enc x67).toArray) := (hI.2 7 d7 _ rfl).2
        have f8 : ux62 8 = (ptr b7 (0 + (j18).toNat * 4)) := (hI.2 8 d8 _ rfl).2
        have hM := hM.togB (pre := [_, _]) d9
        have hE := hE.sub (e' := [(46, (vI s13.2.2.1)), (52, (Value.agg (Flat.enc x67).toArray)), (0, (vI p0)), (3, (ptr b1 0)), (5, (ptr b3 0)), (6, (ptr b7 0)), (7, (vB s13.2.2.2)), (8, (vI s13.2.2.1)), (9, (vI j18)), (16, (vI s13.2.2.1))]) ⟨lk rfl f1, lk rfl f7, rfl, rfl, rfl, rfl, rfl, rfl, rfl, rfl, trivial⟩
        obtain ⟨x73, e74, hl60⟩ := bind_some hl60
        have hi72 := Zi e74
        refine Zm hE Za (dl rfl) rfl rfl Try.underlying100 Va hi72.1 ?_; intro a hE
        have hM := hM.pull (pre := [_, _])
        refine Zs (seg := Flat.enc x67) (cs' := Flat.enc ((s13.2.1.setIfInBounds (j18).toNat x64).setIfInBounds (s13.2.2.1).toNat x67)) hE hM Za rfl rfl rfl Va (Flat.len _) (ZT (v := (s13.2.1.setIfInBounds (j18).toNat x64)) (x := x67) hi72.1) (Flat.cell _) (ZI (v := (s13.2.1.setIfInBounds (j18).toNat x64)) (x := x67) hi72.1) ?_; intro w a hM hE
        refine Zj ?_
        have ht75 := Option.some.inj hl60
        subst ht75
        refine Zl ?_
        exact ⟨hE.sub ⟨rfl, rfl, rfl, rfl, rfl, rfl, rfl, trivial⟩, hM⟩
      ·skip
       rintro a w ⟨hE, hM⟩
       refine Zc (Zd hE Za (dl rfl) rfl ?_); intro a hE
       refine Zd hE Za (dl rfl) rfl ?_; intro a hE
       refine Zd hE Za (dl rfl) rfl ?_; intro a hE
       refine Zd hE Za (dl rfl) rfl ?_; intro a hE
       obtain ⟨x77, e78, hF61⟩ := bind_some hF61
       have hi76 := Zi e78
       refine Zm hE Za (dl rfl) rfl rfl Try.underlying100 Va hi76.1 ?_; intro a hE
       obtain ⟨x80, e81, hF61⟩ := bind_some hF61
       have hi79 := Zi e81
       refine Zm hE Za (dl rfl) rfl rfl Try.underlying98 ty5 hi79.1 ?_; intro a hE
       refine Zv (v := (vB x80)) hE Za (dl rfl) rfl ty5 rfl (At.vec (At.vec (hM.rawAt (pre := [_, _])) hi76.2) hi79.2) ?_; intro a hE
       obtain ⟨r82, e83, hF61⟩ := bind_some hF61
       refine Zw (vs := [(vI p0), (vB s13.2.2.2), (vB x80)]) hE Za (dl rfl) rfl cb127 (Ys _ p0 s13.2.2.2 x80 r82 e83) ?_
       rintro v w a ⟨rfl, hK⟩ hE
       have hM := hM.keep hK
       refine Ze hE Za (dl rfl) rfl ?_; intro a hE
       refine Zf (Zc (Zd hE Za (dl rfl) rfl ?_)); intro a hE
       refine Zd hE Za (dl rfl) rfl ?_; intro a hE
       refine Zd hE Za (dl rfl) rfl ?_; intro a hE
       obtain ⟨x85, e86, hF61⟩ := bind_some hF61
       have hi84 := Zi e86
       refine Zm hE Za (dl rfl) rfl rfl Try.underlying100 Va hi84.1 ?_; intro a hE
       obtain ⟨x88, e89, hF61⟩ := bind_some hF61
       have hi87 := Zi e89
       refine Zm hE Za (dl rfl) rfl rfl Try.underlying98 ty5 hi87.1 ?_; intro a hE
       refine Zv (v := (vB x88)) hE Za (dl rfl) rfl ty5 rfl (At.vec (At.vec (hM.rawAt (pre := [_, _])) hi84.2) hi87.2) ?_; intro a hE
       obtain ⟨r90, e91, hF61⟩ := bind_some hF61
       refine Zw (vs := [(vI p0), (vB x88)]) hE Za (dl rfl) rfl cb111 (VE _ p0 x88 r90 e91) ?_
       rintro v w a ⟨rfl, hK⟩ hE
       have hM := hM.keep hK
       refine Ze hE Za (dl rfl) rfl ?_; intro a hE
       refine Zf (wp_seq (Zc (Zd hE Za (dl rfl) rfl ?_))); intro a hE
       refine Zf ?_
       obtain ⟨j92, hl93, hF94⟩ := bind_some hF61
       refine ZV (fun a w => Env 153 a [(0, (vI p0)), (3, (ptr b1 0)), (5, (ptr b3 0)), (6, (ptr b7 0)), (7, (vB r82)), (8, (vI s13.2.2.1)), (16, (vI s13.2.2.1))] ∧ M (Old w0) w0 w [raw b7 (Flat.enc j92.2), raw b3 (Flat.enc (Vector.replicate 4 (Vector.replicate 4 (0 : UInt8)))), raw b1 (Flat.enc j92.1)]) ?_ ?_
       ·skip
        refine wp_block ?_
        refine ZN (fun (s95 : (Vector (Vector UInt8 4) 4) × (Vector (Vector UInt8 4) 4) × Int) a w => Env 153 a [(0, (vI p0)), (3, (ptr b1 0)), (5, (ptr b3 0)), (6, (ptr b7 0)), (7, (vB r82)), (8, (vI s13.2.2.1)), (10, (vB r90)), (16, (vI s13.2.2.1)), (70, (vI s95.2.2))] ∧ M (Old w0) w0 w [raw b7 (Flat.enc s95.2.1), raw b3 (Flat.enc (Vector.replicate 4 (Vector.replicate 4 (0 : UInt8)))), raw b1 (Flat.enc s95.1)]) hl93 ⟨hE.sub ⟨rfl, rfl, rfl, rfl, rfl, rfl, rfl, rfl, rfl, trivial⟩, hM⟩ ?_
        rintro s95 a w ⟨hE, hM⟩ o98 hs96 hx97
        unfold Xo at hs96
        refine Zc (Zh hE Za (dl rfl) rfl rfl rfl ?_); intro a hE
        refine Zf (wp_seq ?_)
        refine Zt hE rfl ?_ ?_
        ·intro hb99
         have hs96 := ZA hs96 hb99
         refine wp_skip (Zx (wp_seq (wp_block (Zc (Zd hE Za (dl rfl) rfl ?_))))); intro a hE
         refine Ze hE Za (dl rfl) rfl ?_; intro a hE
         refine Zf ?_
         have hM := hM.pull (pre := [_, _])
         obtain ⟨x102, e103, hs96⟩ := bind_some hs96
         have hi101 := Zi e103
         obtain ⟨x105, e106, hs96⟩ := bind_some hs96
         have hi104 := Zi e106
         obtain ⟨r107, e108, hs96⟩ := bind_some hs96
         obtain ⟨x110, e111, hs96⟩ := bind_some hs96
         have hi109 := Zi e111
         obtain ⟨x113, e114, hs96⟩ := bind_some hs96
         have hi112 := Zi e114
         obtain ⟨r115, e116, hs96⟩ := bind_some hs96
         obtain ⟨x118, e119, hs96⟩ := bind_some hs96
         have hi117 := Zi e119
         obtain ⟨x121, e122, hs96⟩ := bind_some hs96
         have hi120 := Zi e122
         obtain ⟨x124, e125, hs96⟩ := bind_some hs96
         have hi123 := Zi e125
         refine WA (n := 153) (hd := [_, _, _, _, _, _, _, _, _, _, _, _, _, _, _, _, _, _, _, _, _, _, _, _]) (tl := [_, _]) YB rfl rfl [73, 74, 75, 76, 77, 78, 79, 80, 81, 82, 83, 84, 85, 86, 87, 88, 89, 90, 91, 92, 93, 94, 175, 95] (by decide) (fun D u w => M (Old w0) w0 w ([raw b7 (Flat.enc s95.2.1), raw b3 (Flat.enc (Vector.replicate 4 (Vector.replicate 4 (0 : UInt8))))] ++ qL ([mkT 22 (raw b1 (Flat.enc s95.1)) (raw b1 (Flat.enc (s95.1.setIfInBounds (s13.2.2.1).toNat (x118.setIfInBounds (s95.2.2).toNat r107))))] : Mk) D u) ∧ GOk ([([], fun us v => v = (vI s13.2.2.1)), ([], fun us v => v = (vI s95.2.2)), ([], fun us v => v = (vI s13.2.2.1)), ([], fun us v => v = (vI s95.2.2)), ([], fun us v => v = (vI p0)), ([], fun us v => v = (vI s13.2.2.1)), ([], fun us v => v = (vI s95.2.2)), ([], fun us v => v = (ptr b1 (0 + (s13.2.2.1).toNat * 4))), ([], fun us v => v = (ptr b1 (0 + (s13.2.2.1).toNat * 4 + (s95.2.2).toNat * 1))), ([], fun us v => v = (vB x105)), ([], fun us v => v = (vB r90)), ([], fun us v => v = (vB r107)), ([], fun us v => v = (vI p0)), ([], fun us v => v = (vI s13.2.2.1)), ([], fun us v => v = (vI s95.2.2)), ([], fun us v => v = (ptr b7 (0 + (s13.2.2.1).toNat * 4))), ([], fun us v => v = (ptr b7 (0 + (s13.2.2.1).toNat * 4 + (s95.2.2).toNat * 1))), ([], fun us v => v = (vB x113)), ([], fun us v => v = (vB r90)), ([], fun us v => v = (vB r115)), ([], fun us v => v = (ptr b1 (0 + (s13.2.2.1).toNat * 4))), ([], fun us v => v = (ptr b1 (0 + (s13.2.2.1).toNat * 4 + (s95.2.2).toNat * 1))), ([], fun us v => True), ([], fun us v => v = (ptr b7 (0 + (s13.2.2.1).toNat * 4)))] : Gs) D u) hE (fun u => ⟨M.qT (M.q0 hM.drew u), gok0⟩) (ZH (Zb ?_ (Zb ?_ (Zb ?_ (Zb ?_ (Zb ?_ (Zb ?_ (Zb ?_ (Zb ?_ (Zb ?_ (Zb ?_ (Zb ?_ (Zb ?_ (Zb ?_ (Zb ?_ (Zb ?_ (Zb ?_ (Zb ?_ (Zb ?_ (Zb ?_ (Zb ?_ (Zb ?_ (Zb ?_ (Zb ?_ (Zb ?_ ZD))))))))))))))))))))))))) ?_
         ·intro a w ux100 D hE hI hD hdc hp
          have hM0 := hI.1
          have hM := hI.1
          have hM := hM.togA (pre := [_, _]) (Bool.eq_false_iff.2 fun hx => Bool.noConfusion (hD.symm.trans (hdc 22 _ _ rfl (List.mem_of_getElem? (i := 3) rfl) rfl hx)))
          exact Zd hE Za (dl rfl) rfl fun a hE => ⟨_, _, rfl, hE, M.qKeep hM0 rfl, hI.2.put hD rfl ZE rfl⟩
         ·intro a w ux100 D hE hI hD hdc hp
          have hM0 := hI.1
          have hM := hI.1
          have hM := hM.togA (pre := [_, _]) (Bool.eq_false_iff.2 fun hx => Bool.noConfusion (hD.symm.trans (hdc 22 _ _ rfl (List.mem_of_getElem? (i := 4) rfl) rfl hx)))
          exact Zd hE Za (dl rfl) rfl fun a hE => ⟨_, _, rfl, hE, M.qKeep hM0 rfl, hI.2.put hD rfl ZE rfl⟩
         ·intro a w ux100 D hE hI hD hdc hp
          have hM0 := hI.1
          exact Zd hE Za (dl rfl) rfl fun a hE => ⟨_, _, rfl, hE, M.qKeep hM0 rfl, hI.2.put hD rfl ZE rfl⟩
         ·intro a w ux100 D hE hI hD hdc hp
          have hM0 := hI.1
          exact Zd hE Za (dl rfl) rfl fun a hE => ⟨_, _, rfl, hE, M.qKeep hM0 rfl, hI.2.put hD rfl ZE rfl⟩
         ·intro a w ux100 D hE hI hD hdc hp
          have hM0 := hI.1
          have hM := hI.1
          have hM := hM.togA (pre := [_, _]) (Bool.eq_false_iff.2 fun hx => Bool.noConfusion (hD.symm.trans (hdc 22 _ _ rfl (List.mem_of_getElem? (i := 7) rfl) rfl hx)))
          exact Zd hE Za (dl rfl) rfl fun a hE => ⟨_, _, rfl, hE, M.qKeep hM0 rfl, hI.2.put hD rfl ZE rfl⟩
         ·intro a w ux100 D hE hI hD hdc hp
          have hM0 := hI.1
          have hM := hI.1
          have hM := hM.togA (pre := [_, _]) (Bool.eq_false_iff.2 fun hx => Bool.noConfusion (hD.symm.trans (hdc 22 _ _ rfl (List.mem_of_getElem? (i := 8) rfl) rfl hx)))
          exact Zd hE Za (dl rfl) rfl fun a hE => ⟨_, _, rfl, hE, M.qKeep hM0 rfl, hI.2.put hD rfl ZE rfl⟩
         ·intro a w ux100 D hE hI hD hdc hp
          have hM0 := hI.1
          have hM := hI.1
          have hM := hM.togA (pre := [_, _]) (Bool.eq_false_iff.2 fun hx => Bool.noConfusion (hD.symm.trans (hdc 22 _ _ rfl (List.mem_of_getElem? (i := 9) rfl) rfl hx)))
          exact Zd hE Za (dl rfl) rfl fun a hE => ⟨_, _, rfl, hE, M.qKeep hM0 rfl, hI.2.put hD rfl ZE rfl⟩
         ·intro a w ux100 D hE hI hD hdc hp
          have d5 : D 5 = true := hp 0 _ rfl rfl
          have g5 := hI.2 5 d5 _ rfl
          have f5 : ux100 5 = (vI s13.2.2.1) := g5.2
          have hM0 := hI.1
          have hM := hI.1
          have hM := hM.togA (pre := [_, _]) (Bool.eq_false_iff.2 fun hx => Bool.noConfusion (hD.symm.trans (hdc 22 _ _ rfl (List.mem_of_getElem? (i := 10) rfl) rfl hx)))
          exact Zm hE Za (dl rfl) rfl (lk rfl f5) Try.underlying100 Va hi101.1 fun a hE => ⟨_, _, rfl, hE, M.qKeep hM0 rfl, hI.2.put hD rfl ZE rfl⟩
         ·intro a w ux100 D hE hI hD hdc hp
          have d6 : D 6 = true := hp 1 _ rfl rfl
          have g6 := hI.2 6 d6 _ rfl
          have f6 : ux100 6 = (vI s95.2.2) := g6.2
          have d7 : D 7 = true := hp 0 _ rfl rfl
          have g7 := hI.2 7 d7 _ rfl
          have f7 : ux100 7 = (ptr b1 (0 + (s13.2.2.1).toNat * 4)) := g7.2
          have hM0 := hI.1
          have hM := hI.1
          have hM := hM.togA (pre := [_, _]) (Bool.eq_false_iff.2 fun hx => Bool.noConfusion (hD.symm.trans (hdc 22 _ _ rfl (List.mem_of_getElem? (i := 11) rfl) rfl hx)))
          exact Zm hE Za (dl rfl) (lk rfl f7) (lk rfl f6) Try.underlying98 ty5 hi104.1 fun a hE => ⟨_, _, rfl, hE, M.qKeep hM0 rfl, hI.2.put hD rfl ZE rfl⟩
         ·intro a w ux100 D hE hI hD hdc hp
          have d8 : D 8 = true := hp 0 _ rfl rfl
          have g8 := hI.2 8 d8 _ rfl
          have f8 : ux100 8 = (ptr b1 (0 + (s13.2.2.1).toNat * 4 + (s95.2.2).toNat * 1)) := g8.2
          have hM0 := hI.1
          have hM := hI.1
          have hM := hM.togA (pre := [_, _]) (Bool.eq_false_iff.2 fun hx => Bool.noConfusion (hD.symm.trans (hdc 22 _ _ rfl (List.mem_of_getElem? (i := 12) rfl) rfl hx)))
          exact Zv (v := (vB x105)) hE Za (dl rfl) (lk rfl f8) ty5 rfl (At.vec (At.vec (hM.rawAt (pre := [_, _])) hi101.2) hi104.2) fun a hE => ⟨_, _, rfl, hE, M.qKeep hM0 rfl, hI.2.put hD rfl ZE rfl⟩
         ·intro a w ux100 D hE hI hD hdc hp
          have hM0 := hI.1
          have hM := hI.1
          have hM := hM.togA (pre := [_, _]) (Bool.eq_false_iff.2 fun hx => Bool.noConfusion (hD.symm.trans (hdc 22 _ _ rfl (List.mem_of_getElem? (i := 13) rfl) rfl hx)))
          exact Zd hE Za (dl rfl) rfl fun a hE => ⟨_, _, rfl, hE, M.qKeep hM0 rfl, hI.2.put hD rfl ZE rfl⟩
         ·intro a w ux100 D hE hI hD hdc hp
          have d4 : D 4 = true := hp 0 _ rfl rfl
          have g4 := hI.2 4 d4 _ rfl
          have f4 : ux100 4 = (vI p0) := g4.2
          have d9 : D 9 = true := hp 1 _ rfl rfl
          have g9 := hI.2 9 d9 _ rfl
          have f9 : ux100 9 = (vB x105) := g9.2
          have d10 : D 10 = true := hp 2 _ rfl rfl
          have g10 := hI.2 10 d10 _ rfl
          have f10 : ux100 10 = (vB r90) := g10.2
          have hM0 := hI.1
          have hM := hI.1
          have hM := hM.togA (pre := [_, _]) (Bool.eq_false_iff.2 fun hx => Bool.noConfusion (hD.symm.trans (hdc 22 _ _ rfl (List.mem_of_getElem? (i := 1) rfl) rfl hx)))
          refine Zw (vs := [(vI p0), (vB x105), (vB r90)]) hE Za (dl rfl) (Z0 (ZY (lk rfl f4) (ZY (lk rfl f9) (ZY (lk rfl f10) Xf)))) cb127 (Ys _ p0 x105 r90 r107 e108) ?_
          rintro v w a ⟨rfl, hK⟩ hE
          exact ⟨_, _, rfl, hE, M.qKeep (hM0.keep hK) rfl, hI.2.put hD rfl ZE rfl⟩
         ·intro a w ux100 D hE hI hD hdc hp
          have hM0 := hI.1
          exact Zd hE Za (dl rfl) rfl fun a hE => ⟨_, _, rfl, hE, M.qKeep hM0 rfl, hI.2.put hD rfl ZE rfl⟩
         ·intro a w ux100 D hE hI hD hdc hp
          have hM0 := hI.1
          exact Zd hE Za (dl rfl) rfl fun a hE => ⟨_, _, rfl, hE, M.qKeep hM0 rfl, hI.2.put hD rfl ZE rfl⟩
         ·intro a w ux100 D hE hI hD hdc hp
          have hM0 := hI.1
          exact Zd hE Za (dl rfl) rfl fun a hE => ⟨_, _, rfl, hE, M.qKeep hM0 rfl, hI.2.put hD rfl ZE rfl⟩
         ·intro a w ux100 D hE hI hD hdc hp
          have d13 : D 13 = true := hp 0 _ rfl rfl
          have g13 := hI.2 13 d13 _ rfl
          have f13 : ux100 13 = (vI s13.2.2.1) := g13.2
          have hM0 := hI.1
          exact Zm hE Za (dl rfl) rfl (lk rfl f13) Try.underlying100 Va hi109.1 fun a hE => ⟨_, _, rfl, hE, M.qKeep hM0 rfl, hI.2.put hD rfl ZE rfl⟩
         ·intro a w ux100 D hE hI hD hdc hp
          have d14 : D 14 = true := hp 1 _ rfl rfl
          have g14 := hI.2 14 d14 _ rfl
          have f14 : ux100 14 = (vI s95.2.2) := g14.2
          have d15 : D 15 = true := hp 0 _ rfl rfl
          have g15 := hI.2 15 d15 _ rfl
          have f15 : ux100 15 = (ptr b7 (0 + (s13.2.2.1).toNat * 4)) := g15.2
          have hM0 := hI.1
          exact Zm hE Za (dl rfl) (lk rfl f15) (lk rfl f14) Try.underlying98 ty5 hi112.1 fun a hE => ⟨_, _, rfl, hE, M.qKeep hM0 rfl, hI.2.put hD rfl ZE rfl⟩
         ·intro a w ux100 D hE hI hD hdc hp
          have d16 : D 16 = true := hp 0 _ rfl rfl
          have g16 := hI.2 16 d16 _ rfl
          have f16 : ux100 16 = (ptr b7 (0 + (s13.2.2.1).toNat * 4 + (s95.2.2).toNat * 1)) := g16.2
          have hM0 := hI.1
          have hM := hI.1
          exact Zv (v := (vB x113)) hE Za (dl rfl) (lk rfl f16) ty5 rfl (At.vec (At.vec (hM.rawAt (pre := [])) hi109.2) hi112.2) fun a hE => ⟨_, _, rfl, hE, M.qKeep hM0 rfl, hI.2.put hD rfl ZE rfl⟩
         ·intro a w ux100 D hE hI hD hdc hp
          have hM0 := hI.1
          exact Zd hE Za (dl rfl) rfl fun a hE => ⟨_, _, rfl, hE, M.qKeep hM0 rfl, hI.2.put hD rfl ZE rfl⟩
         ·intro a w ux100 D hE hI hD hdc hp
          have d12 : D 12 = true := hp 0 _ rfl rfl
          have g12 := hI.2 12 d12 _ rfl
          have f12 : ux100 12 = (vI p0) := g12.2
          have d17 : D 17 = true := hp 1 _ rfl rfl
          have g17 := hI.2 17 d17 _ rfl
          have f17 : ux100 17 = (vB x113) := g17.2
          have d18 : D 18 = true := hp 2 _ rfl rfl
          have g18 := hI.2 18 d18 _ rfl
          have f18 : ux100 18 = (vB r90) := g18.2
          have hM0 := hI.1
          have hM := hI.1
          have hM := hM.togA (pre := [_, _]) (Bool.eq_false_iff.2 fun hx => Bool.noConfusion (hD.symm.trans (hdc 22 _ _ rfl (List.mem_of_getElem? (i := 2) rfl) rfl hx)))
          refine Zw (vs := [(vI p0), (vB x113), (vB r90)]) hE Za (dl rfl) (Z0 (ZY (lk rfl f12) (ZY (lk rfl f17) (ZY (lk rfl f18) Xf)))) cb127 (Ys _ p0 x113 r90 r115 e116) ?_
          rintro v w a ⟨rfl, hK⟩ hE
          exact ⟨_, _, rfl, hE, M.qKeep (hM0.keep hK) rfl, hI.2.put hD rfl ZE rfl⟩
         ·intro a w ux100 D hE hI hD hdc hp
          have d0 : D 0 = true := hp 0 _ rfl rfl
          have g0 := hI.2 0 d0 _ rfl
          have f0 : ux100 0 = (vI s13.2.2.1) := g0.2
          have hM0 := hI.1
          exact Zm hE Za (dl rfl) rfl (lk rfl f0) Try.underlying100 Va hi117.1 fun a hE => ⟨_, _, rfl, hE, M.qKeep hM0 rfl, hI.2.put hD rfl ZE rfl⟩
         ·intro a w ux100 D hE hI hD hdc hp
          have d1 : D 1 = true := hp 1 _ rfl rfl
          have g1 := hI.2 1 d1 _ rfl
          have f1 : ux100 1 = (vI s95.2.2) := g1.2
          have d20 : D 20 = true := hp 0 _ rfl rfl
          have g20 := hI.2 20 d20 _ rfl
          have f20 : ux100 20 = (ptr b1 (0 + (s13.2.2.1).toNat * 4)) := g20.2
          have hM0 := hI.1
          have hM := hI.1
          have hM := hM.togA (pre := [_, _]) (Bool.eq_false_iff.2 fun hx => Bool.noConfusion (hD.symm.trans (hdc 22 _ _ rfl (List.mem_of_getElem? (i := 0) rfl) rfl hx)))
          exact Zm hE Za (dl rfl) (lk rfl f20) (lk rfl f1) Try.underlying98 ty5 hi120.1 fun a hE => ⟨_, _, rfl, hE, M.qKeep hM0 rfl, hI.2.put hD rfl ZE rfl⟩
         ·intro a w ux100 D hE hI hD hdc hp
          have d11 : D 11 = true := hp 1 _ rfl rfl
          have g11 := hI.2 11 d11 _ rfl
          have f11 : ux100 11 = (vB r107) := g11.2
          have d21 : D 21 = true := hp 0 _ rfl rfl
          have g21 := hI.2 21 d21 _ rfl
          have f21 : ux100 21 = (ptr b1 (0 + (s13.2.2.1).toNat * 4 + (s95.2.2).toNat * 1)) := g21.2
          have hM0 := hI.1
          have hM := hI.1
          have hM := hM.togA (pre := [_, _]) hD
          have hM := hM.pull (pre := [_, _])
          refine Zs (seg := [(vB r107)]) (cs' := Flat.enc (s95.1.setIfInBounds (s13.2.2.1).toNat (x118.setIfInBounds (s95.2.2).toNat r107))) hE hM Za (lk rfl f21) (lk rfl f11) rfl ty5 rfl (Vh (o' := 0 + (s95.2.2).toNat * 1) hi117 (ZT (v := x118) (x := r107) hi120.1) (by first | omega | (simp only [Flat.n] <;> omega))) (Flat.cell (r107 : UInt8)) (Wm (o' := 0 + (s95.2.2).toNat * 1) hi117 (ZT (v := x118) (x := r107) hi120.1) (ZI (v := x118) (x := r107) hi120.1) (by first | omega | (simp only [Flat.n] <;> omega))) ?_; intro w a hM hE
          exact ⟨undef, _, rfl, Env.dummy hE (by decide), M.qTog (mk1 := []) (mk2 := []) hM rfl, hI.2.put hD rfl ZE trivial⟩
         ·intro a w ux100 D hE hI hD hdc hp
          have d2 : D 2 = true := hp 0 _ rfl rfl
          have g2 := hI.2 2 d2 _ rfl
          have f2 : ux100 2 = (vI s13.2.2.1) := g2.2
          have hM0 := hI.1
          exact Zm hE Za (dl rfl) rfl (lk rfl f2) Try.underlying100 Va hi123.1 fun a hE => ⟨_, _, rfl, hE, M.qKeep hM0 rfl, hI.2.put hD rfl ZE rfl⟩
         ·intro a w ux100 D hE hI hall
          have hM := hI.1
          have d0 : D 0 = true := hall 0 (by decide)
          have d1 : D 1 = true := hall 1 (by decide)
          have d2 : D 2 = true := hall 2 (by decide)
          have d3 : D 3 = true := hall 3 (by decide)
          have d4 : D 4 = true := hall 4 (by decide)
          have d5 : D 5 = true := hall 5 (by decide)
          have d6 : D 6 = true := hall 6 (by decide)
          have d7 : D 7 = true := hall 7 (by decide)
          have d8 : D 8 = true := hall 8 (by decide)
          have d9 : D 9 = true := hall 9 (by decide)
          have d10 : D 10 = true := hall 10 (by decide)
          have d11 : D 11 = true := hall 11 (by decide)
          have d12 : D 12 = true := hall 12 (by decide)
          have d13 : D 13 = true := hall 13 (by decide)
          have d14 : D 14 = true := hall 14 (by decide)
          have d15 : D 15 = true := hall 15 (by decide)
          have d16 : D 16 = true := hall 16 (by decide)
          have d17 : D 17 = true := hall 17 (by decide)
          have d18 : D 18 = true := hall 18 (by decide)
          have d19 : D 19 = true := hall 19 (by decide)
          have d20 : D 20 = true := hall 20 (by decide)
          have d21 : D 21 = true := hall 21 (by decide)
          have d22 : D 22 = true := hall 22 (by decide)
          have d23 : D 23 = true := hall 23 (by decide)
          have f0 : ux100 0 = (vI s13.2.2.1) := (hI.2 0 d0 _ rfl).2
          have f1 : ux100 1 = (vI s95.2.2) := (hI.2 1 d1 _ rfl).2
          have f2 : ux100 2 = (vI s13.2.2.1) := (hI.2 2 d2 _ rfl).2
          have f3 : ux100 3 = (vI s95.2.2) := (hI.2 3 d3 _ rfl).2
          have f4 : ux100 4 = (vI p0) := (hI.2 4 d4 _ rfl).2
          have f5 : ux100 5 = (vI s13.2.2.1) := (hI.2 5 d5 _ rfl).2
          have f6 : ux100 6 = (vI s95.2.2) := (hI.2 6 d6 _ rfl).2
          have f7 : ux100 7 = (ptr b1 (0 + (s13.2.2.1).toNat * 4)) := (hI.2 7 d7 _ rfl).2
          have f8 : ux100 8 = (ptr b1 (0 + (s13.2.2.1).toNat * 4 + (s95.2.2).toNat * 1)) := (hI.2 8 d8 _ rfl).2
          have f9 : ux100 9 = (vB x105) := (hI.2 9 d9 _ rfl).2
          have f10 : ux100 10 = (vB r90) := (hI.2 10 d10 _ rfl).2
          have f11 : ux100 11 = (vB r107) := (hI.2 11 d11 _ rfl).2
          have f12 : ux100 12 = (vI p0) := (hI.2 12 d12 _ rfl).2
          have f13 : ux100 13 = (vI s13.2.2.1) := (hI.2 13 d13 _ rfl).2
          have f14 : ux100 14 = (vI s95.2.2) := (hI.2 14 d14 _ rfl).2
          have f15 : ux100 15 = (ptr b7 (0 + (s13.2.2.1).toNat * 4)) := (hI.2 15 d15 _ rfl).2
          have f16 : ux100 16 = (ptr b7 (0 + (s13.2.2.1).toNat * 4 + (s95.2.2).toNat * 1)) := (hI.2 16 d16 _ rfl).2
          have f17 : ux100 17 = (vB x113) := (hI.2 17 d17 _ rfl).2
          have f18 : ux100 18 = (vB r90) := (hI.2 18 d18 _ rfl).2
          have f19 : ux100 19 = (vB r115) := (hI.2 19 d19 _ rfl).2
          have f20 : ux100 20 = (ptr b1 (0 + (s13.2.2.1).toNat * 4)) := (hI.2 20 d20 _ rfl).2
          have f21 : ux100 21 = (ptr b1 (0 + (s13.2.2.1).toNat * 4 + (s95.2.2).toNat * 1)) := (hI.2 21 d21 _ rfl).2
          have f23 : ux100 23 = (ptr b7 (0 + (s13.2.2.1).toNat * 4)) := (hI.2 23 d23 _ rfl).2
          have hM := hM.togB (pre := [_, _]) d22
          have hE := hE.sub (e' := [(76, (vI s95.2.2)), (92, (vB r115)), (95, (ptr b7 (0 + (s13.2.2.1).toNat * 4))), (0, (vI p0)), (3, (ptr b1 0)), (5, (ptr b3 0)), (6, (ptr b7 0)), (7, (vB r82)), (8, (vI s13.2.2.1)), (10, (vB r90)), (11, (vI s95.2.2)), (16, (vI s13.2.2.1)), (70, (vI s95.2.2)), (71, (vT (decide (s95.2.2 < 4)))), (72, (vI s95.2.2))]) ⟨lk rfl f3, lk rfl f19, lk rfl f23, rfl, rfl, rfl, rfl, rfl, rfl, rfl, rfl, rfl, rfl, rfl, rfl, trivial⟩
          obtain ⟨x127, e128, hs96⟩ := bind_some hs96
          have hi126 := Zi e128
          refine Zm hE Za (dl rfl) rfl rfl Try.underlying98 ty5 hi126.1 ?_; intro a hE
          refine Zs (seg := [(vB r115)]) (cs' := Flat.enc (s95.2.1.setIfInBounds (s13.2.2.1).toNat (x124.setIfInBounds (s95.2.2).toNat r115))) hE hM Za rfl rfl rfl ty5 rfl (Vh (o' := 0 + (s95.2.2).toNat * 1) hi123 (ZT (v := x124) (x := r115) hi126.1) (by first | omega | (simp only [Flat.n] <;> omega))) (Flat.cell (r115 : UInt8)) (Wm (o' := 0 + (s95.2.2).toNat * 1) hi123 (ZT (v := x124) (x := r115) hi126.1) (ZI (v := x124) (x := r115) hi126.1) (by first | omega | (simp only [Flat.n] <;> omega))) ?_; intro w a hM hE
          refine Zj (Yk (Zx (wp_region_lit (Zh hE Za (dl rfl) rfl rfl rfl ?_)))); intro a hE
          refine Zd hE Za (dl rfl) rfl ?_; intro a hE
          refine Zj (Zl ?_)
          exact ⟨_, (Option.some.inj hs96).symm, hE.sub ⟨rfl, rfl, rfl, rfl, rfl, rfl, rfl, rfl, rfl, trivial⟩, hM⟩
        ·intro hb99
         have hs96 := Zz hs96 hb99
         refine wp_exit (Zr (Zr (Yj ?_)))
         have ht129 := hx97 _ (Option.some.inj hs96).symm
         subst ht129
         refine Zl ?_
         exact ⟨hE.sub ⟨rfl, rfl, rfl, rfl, rfl, rfl, rfl, trivial⟩, hM⟩
       ·skip
        rintro a w ⟨hE, hM⟩
        refine Zx (Zc (Zd hE Za (dl rfl) rfl ?_)); intro a hE
        refine Zf ?_
        obtain ⟨j130, hl131, hF132⟩ := bind_some hF94
        refine ZV (fun a w => Env 153 a [(0, (vI p0)), (3, (ptr b1 0)), (5, (ptr b3 0)), (6, (ptr b7 0)), (7, (vB r82)), (16, (vI s13.2.2.1))] ∧ M (Old w0) w0 w [raw b7 (Flat.enc j130.2), raw b3 (Flat.enc (Vector.replicate 4 (Vector.replicate 4 (0 : UInt8)))), raw b1 (Flat.enc j130.1)]) ?_ ?_
        ·skip
         refine wp_block ?_
         refine ZN (fun (s133 : (Vector (Vector UInt8 4) 4) × (Vector (Vector UInt8 4) 4) × Int) a w => Env 153 a [(0, (vI p0)), (3, (ptr b1 0)), (5, (ptr b3 0)), (6, (ptr b7 0)), (7, (vB r82)), (8, (vI s13.2.2.1)), (16, (vI s13.2.2.1)), (98, (vI s133.2.2))] ∧ M (Old w0) w0 w [raw b7 (Flat.enc s133.2.1), raw b3 (Flat.enc (Vector.replicate 4 (Vector.replicate 4 (0 : UInt8)))), raw b1 (Flat.enc s133.1)]) hl131 ⟨hE.sub ⟨rfl, rfl, rfl, rfl, rfl, rfl, rfl, rfl, trivial⟩, hM⟩ ?_
         rintro s133 a w ⟨hE, hM⟩ o136 hs134 hx135
         unfold Xp at hs134
         refine Zc (Zh hE Za (dl rfl) rfl rfl rfl ?_); intro a hE
         refine Zf (wp_seq ?_)
         refine Zt hE rfl ?_ ?_
         ·intro hb137
          have hs134 := ZA hs134 hb137
          refine wp_skip (Zx ?_)
          obtain ⟨j138, hl139, hF140⟩ := bind_some hs134
          refine ZS (fun a w => Env 153 a [(0, (vI p0)), (3, (ptr b1 0)), (5, (ptr b3 0)), (6, (ptr b7 0)), (7, (vB r82)), (8, (vI s13.2.2.1)), (16, (vI s13.2.2.1)), (98, (vI s133.2.2))] ∧ M (Old w0) w0 w [raw b7 (Flat.enc j138.2), raw b3 (Flat.enc (Vector.replicate 4 (Vector.replicate 4 (0 : UInt8)))), raw b1 (Flat.enc j138.1)]) ?_ ?_
          ·skip
           refine wp_block (Zc (Zd hE Za (dl rfl) rfl ?_)); intro a hE
           refine Ze hE Za (dl rfl) rfl ?_; intro a hE
           refine Zf (Zc (Zd hE Za (dl rfl) rfl ?_)); intro a hE
           refine Zd hE Za (dl rfl) rfl ?_; intro a hE
           obtain ⟨x142, e143, hl139⟩ := bind_some hl139
           have hi141 := Zi e143
           refine Zm hE Za (dl rfl) rfl rfl Try.underlying100 Va hi141.1 ?_; intro a hE
           obtain ⟨x145, e146, hl139⟩ := bind_some hl139
           have hi144 := Zi e146
           refine Zm hE Za (dl rfl) rfl rfl Try.underlying98 ty5 hi144.1 ?_; intro a hE
           refine Zv (v := (vB x145)) hE Za (dl rfl) rfl ty5 rfl (At.vec (At.vec (hM.rawAt (pre := [_, _])) hi141.2) hi144.2) ?_; intro a hE
           refine Ze hE Za (dl rfl) rfl ?_; intro a hE
           refine Zf ?_
           obtain ⟨j147, hl148, hF149⟩ := bind_some hl139
           refine ZS (fun a w => Env 153 a [(0, (vI p0)), (3, (ptr b1 0)), (5, (ptr b3 0)), (6, (ptr b7 0)), (7, (vB r82)), (8, (vI s13.2.2.1)), (12, (vI s133.2.2)), (13, (vB x145)), (16, (vI s13.2.2.1)), (98, (vI s133.2.2)), (112, (vT j147))] ∧ M (Old w0) w0 w [raw b7 (Flat.enc s133.2.1), raw b3 (Flat.enc (Vector.replicate 4 (Vector.replicate 4 (0 : UInt8)))), raw b1 (Flat.enc s133.1)]) ?_ ?_
           ·skip
            refine wp_region_lit (Zd hE Za (dl rfl) rfl ?_); intro a hE
            refine Zd hE Za (dl rfl) rfl ?_; intro a hE
            refine Zh hE Za (dl rfl) rfl rfl rfl ?_; intro a hE
            refine Zd hE Za (dl rfl) rfl ?_; intro a hE
            refine WE (s133.2.2 != s13.2.2.1) (fun hb150 => ?_) (fun hb150 => ?_)
            ·have hl148 := ZA hl148 hb150
             refine Zd hE (Zk hE rfl (lkb rfl hb150)) (by decide) rfl ?_; intro a hE
             refine Zh hE (Zk hE rfl (lkb rfl hb150)) (by decide) rfl rfl (bB_neq x145 0) ?_; intro a hE
             refine Yn hE Za (dl rfl) (lkb rfl hb150) rfl ?_; intro a hE
             refine Zj ?_
             have ht151 := Option.some.inj hl148
             subst ht151
             refine Zl ?_
             exact ⟨hE.sub ⟨rfl, rfl, rfl, rfl, rfl, rfl, rfl, rfl, rfl, rfl, rfl, trivial⟩, hM⟩
            ·have hl148 := Zz hl148 hb150
             refine Zn hE rfl (lkb rfl hb150) rfl (by decide) ?_; intro a hE
             refine Zn hE rfl (lkb rfl hb150) rfl (by decide) ?_; intro a hE
             refine YP hE Za (dl rfl) (lkb rfl hb150) rfl ?_; intro a hE
             refine Zj ?_
             have ht152 := Option.some.inj hl148
             subst ht152
             refine Zl ?_
             exact ⟨hE.sub ⟨rfl, rfl, rfl, rfl, rfl, rfl, rfl, rfl, rfl, rfl, rfl, trivial⟩, hM⟩
           ·skip
            rintro a w ⟨hE, hM⟩
            obtain ⟨j153, hl154, hF155⟩ := bind_some hF149
            refine ZV (fun a w => Env 153 a [(0, (vI p0)), (3, (ptr b1 0)), (5, (ptr b3 0)), (6, (ptr b7 0)), (7, (vB r82)), (8, (vI s13.2.2.1)), (16, (vI s13.2.2.1)), (98, (vI s133.2.2))] ∧ M (Old w0) w0 w [raw b7 (Flat.enc j153.2), raw b3 (Flat.enc (Vector.replicate 4 (Vector.replicate 4 (0 : UInt8)))), raw b1 (Flat.enc j153.1)]) ?_ ?_
            ·skip
             refine Zt hE rfl ?_ ?_
             ·intro hb156
              have hl154 := ZA hl154 hb156
              refine Zc (Zd hE Za (dl rfl) rfl ?_); intro a hE
              refine Zf ?_
              obtain ⟨j157, hl158, hF159⟩ := bind_some hl154
              refine ZV (fun a w => Env 153 a [(0, (vI p0)), (3, (ptr b1 0)), (5, (ptr b3 0)), (6, (ptr b7 0)), (7, (vB r82)), (8, (vI s13.2.2.1)), (16, (vI s13.2.2.1)), (98, (vI s133.2.2))] ∧ M (Old w0) w0 w [raw b7 (Flat.enc j157.2), raw b3 (Flat.enc (Vector.replicate 4 (Vector.replicate 4 (0 : UInt8)))), raw b1 (Flat.enc j157.1)]) ?_ ?_
              ·skip
               refine wp_block ?_
               refine ZN (fun (s160 : (Vector (Vector UInt8 4) 4) × (Vector (Vector UInt8 4) 4) × Int) a w => Env 153 a [(0, (vI p0)), (3, (ptr b1 0)), (5, (ptr b3 0)), (6, (ptr b7 0)), (7, (vB r82)), (8, (vI s13.2.2.1)), (12, (vI s133.2.2)), (13, (vB x145)), (16, (vI s13.2.2.1)), (98, (vI s133.2.2)), (113, (vI s160.2.2))] ∧ M (Old w0) w0 w [raw b7 (Flat.enc s160.2.1), raw b3 (Flat.enc (Vector.replicate 4 (Vector.replicate 4 (0 : UInt8)))), raw b1 (Flat.enc s160.1)]) hl158 ⟨hE.sub ⟨rfl, rfl, rfl, rfl, rfl, rfl, rfl, rfl, rfl, rfl, rfl, trivial⟩, hM⟩ ?_
               rintro s160 a w ⟨hE, hM⟩ o163 hs161 hx162
               unfold Xs at hs161
               refine Zc (Zh hE Za (dl rfl) rfl rfl rfl ?_); intro a hE
               refine Zf (wp_seq ?_)
               refine Zt hE rfl ?_ ?_
               ·intro hb164
                have hs161 := ZA hs161 hb164
                refine wp_skip (Zx (wp_seq (wp_block (Zc (Zd hE Za (dl rfl) rfl ?_))))); intro a hE
                refine Ze hE Za (dl rfl) rfl ?_; intro a hE
                refine Zf ?_
                obtain ⟨j165, hl166, hF167⟩ := bind_some hs161
                refine ZS (fun a w => Env 153 a [(0, (vI p0)), (3, (ptr b1 0)), (5, (ptr b3 0)), (6, (ptr b7 0)), (7, (vB r82)), (8, (vI s13.2.2.1)), (12, (vI s133.2.2)), (13, (vB x145)), (14, (vI s160.2.2)), (16, (vI s13.2.2.1)), (98, (vI s133.2.2)), (113, (vI s160.2.2))] ∧ M (Old w0) w0 w [raw b7 (Flat.enc s160.2.1), raw b3 (Flat.enc (Vector.replicate 4 (Vector.replicate 4 (0 : UInt8)))), raw b1 (Flat.enc j165)]) ?_ ?_
                ·skip
                 obtain ⟨x170, e171, hl166⟩ := bind_some hl166
                 have hi169 := Zi e171
                 obtain ⟨x173, e174, hl166⟩ := bind_some hl166
                 have hi172 := Zi e174
                 obtain ⟨x176, e177, hl166⟩ := bind_some hl166
                 have hi175 := Zi e177
                 obtain ⟨x179, e180, hl166⟩ := bind_some hl166
                 have hi178 := Zi e180
                 obtain ⟨r181, e182, hl166⟩ := bind_some hl166
                 obtain ⟨x184, e185, hl166⟩ := bind_some hl166
                 have hi183 := Zi e185
                 obtain ⟨x187, e188, hl166⟩ := bind_some hl166
                 have hi186 := Zi e188
                 refine Yd (n := 153) (hd := [_, _, _, _, _, _, _, _, _, _, _, _, _, _, _, _]) (tl := [_]) YB rfl rfl [116, 117, 118, 119, 120, 121, 122, 123, 124, 125, 126, 127, 128, 129, 130, 131] (by decide) (fun w => M (Old w0) w0 w [raw b7 (Flat.enc s160.2.1), raw b3 (Flat.enc (Vector.replicate 4 (Vector.replicate 4 (0 : UInt8)))), raw b1 (Flat.enc s160.1)]) (fun j => ([fun v _ => v = (vI s133.2.2), fun v _ => v = (vI s160.2.2), fun v _ => v = (ptr b1 (0 + (s133.2.2).toNat * 4)), fun v _ => v = (ptr b1 (0 + (s133.2.2).toNat * 4 + (s160.2.2).toNat * 1)), fun v _ => v = (vB x173), fun v _ => v = (vI p0), fun v _ => v = (vB x145), fun v _ => v = (vI s13.2.2.1), fun v _ => v = (vI s160.2.2), fun v _ => v = (ptr b1 (0 + (s13.2.2.1).toNat * 4)), fun v _ => v = (ptr b1 (0 + (s13.2.2.1).toNat * 4 + (s160.2.2).toNat * 1)), fun v _ => v = (vB x179), fun v _ => v = (vB r181), fun v _ => v = (vB (x173 ^^^ r181)), fun v _ => v = (ptr b1 (0 + (s133.2.2).toNat * 4)), fun v _ => v = (ptr b1 (0 + (s133.2.2).toNat * 4 + (s160.2.2).toNat * 1))] : List (Value → World → Prop)).getD j (fun _ _ => True)) (fun _ _ h hk => h.keep hk) (gup (Zg (Zg (Zg (Zg (Zg (Zg (Zg (Zg (Zg (Zg (Zg (Zg (Zg (Zg (Zg (Zg Wu))))))))))))))))) hE hM.drew (ZH (Zb ?_ (Zb ?_ (Zb ?_ (Zb ?_ (Zb ?_ (Zb ?_ (Zb ?_ (Zb ?_ (Zb ?_ (Zb ?_ (Zb ?_ (Zb ?_ (Zb ?_ (Zb ?_ (Zb ?_ (Zb ?_ ZD))))))))))))))))) ?_
                 ·exact fun a w ux168 hE hM hp => Zd hE Za (dl rfl) rfl fun a hE => ⟨Kept.refl _ _, _, _, rfl, hE, rfl⟩
                 ·exact fun a w ux168 hE hM hp => Zd hE Za (dl rfl) rfl fun a hE => ⟨Kept.refl _ _, _, _, rfl, hE, rfl⟩
                 ·intro a w ux168 hE hM hp
                  have f0 : ux168 0 = (vI s133.2.2) := hp 0 _ rfl rfl
                  exact Zm hE Za (dl rfl) rfl (lk rfl f0) Try.underlying100 Va hi169.1 fun a hE => ⟨Kept.refl _ _, _, _, rfl, hE, rfl⟩
                 ·intro a w ux168 hE hM hp
                  have f1 : ux168 1 = (vI s160.2.2) := hp 1 _ rfl rfl
                  have f2 : ux168 2 = (ptr b1 (0 + (s133.2.2).toNat * 4)) := hp 0 _ rfl rfl
                  exact Zm hE Za (dl rfl) (lk rfl f2) (lk rfl f1) Try.underlying98 ty5 hi172.1 fun a hE => ⟨Kept.refl _ _, _, _, rfl, hE, rfl⟩
                 ·intro a w ux168 hE hM hp
                  have f3 : ux168 3 = (ptr b1 (0 + (s133.2.2).toNat * 4 + (s160.2.2).toNat * 1)) := hp 0 _ rfl rfl
                  exact Zv (v := (vB x173)) hE Za (dl rfl) (lk rfl f3) ty5 rfl (At.vec (At.vec (hM.rawAt (pre := [_, _])) hi169.2) hi172.2) fun a hE => ⟨Kept.refl _ _, _, _, rfl, hE, rfl⟩
                 ·exact fun a w ux168 hE hM hp => Zd hE Za (dl rfl) rfl fun a hE => ⟨Kept.refl _ _, _, _, rfl, hE, rfl⟩
                 ·exact fun a w ux168 hE hM hp => Zd hE Za (dl rfl) rfl fun a hE => ⟨Kept.refl _ _, _, _, rfl, hE, rfl⟩
                 ·exact fun a w ux168 hE hM hp => Zd hE Za (dl rfl) rfl fun a hE => ⟨Kept.refl _ _, _, _, rfl, hE, rfl⟩
                 ·exact fun a w ux168 hE hM hp => Zd hE Za (dl rfl) rfl fun a hE => ⟨Kept.refl _ _, _, _, rfl, hE, rfl⟩
                 ·intro a w ux168 hE hM hp
                  have f7 : ux168 7 = (vI s13.2.2.1) := hp 0 _ rfl rfl
                  exact Zm hE Za (dl rfl) rfl (lk rfl f7) Try.underlying100 Va hi175.1 fun a hE => ⟨Kept.refl _ _, _, _, rfl, hE, rfl⟩
                 ·intro a w ux168 hE hM hp
                  have f8 : ux168 8 = (vI s160.2.2) := hp 1 _ rfl rfl
                  have f9 : ux168 9 = (ptr b1 (0 + (s13.2.2.1).toNat * 4)) := hp 0 _ rfl rfl
                  exact Zm hE Za (dl rfl) (lk rfl f9) (lk rfl f8) Try.underlying98 ty5 hi178.1 fun a hE => ⟨Kept.refl _ _, _, _, rfl, hE, rfl⟩
                 ·intro a w ux168 hE hM hp
                  have f10 : ux168 10 = (ptr b1 (0 + (s13.2.2.1).toNat * 4 + (s160.2.2).toNat * 1)) := hp 0 _ rfl rfl
                  exact Zv (v := (vB x179)) hE Za (dl rfl) (lk rfl f10) ty5 rfl (At.vec (At.vec (hM.rawAt (pre := [_, _])) hi175.2) hi178.2) fun a hE => ⟨Kept.refl _ _, _, _, rfl, hE, rfl⟩
                 ·intro a w ux168 hE hM hp
                  have f5 : ux168 5 = (vI p0) := hp 0 _ rfl rfl
                  have f6 : ux168 6 = (vB x145) := hp 1 _ rfl rfl
                  have f11 : ux168 11 = (vB x179) := hp 2 _ rfl rfl
                  refine Zw (vs := [(vI p0), (vB x145), (vB x179)]) hE Za (dl rfl) (Z0 (ZY (lk rfl f5) (ZY (lk rfl f6) (ZY (lk rfl f11) Xf)))) cb127 (Ys _ p0 x145 x179 r181 e182) ?_
                  rintro v w a ⟨rfl, hK⟩ hE
                  exact ⟨hK, _, _, rfl, hE, rfl⟩
                 ·intro a w ux168 hE hM hp
                  have f4 : ux168 4 = (vB x173) := hp 0 _ rfl rfl
                  have f12 : ux168 12 = (vB r181) := hp 1 _ rfl rfl
                  exact Zh hE Za (dl rfl) (lk rfl f4) (lk rfl f12) (Vo x173 r181) fun a hE => ⟨Kept.refl _ _, _, _, rfl, hE, rfl⟩
                 ·intro a w ux168 hE hM hp
                  have f0 : ux168 0 = (vI s133.2.2) := hp 0 _ rfl rfl
                  exact Zm hE Za (dl rfl) rfl (lk rfl f0) Try.underlying100 Va hi183.1 fun a hE => ⟨Kept.refl _ _, _, _, rfl, hE, rfl⟩
                 ·intro a w ux168 hE hM hp
                  have f1 : ux168 1 = (vI s160.2.2) := hp 1 _ rfl rfl
                  have f14 : ux168 14 = (ptr b1 (0 + (s133.2.2).toNat * 4)) := hp 0 _ rfl rfl
                  exact Zm hE Za (dl rfl) (lk rfl f14) (lk rfl f1) Try.underlying98 ty5 hi186.1 fun a hE => ⟨Kept.refl _ _, _, _, rfl, hE, rfl⟩
                 ·intro a w ux168 hE hM hg
                  have hE := hE.sub (e' := [(129, (vB (x173 ^^^ r181))), (131, (ptr b1 (0 + (s133.2.2).toNat * 4 + (s160.2.2).toNat * 1))), (0, (vI p0)), (3, (ptr b1 0)), (5, (ptr b3 0)), (6, (ptr b7 0)), (7, (vB r82)), (8, (vI s13.2.2.1)), (12, (vI s133.2.2)), (13, (vB x145)), (14, (vI s160.2.2)), (16, (vI s13.2.2.1)), (98, (vI s133.2.2)), (113, (vI s160.2.2)), (114, (vT (decide (s160.2.2 < 4)))), (115, (vI s160.2.2))]) ⟨lk rfl (hg 13 (by decide)), lk rfl (hg 15 (by decide)), rfl, rfl, rfl, rfl, rfl, rfl, rfl, rfl, rfl, rfl, rfl, rfl, rfl, rfl, trivial⟩
                  have hM := hM.pull (pre := [_, _])
                  refine Zs (seg := [(vB (x173 ^^^ r181))]) (cs' := Flat.enc (s160.1.setIfInBounds (s133.2.2).toNat (x184.setIfInBounds (s160.2.2).toNat (x173 ^^^ r181)))) hE hM Za rfl rfl rfl ty5 rfl (Vh (o' := 0 + (s160.2.2).toNat * 1) hi183 (ZT (v := x184) (x := x173 ^^^ r181) hi186.1) (by first | omega | (simp only [Flat.n] <;> omega))) (Flat.cell (x173 ^^^ r181 : UInt8)) (Wm (o' := 0 + (s160.2.2).toNat * 1) hi183 (ZT (v := x184) (x := x173 ^^^ r181) hi186.1) (ZI (v := x184) (x := x173 ^^^ r181) hi186.1) (by first | omega | (simp only [Flat.n] <;> omega))) ?_; intro w a hM hE
                  refine Zj ?_
                  have ht189 := Option.some.inj hl166
                  subst ht189
                  refine Zl ?_
                  have hM := hM.pull (pre := [_, _])
                  have hM := hM.pull (pre := [_, _])
                  exact ⟨hE.sub ⟨rfl, rfl, rfl, rfl, rfl, rfl, rfl, rfl, rfl, rfl, rfl, rfl, trivial⟩, hM⟩
                ·skip
                 rintro a w ⟨hE, hM⟩
                 obtain ⟨x192, e193, hF167⟩ := bind_some hF167
                 have hi191 := Zi e193
                 obtain ⟨x195, e196, hF167⟩ := bind_some hF167
                 have hi194 := Zi e196
                 obtain ⟨x198, e199, hF167⟩ := bind_some hF167
                 have hi197 := Zi e199
                 obtain ⟨x201, e202, hF167⟩ := bind_some hF167
                 have hi200 := Zi e202
                 obtain ⟨r203, e204, hF167⟩ := bind_some hF167
                 obtain ⟨x206, e207, hF167⟩ := bind_some hF167
                 have hi205 := Zi e207
                 obtain ⟨x209, e210, hF167⟩ := bind_some hF167
                 have hi208 := Zi e210
                 refine Yd (n := 153) (hd := [_, _, _, _, _, _, _, _, _, _, _, _, _, _, _, _]) (tl := [_]) YB rfl rfl [132, 133, 134, 135, 136, 137, 138, 139, 140, 141, 142, 143, 144, 145, 146, 147] (by decide) (fun w => M (Old w0) w0 w [raw b7 (Flat.enc s160.2.1), raw b3 (Flat.enc (Vector.replicate 4 (Vector.replicate 4 (0 : UInt8)))), raw b1 (Flat.enc j165)]) (fun j => ([fun v _ => v = (vI s133.2.2), fun v _ => v = (vI s160.2.2), fun v _ => v = (ptr b7 (0 + (s133.2.2).toNat * 4)), fun v _ => v = (ptr b7 (0 + (s133.2.2).toNat * 4 + (s160.2.2).toNat * 1)), fun v _ => v = (vB x195), fun v _ => v = (vI p0), fun v _ => v = (vB x145), fun v _ => v = (vI s13.2.2.1), fun v _ => v = (vI s160.2.2), fun v _ => v = (ptr b7 (0 + (s13.2.2.1).toNat * 4)), fun v _ => v = (ptr b7 (0 + (s13.2.2.1).toNat * 4 + (s160.2.2).toNat * 1)), fun v _ => v = (vB x201), fun v _ => v = (vB r203), fun v _ => v = (vB (x195 ^^^ r203)), fun v _ => v = (ptr b7 (0 + (s133.2.2).toNat * 4)), fun v _ => v = (ptr b7 (0 + (s133.2.2).toNat * 4 + (s160.2.2).toNat * 1))] : List (Value → World → Prop)).getD j (fun _ _ => True)) (fun _ _ h hk => h.keep hk) (gup (Zg (Zg (Zg (Zg (Zg (Zg (Zg (Zg (Zg (Zg (Zg (Zg (Zg (Zg (Zg (Zg Wu))))))))))))))))) hE hM.drew (ZH (Zb ?_ (Zb ?_ (Zb ?_ (Zb ?_ (Zb ?_ (Zb ?_ (Zb ?_ (Zb ?_ (Zb ?_ (Zb ?_ (Zb ?_ (Zb ?_ (Zb ?_ (Zb ?_ (Zb ?_ (Zb ?_ ZD))))))))))))))))) ?_
                 ·exact fun a w ux190 hE hM hp => Zd hE Za (dl rfl) rfl fun a hE => ⟨Kept.refl _ _, _, _, rfl, hE, rfl⟩
                 ·exact fun a w ux190 hE hM hp => Zd hE Za (dl rfl) rfl fun a hE => ⟨Kept.refl _ _, _, _, rfl, hE, rfl⟩
                 ·intro a w ux190 hE hM hp
                  have f0 : ux190 0 = (vI s133.2.2) := hp 0 _ rfl rfl
                  exact Zm hE Za (dl rfl) rfl (lk rfl f0) Try.underlying100 Va hi191.1 fun a hE => ⟨Kept.refl _ _, _, _, rfl, hE, rfl⟩
                 ·intro a w ux190 hE hM hp
                  have f1 : ux190 1 = (vI s160.2.2) := hp 1 _ rfl rfl
                  have f2 : ux190 2 = (ptr b7 (0 + (s133.2.2).toNat * 4)) := hp 0 _ rfl rfl
                  exact Zm hE Za (dl rfl) (lk rfl f2) (lk rfl f1) Try.underlying98 ty5 hi194.1 fun a hE => ⟨Kept.refl _ _, _, _, rfl, hE, rfl⟩
                 ·intro a w ux190 hE hM hp
                  have f3 : ux190 3 = (ptr b7 (0 + (s133.2.2).toNat * 4 + (s160.2.2).toNat * 1)) := hp 0 _ rfl rfl
                  exact Zv (v := (vB x195)) hE Za (dl rfl) (lk rfl f3) ty5 rfl (At.vec (At.vec (hM.rawAt (pre := [])) hi191.2) hi194.2) fun a hE => ⟨Kept.refl _ _, _, _, rfl, hE, rfl⟩
                 ·exact fun a w ux190 hE hM hp => Zd hE Za (dl rfl) rfl fun a hE => ⟨Kept.refl _ _, _, _, rfl, hE, rfl⟩
                 ·exact fun a w ux190 hE hM hp => Zd hE Za (dl rfl) rfl fun a hE => ⟨Kept.refl _ _, _, _, rfl, hE, rfl⟩
                 ·exact fun a w ux190 hE hM hp => Zd hE Za (dl rfl) rfl fun a hE => ⟨Kept.refl _ _, _, _, rfl, hE, rfl⟩
                 ·exact fun a w ux190 hE hM hp => Zd hE Za (dl rfl) rfl fun a hE => ⟨Kept.refl _ _, _, _, rfl, hE, rfl⟩
                 ·intro a w ux190 hE hM hp
                  have f7 : ux190 7 = (vI s13.2.2.1) := hp 0 _ rfl rfl
                  exact Zm hE Za (dl rfl) rfl (lk rfl f7) Try.underlying100 Va hi197.1 fun a hE => ⟨Kept.refl _ _, _, _, rfl, hE, rfl⟩
                 ·intro a w ux190 hE hM hp
                  have f8 : ux190 8 = (vI s160.2.2) := hp 1 _ rfl rfl
                  have f9 : ux190 9 = (ptr b7 (0 + (s13.2.2.1).toNat * 4)) := hp 0 _ rfl rfl
                  exact Zm hE Za (dl rfl) (lk rfl f9) (lk rfl f8) Try.underlying98 ty5 hi200.1 fun a hE => ⟨Kept.refl _ _, _, _, rfl, hE, rfl⟩
                 ·intro a w ux190 hE hM hp
                  have f10 : ux190 10 = (ptr b7 (0 + (s13.2.2.1).toNat * 4 + (s160.2.2).toNat * 1)) := hp 0 _ rfl rfl
                  exact Zv (v := (vB x201)) hE Za (dl rfl) (lk rfl f10) ty5 rfl (At.vec (At.vec (hM.rawAt (pre := [])) hi197.2) hi200.2) fun a hE => ⟨Kept.refl _ _, _, _, rfl, hE, rfl⟩
                 ·intro a w ux190 hE hM hp
                  have f5 : ux190 5 = (vI p0) := hp 0 _ rfl rfl
                  have f6 : ux190 6 = (vB x145) := hp 1 _ rfl rfl
                  have f11 : ux190 11 = (vB x201) := hp 2 _ rfl rfl
                  refine Zw (vs := [(vI p0), (vB x145), (vB x201)]) hE Za (dl rfl) (Z0 (ZY (lk rfl f5) (ZY (lk rfl f6) (ZY (lk rfl f11) Xf)))) cb127 (Ys _ p0 x145 x201 r203 e204) ?_
                  rintro v w a ⟨rfl, hK⟩ hE
                  exact ⟨hK, _, _, rfl, hE, rfl⟩
                 ·intro a w ux190 hE hM hp
                  have f4 : ux190 4 = (vB x195) := hp 0 _ rfl rfl
                  have f12 : ux190 12 = (vB r203) := hp 1 _ rfl rfl
                  exact Zh hE Za (dl rfl) (lk rfl f4) (lk rfl f12) (Vo x195 r203) fun a hE => ⟨Kept.refl _ _, _, _, rfl, hE, rfl⟩
                 ·intro a w ux190 hE hM hp
                  have f0 : ux190 0 = (vI s133.2.2) := hp 0 _ rfl rfl
                  exact Zm hE Za (dl rfl) rfl (lk rfl f0) Try.underlying100 Va hi205.1 fun a hE => ⟨Kept.refl _ _, _, _, rfl, hE, rfl⟩
                 ·intro a w ux190 hE hM hp
                  have f1 : ux190 1 = (vI s160.2.2) := hp 1 _ rfl rfl
                  have f14 : ux190 14 = (ptr b7 (0 + (s133.2.2).toNat * 4)) := hp 0 _ rfl rfl
                  exact Zm hE Za (dl rfl) (lk rfl f14) (lk rfl f1) Try.underlying98 ty5 hi208.1 fun a hE => ⟨Kept.refl _ _, _, _, rfl, hE, rfl⟩
                 ·intro a w ux190 hE hM hg
                  have hE := hE.sub (e' := [(145, (vB (x195 ^^^ r203))), (147, (ptr b7 (0 + (s133.2.2).toNat * 4 + (s160.2.2).toNat * 1))), (0, (vI p0)), (3, (ptr b1 0)), (5, (ptr b3 0)), (6, (ptr b7 0)), (7, (vB r82)), (8, (vI s13.2.2.1)), (12, (vI s133.2.2)), (13, (vB x145)), (14, (vI s160.2.2)), (16, (vI s13.2.2.1)), (98, (vI s133.2.2)), (113, (vI s160.2.2))]) ⟨lk rfl (hg 13 (by decide)), lk rfl (hg 15 (by decide)), rfl, rfl, rfl, rfl, rfl, rfl, rfl, rfl, rfl, rfl, rfl, rfl, trivial⟩
                  refine Zs (seg := [(vB (x195 ^^^ r203))]) (cs' := Flat.enc (s160.2.1.setIfInBounds (s133.2.2).toNat (x206.setIfInBounds (s160.2.2).toNat (x195 ^^^ r203)))) hE hM Za rfl rfl rfl ty5 rfl (Vh (o' := 0 + (s160.2.2).toNat * 1) hi205 (ZT (v := x206) (x := x195 ^^^ r203) hi208.1) (by first | omega | (simp only [Flat.n] <;> omega))) (Flat.cell (x195 ^^^ r203 : UInt8)) (Wm (o' := 0 + (s160.2.2).toNat * 1) hi205 (ZT (v := x206) (x := x195 ^^^ r203) hi208.1) (ZI (v := x206) (x := x195 ^^^ r203) hi208.1) (by first | omega | (simp only [Flat.n] <;> omega))) ?_; intro w a hM hE
                  refine Zj (Yk (Zx (wp_region_lit (Zh hE Za (dl rfl) rfl rfl rfl ?_)))); intro a hE
                  refine Zd hE Za (dl rfl) rfl ?_; intro a hE
                  refine Zj (Zl ?_)
                  exact ⟨_, (Option.some.inj hF167).symm, hE.sub ⟨rfl, rfl, rfl, rfl, rfl, rfl, rfl, rfl, rfl, rfl, rfl, trivial⟩, hM⟩
               ·intro hb164
                have hs161 := Zz hs161 hb164
                refine wp_exit (Zr (Zr (Yj ?_)))
                have ht211 := hx162 _ (Option.some.inj hs161).symm
                subst ht211
                refine Zl ?_
                exact ⟨hE.sub ⟨rfl, rfl, rfl, rfl, rfl, rfl, rfl, rfl, trivial⟩, hM⟩
              ·skip
               rintro a w ⟨hE, hM⟩
               have ht212 := Option.some.inj hF159
               subst ht212
               refine Zl ?_
               exact ⟨hE.sub ⟨rfl, rfl, rfl, rfl, rfl, rfl, rfl, rfl, trivial⟩, hM⟩
             ·intro hb156
              have hl154 := Zz hl154 hb156
              refine wp_skip ?_
              have ht213 := Option.some.inj hl154
              subst ht213
              refine Zl ?_
              exact ⟨hE.sub ⟨rfl, rfl, rfl, rfl, rfl, rfl, rfl, rfl, trivial⟩, hM⟩
            ·skip
             rintro a w ⟨hE, hM⟩
             refine Yk ?_
             have ht214 := Option.some.inj hF155
             subst ht214
             refine Zl ?_
             exact ⟨hE.sub ⟨rfl, rfl, rfl, rfl, rfl, rfl, rfl, rfl, trivial⟩, hM⟩
          ·skip
           rintro a w ⟨hE, hM⟩
           refine wp_region_lit (Zh hE Za (dl rfl) rfl rfl rfl ?_); intro a hE
           refine Zd hE Za (dl rfl) rfl ?_; intro a hE
           refine Zj (Zl ?_)
           exact ⟨_, (Option.some.inj hF140).symm, hE.sub ⟨rfl, rfl, rfl, rfl, rfl, rfl, rfl, rfl, trivial⟩, hM⟩
         ·intro hb137
          have hs134 := Zz hs134 hb137
          refine wp_exit (Zr (Zr (Yj ?_)))
          have ht215 := hx135 _ (Option.some.inj hs134).symm
          subst ht215
          refine Zl ?_
          exact ⟨hE.sub ⟨rfl, rfl, rfl, rfl, rfl, rfl, trivial⟩, hM⟩
        ·skip
         rintro a w ⟨hE, hM⟩
         refine Yk (Zx (wp_region_lit (Zh hE Za (dl rfl) rfl rfl rfl ?_))); intro a hE
         refine Zd hE Za (dl rfl) rfl ?_; intro a hE
         refine Zj (Zl ?_)
         exact ⟨_, (Option.some.inj hF132).symm, hE.sub ⟨rfl, rfl, rfl, rfl, rfl, rfl, trivial⟩, hM⟩
  ·intro hb17
   have hs14 := Zz hs14 hb17
   refine wp_exit (Zr (Zr (Yj ?_)))
   have ht216 := hx15 _ (Option.some.inj hs14).symm
   subst ht216
   refine Zl ?_
   have hM := hM.pull (pre := [_])
   have hM := hM.pull (pre := [_])
   have hM := M.fst (l := [_, _]) hM
   exact ⟨(s13.2.1, s13.2.2.2), rfl, hE.sub ⟨rfl, rfl, rfl, trivial⟩, hM⟩
 ·skip
  rintro a w ⟨s12, ht, hE, hM⟩
  subst ht
  have hF11 := el_nx hF11
  refine Zx ?_
  obtain ⟨j217, hl218, hF219⟩ := bind_some hF11
  refine ZS (fun a w => Env 153 a [(4, (vB j217.2)), (5, (ptr b3 0))] ∧ M (Old w0) w0 w [raw b3 (Flat.enc j217.1)]) ?_ ?_
  ·skip
   refine Yd (n := 153) (hd := [_, _, _]) (tl := [_]) YB rfl rfl [151, 152, 4] (by decide) (fun w => M (Old w0) w0 w [raw b7 (Flat.enc s12.1), raw b3 (Flat.enc (Vector.replicate 4 (Vector.replicate 4 (0 : UInt8))))]) (fun j => ([fun v _ => v = (vB s12.2), fun v _ => v = (Value.agg (Flat.enc s12.1).toArray), fun v _ => v = (vB s12.2)] : List (Value → World → Prop)).getD j (fun _ _ => True)) (fun _ _ h hk => h.keep hk) (gup (Zg (Zg (Zg Wu)))) hE hM.drew (ZH (Zb ?_ (Zb ?_ (Zb ?_ ZD)))) ?_
   ·exact fun a w ux220 hE hM hp => Zd hE Za (dl rfl) rfl fun a hE => ⟨Kept.refl _ _, _, _, rfl, hE, rfl⟩
   ·exact fun a w ux220 hE hM hp => Zp (cs := Flat.enc s12.1) hE Za (dl rfl) rfl VM rfl (hM.rawAt (pre := [])) (Flat.len _) fun a hE => ⟨Kept.refl _ _, _, _, rfl, hE, rfl⟩
   ·intro a w ux220 hE hM hp
    have f0 : ux220 0 = (vB s12.2) := hp 0 _ rfl rfl
    exact Ze hE Za (dl rfl) (lk rfl f0) fun a hE => ⟨Kept.refl _ _, _, _, rfl, hE, rfl⟩
   ·intro a w ux220 hE hM hg
    have hE := hE.sub (e' := [(152, (Value.agg (Flat.enc s12.1).toArray)), (4, (vB s12.2)), (5, (ptr b3 0)), (6, (ptr b7 0)), (7, (vB s12.2))]) ⟨lk rfl (hg 1 (by decide)), lk rfl (hg 2 (by decide)), rfl, rfl, rfl, trivial⟩
    have hM := hM.pull (pre := [_])
    refine Zs (seg := Flat.enc s12.1) (cs' := Flat.enc s12.1) hE hM Za rfl rfl rfl VM (Flat.len _) (zle flq) (Flat.cell _) (Zq flq) ?_; intro w a hM hE
    refine Zj ?_
    have ht221 := Option.some.inj hl218
    subst ht221
    refine Zl ?_
    have hM := M.fst (l := [_]) hM
    exact ⟨hE.sub ⟨rfl, rfl, trivial⟩, hM⟩
  ·skip
   rintro a w ⟨hE, hM⟩
   have hr := Option.some.inj hF219
   subst hr
   have hq222 : YR Try.prog _ _ (.cell 5 100) _ := Z6 hE rfl VM rfl (hM.rawAt (pre := [])) (Flat.len _) rfl
   have hM := M.fst (l := []) hM
   exact wp_ret (k_ret2 hE rfl (Zu hE rfl) hq222 ⟨_, rfl, rfl, hM.kept⟩)
noncomputable def YZ (p0 : (Vector UInt8 256)) (s10 : (Vector UInt8 256) × Int) : Option (Fl ((Vector UInt8 256) × Int) (Vector UInt8 256)) :=
 if (decide (s10.2 < 256)) = true then ((ZM p0 s10.2).bind fun x15 => (ZM s10.1 (bI x15)).bind fun x19 => some (Fl.nx ((s10.1.setIfInBounds ((bI x15)).toNat (ZG s10.2)), wr (s10.2 + 1)))) else (some (Fl.ex s10.1))
noncomputable def X6 (p0 : (Vector UInt8 256)) : Option ((Vector UInt8 256)) :=
 (ZF (YZ p0) ((Vector.replicate 256 (0 : UInt8)), 0) : Option ((Vector UInt8 256))).bind fun j7 => some j7
theorem c_impl_Box_inverse (w0 : World) (p0 : (Vector UInt8 256)) (r : (Vector UInt8 256)) (hF : X6 p0 = some r) :
  Calls Try.prog 108 [(Value.agg (Flat.enc p0).toArray)].toArray w0 (fun en w' => ∃ v, en = .returned v ∧ (v = (Value.agg (Flat.enc r).toArray) ∧ Kept (Old w0) w0 w')) := by
 refine ZC (n := 18) Try.func108 rfl rfl (Nat.le_of_ble_eq_true rfl) rfl ?_
 intro a hE
 have hM := M.start w0
 unfold X6 at hF
 refine Zc (Z4 (cs := Flat.enc p0) hE hM Za (dl rfl) rfl rfl ?_); intro b1 w a hM hE
 refine ZO hE hM Za (dl rfl) Vn ?_; intro b3 w a hM hE
 refine Zf (Zc (Xq (parts := []) (vs := []) (cs := Flat.enc (Vector.replicate 256 (0 : UInt8))) hE Za (dl rfl) rfl rfl Vn rfl ty5 YM ?_)); intro a hE
 refine ZO hE hM Za (dl rfl) Vn ?_; intro b5 w a hM hE
 refine Zs (seg := Flat.enc (Vector.replicate 256 (0 : UInt8))) (cs' := Flat.enc (Vector.replicate 256 (0 : UInt8))) hE hM Za rfl rfl rfl Vn (Flat.len _) (zle flq) (Flat.cell _) (Zq flq) ?_; intro w a hM hE
 refine Zf (wp_seq (Zc (Zp (cs := Flat.enc p0) hE Za (dl rfl) rfl Vn rfl (hM.rawAt (pre := [_, _])) (Flat.len _) ?_))); intro a hE
 refine Zd hE Za (dl rfl) rfl ?_; intro a hE
 refine Zf ?_
 obtain ⟨j7, hl8, hF9⟩ := bind_some hF
 refine ZV (fun a w => Env 18 a [(2, (ptr b3 0)), (3, (ptr b5 0))] ∧ M (Old w0) w0 w [raw b5 (Flat.enc j7), raw b3 (Flat.enc (Vector.replicate 256 (0 : UInt8)))]) ?_ ?_
 ·skip
  refine wp_block ?_
  have hM := hM.pull (pre := [_])
  have hM := hM.pull (pre := [_])
  have hM := M.fst (l := [_, _]) hM
  refine ZN (fun (s10 : (Vector UInt8 256) × Int) a w => Env 18 a [(2, (ptr b3 0)), (3, (ptr b5 0)), (7, (Value.agg (Flat.enc p0).toArray)), (8, (vI s10.2))] ∧ M (Old w0) w0 w [raw b5 (Flat.enc s10.1), raw b3 (Flat.enc (Vector.replicate 256 (0 : UInt8)))]) hl8 ⟨hE.sub ⟨rfl, rfl, rfl, rfl, trivial⟩, hM⟩ ?_
  rintro s10 a w ⟨hE, hM⟩ o13 hs11 hx12
  unfold YZ at hs11
  refine Zc (Zh hE Za (dl rfl) rfl rfl rfl ?_); intro a hE
  refine Zf (wp_seq ?_)
  refine Zt hE rfl ?_ ?_
  ·intro hb14
   have hs11 := ZA hs11 hb14
   refine wp_skip (Zx (wp_seq (wp_block (Zc (Zd hE Za (dl rfl) rfl ?_))))); intro a hE
   obtain ⟨x15, e16, hs11⟩ := bind_some hs11
   have hi17 := Zi e16
   refine s_indexV hE Za (dl rfl) rfl rfl Try.underlying97 ty5 rfl rfl hi17 rfl ?_; intro a hE
   refine Ze hE Za (dl rfl) rfl ?_; intro a hE
   refine Ze hE Za (dl rfl) rfl ?_; intro a hE
   refine Zf (wp_region_lit (Zd hE Za (dl rfl) rfl ?_)); intro a hE
   refine Zd hE Za (dl rfl) rfl ?_; intro a hE
   refine YK hE Za (dl rfl) rfl Try.underlying3 Try.underlying5 ?_; intro a hE
   rw [Yf] at hE
   obtain ⟨x19, e20, hs11⟩ := bind_some hs11
   have hi18 := Zi e20
   refine Zm hE Za (dl rfl) rfl rfl Try.underlying97 ty5 hi18.1 ?_; intro a hE
   refine Zs (seg := [(vB (ZG s10.2))]) (cs' := Flat.enc (s10.1.setIfInBounds ((bI x15)).toNat (ZG s10.2))) hE hM Za rfl rfl rfl ty5 rfl (ZT (v := s10.1) (x := ZG s10.2) hi18.1) (Flat.cell (ZG s10.2 : UInt8)) (ZI (v := s10.1) (x := ZG s10.2) hi18.1) ?_; intro w a hM hE
   refine Zj (Yk (Zx (wp_region_lit (Zh hE Za (dl rfl) rfl rfl rfl ?_)))); intro a hE
   refine Zd hE Za (dl rfl) rfl ?_; intro a hE
   refine Zj (Zl ?_)
   exact ⟨_, (Option.some.inj hs11).symm, hE.sub ⟨rfl, rfl, rfl, rfl, trivial⟩, hM⟩
  ·intro hb14
   have hs11 := Zz hs11 hb14
   refine wp_exit (Zr (Zr (Yj ?_)))
   have ht21 := hx12 _ (Option.some.inj hs11).symm
   subst ht21
   refine Zl ?_
   exact ⟨hE.sub ⟨rfl, rfl, trivial⟩, hM⟩
 ·skip
  rintro a w ⟨hE, hM⟩
  refine Zx (Zc (Zp (cs := Flat.enc j7) hE Za (dl rfl) rfl Vn rfl (hM.rawAt (pre := [])) (Flat.len _) ?_)); intro a hE
  have hM := hM.pull (pre := [_])
  refine Zs (seg := Flat.enc j7) (cs' := Flat.enc j7) hE hM Za rfl rfl rfl Vn (Flat.len _) (zle flq) (Flat.cell _) (Zq flq) ?_; intro w a hM hE
  refine Zf ?_
  have hr := Option.some.inj hF9
  subst hr
  have hq22 : YR Try.prog _ _ (.cell 2 97) _ := Z6 hE rfl Vn rfl (hM.rawAt (pre := [])) (Flat.len _) rfl
  have hM := M.fst (l := []) hM
  exact wp_ret (Zy hE rfl hq22 ⟨_, rfl, rfl, hM.kept⟩)
noncomputable def Yw (p0 : (Vector UInt8 16)) (s10 : (Vector UInt8 16) × Int) : Option (Fl ((Vector UInt8 16) × Int) (Vector UInt8 16)) :=
 if (decide (s10.2 < 16)) = true then ((ZM p0 s10.2).bind fun x15 => (ZM s10.1 (bI x15)).bind fun x19 => some (Fl.nx ((s10.1.setIfInBounds ((bI x15)).toNat (ZG s10.2)), wr (s10.2 + 1)))) else (some (Fl.ex s10.1))
noncomputable def Y8 (p0 : (Vector UInt8 16)) : Option ((Vector UInt8 16)) :=
 (ZF (Yw p0) ((Vector.replicate 16 (0 : UInt8)), 0) : Option ((Vector UInt8 16))).bind fun j7 => some j7
theorem c_impl_Places_inverse (w0 : World) (p0 : (Vector UInt8 16)) (r : (Vector UInt8 16)) (hF : Y8 p0 = some r) :
  Calls Try.prog 109 [(Value.agg (Flat.enc p0).toArray)].toArray w0 (fun en w' => ∃ v, en = .returned v ∧ (v = (Value.agg (Flat.enc r).toArray) ∧ Kept (Old w0) w0 w')) := by
 refine ZC (n := 18) Try.func109 rfl rfl (Nat.le_of_ble_eq_true rfl) rfl ?_
 intro a hE
 have hM := M.start w0
 unfold Y8 at hF
 refine Zc (Z4 (cs := Flat.enc p0) hE hM Za (dl rfl) rfl rfl ?_); intro b1 w a hM hE
 refine ZO hE hM Za (dl rfl) ty101 ?_; intro b3 w a hM hE
 refine Zf (Zc (Xq (parts := []) (vs := []) (cs := Flat.enc (Vector.replicate 16 (0 : UInt8))) hE Za (dl rfl) rfl rfl ty101 rfl ty5 YM ?_)); intro a hE
 refine ZO hE hM Za (dl rfl) ty101 ?_; intro b5 w a hM hE
 refine Zs (seg := Flat.enc (Vector.replicate 16 (0 : UInt8))) (cs' := Flat.enc (Vector.replicate 16 (0 : UInt8))) hE hM Za rfl rfl rfl ty101 (Flat.len _) (zle flq) (Flat.cell _) (Zq flq) ?_; intro w a hM hE
 refine Zf (wp_seq (Zc (Zp (cs := Flat.enc p0) hE Za (dl rfl) rfl ty101 rfl (hM.rawAt (pre := [_, _])) (Flat.len _) ?_))); intro a hE
 refine Zd hE Za (dl rfl) rfl ?_; intro a hE
 refine Zf ?_
 obtain ⟨j7, hl8, hF9⟩ := bind_some hF
 refine ZV (fun a w => Env 18 a [(2, (ptr b3 0)), (3, (ptr b5 0))] ∧ M (Old w0) w0 w [raw b5 (Flat.enc j7), raw b3 (Flat.enc (Vector.replicate 16 (0 : UInt8)))]) ?_ ?_
 ·skip
  refine wp_block ?_
  have hM := hM.pull (pre := [_])
  have hM := hM.pull (pre := [_])
  have hM := M.fst (l := [_, _]) hM
  refine ZN (fun (s10 : (Vector UInt8 16) × Int) a w => Env 18 a [(2, (ptr b3 0)), (3, (ptr b5 0)), (7, (Value.agg (Flat.enc p0).toArray)), (8, (vI s10.2))] ∧ M (Old w0) w0 w [raw b5 (Flat.enc s10.1), raw b3 (Flat.enc (Vector.replicate 16 (0 : UInt8)))]) hl8 ⟨hE.sub ⟨rfl, rfl, rfl, rfl, trivial⟩, hM⟩ ?_
  rintro s10 a w ⟨hE, hM⟩ o13 hs11 hx12
  unfold Yw at hs11
  refine Zc (Zh hE Za (dl rfl) rfl rfl rfl ?_); intro a hE
  refine Zf (wp_seq ?_)
  refine Zt hE rfl ?_ ?_
  ·intro hb14
   have hs11 := ZA hs11 hb14
   refine wp_skip (Zx (wp_seq (wp_block (Zc (Zd hE Za (dl rfl) rfl ?_))))); intro a hE
   obtain ⟨x15, e16, hs11⟩ := bind_some hs11
   have hi17 := Zi e16
   refine s_indexV hE Za (dl rfl) rfl rfl Try.underlying101 ty5 rfl rfl hi17 rfl ?_; intro a hE
   refine Ze hE Za (dl rfl) rfl ?_; intro a hE
   refine Ze hE Za (dl rfl) rfl ?_; intro a hE
   refine Zf (wp_region_lit (Zd hE Za (dl rfl) rfl ?_)); intro a hE
   refine Zd hE Za (dl rfl) rfl ?_; intro a hE
   refine YK hE Za (dl rfl) rfl Try.underlying3 Try.underlying5 ?_; intro a hE
   rw [Yf] at hE
   obtain ⟨x19, e20, hs11⟩ := bind_some hs11
   have hi18 := Zi e20
   refine Zm hE Za (dl rfl) rfl rfl Try.underlying101 ty5 hi18.1 ?_; intro a hE
   refine Zs (seg := [(vB (ZG s10.2))]) (cs' := Flat.enc (s10.1.setIfInBounds ((bI x15)).toNat (ZG s10.2))) hE hM Za rfl rfl rfl ty5 rfl (ZT (v := s10.1) (x := ZG s10.2) hi18.1) (Flat.cell (ZG s10.2 : UInt8)) (ZI (v := s10.1) (x := ZG s10.2) hi18.1) ?_; intro w a hM hE
   refine Zj (Yk (Zx (wp_region_lit (Zh hE Za (dl rfl) rfl rfl rfl ?_)))); intro a hE
   refine Zd hE Za (dl rfl) rfl ?_; intro a hE
   refine Zj (Zl ?_)
   exact ⟨_, (Option.some.inj hs11).symm, hE.sub ⟨rfl, rfl, rfl, rfl, trivial⟩, hM⟩
  ·intro hb14
   have hs11 := Zz hs11 hb14
   refine wp_exit (Zr (Zr (Yj ?_)))
   have ht21 := hx12 _ (Option.some.inj hs11).symm
   subst ht21
   refine Zl ?_
   exact ⟨hE.sub ⟨rfl, rfl, trivial⟩, hM⟩
 ·skip
  rintro a w ⟨hE, hM⟩
  refine Zx (Zc (Zp (cs := Flat.enc j7) hE Za (dl rfl) rfl ty101 rfl (hM.rawAt (pre := [])) (Flat.len _) ?_)); intro a hE
  have hM := hM.pull (pre := [_])
  refine Zs (seg := Flat.enc j7) (cs' := Flat.enc j7) hE hM Za rfl rfl rfl ty101 (Flat.len _) (zle flq) (Flat.cell _) (Zq flq) ?_; intro w a hM hE
  refine Zf ?_
  have hr := Option.some.inj hF9
  subst hr
  have hq22 : YR Try.prog _ _ (.cell 2 101) _ := Z6 hE rfl ty101 rfl (hM.rawAt (pre := [])) (Flat.len _) rfl
  have hM := M.fst (l := []) hM
  exact wp_ret (Zy hE rfl hq22 ⟨_, rfl, rfl, hM.kept⟩)
noncomputable def XQ (s8 : (Vector (Vector (Vector UInt8 256) 4) 4) × Int) (s19 : (Vector (Vector (Vector UInt8 256) 4) 4) × Int) (s30 : (Vector (Vector (Vector UInt8 256) 4) 4) × Int) (r35 : UInt8) (s40 : (Vector (Vector (Vector UInt8 256) 4) 4) × Int) : Option (Fl ((Vector (Vector (Vector UInt8 256) 4) 4) × Int) (Vector (Vector (Vector UInt8 256) 4) 4)) :=
 if (decide (s40.2 < s30.2)) = true then ((ZM s40.1 s8.2).bind fun x47 => (ZM x47 s19.2).bind fun x50 => (ZM x50 s40.2).bind fun x53 => (ZM s40.1 s8.2).bind fun x56 => (ZM x56 s19.2).bind fun x59 => (ZM x59 (orI s30.2 s40.2)).bind fun x62 => some (Fl.nx ((s40.1.setIfInBounds (s8.2).toNat (x56.setIfInBounds (s19.2).toNat (x59.setIfInBounds ((orI s30.2 s40.2)).toNat (r35 ^^^ x53)))), wr (s40.2 + 1)))) else (some (Fl.ex s40.1))
noncomputable def XT (p0 : Int) (s8 : (Vector (Vector (Vector UInt8 256) 4) 4) × Int) (s19 : (Vector (Vector (Vector UInt8 256) 4) 4) × Int) (x24 : UInt8) (s30 : (Vector (Vector (Vector UInt8 256) 4) 4) × Int) : Option (Fl ((Vector (Vector (Vector UInt8 256) 4) 4) × Int) (Vector (Vector (Vector UInt8 256) 4) 4)) :=
 if (decide (s30.2 < 256)) = true then ((Z3 p0 x24 (ZG s30.2)).bind fun r35 => (ZF (XQ s8 s19 s30 r35) (s30.1, 0) : Option ((Vector (Vector (Vector UInt8 256) 4) 4))).bind fun j37 => some (Fl.nx (j37, wr (s30.2 * 2)))) else (some (Fl.ex s30.1))
noncomputable def XO (p0 : Int) (s8 : (Vector (Vector (Vector UInt8 256) 4) 4) × Int) (x14 : (Vector UInt8 4)) (s19 : (Vector (Vector (Vector UInt8 256) 4) 4) × Int) : Option (Fl ((Vector (Vector (Vector UInt8 256) 4) 4) × Int) (Vector (Vector (Vector UInt8 256) 4) 4)) :=
 if (decide (s19.2 < 4)) = true then ((ZM x14 s19.2).bind fun x24 => (ZF (XT p0 s8 s19 x24) (s19.1, 1) : Option ((Vector (Vector (Vector UInt8 256) 4) 4))).bind fun j27 => some (Fl.nx (j27, wr (s19.2 + 1)))) else (some (Fl.ex s19.1))
noncomputable def XX (p0 : Int) (p1 : (Vector (Vector UInt8 4) 4)) (s8 : (Vector (Vector (Vector UInt8 256) 4) 4) × Int) : Option (Fl ((Vector (Vector (Vector UInt8 256) 4) 4) × Int) (Vector (Vector (Vector UInt8 256) 4) 4)) :=
 if (decide (s8.2 < 4)) = true then ((ZM p1 s8.2).bind fun x14 => (ZF (XO p0 s8 x14) (s8.1, 0) : Option ((Vector (Vector (Vector UInt8 256) 4) 4))).bind fun j16 => some (Fl.nx (j16, wr (s8.2 + 1)))) else (some (Fl.ex s8.1))
noncomputable def Wi (p0 : Int) (p1 : (Vector (Vector UInt8 4) 4)) : Option ((Ref (Vector (Vector (Vector UInt8 256) 4) 4))) :=
 (ZF (XX p0 p1) ((Vector.replicate 4 (Vector.replicate 4 (Vector.replicate 256 (0 : UInt8)))), 0) : Option ((Vector (Vector (Vector UInt8 256) 4) 4))).bind fun j5 => some (⟨j5⟩ : (Ref (Vector (Vector (Vector UInt8 256) 4) 4)))
theorem c_impl_newMixer (w0 : World) (p0 : Int) (p1 : (Vector (Vector UInt8 4) 4)) (r : (Ref (Vector (Vector (Vector UInt8 256) 4) 4))) (hF : Wi p0 p1 = some r) :
  Calls Try.prog 110 [(vI p0), (Value.agg (Flat.enc p1).toArray)].toArray w0 (fun en w' => ∃ v, en = .returned v ∧ (∃ (y1 : Value), v = y1 ∧ Fr w0 w' [own NoB (r : (Ref (Vector (Vector (Vector UInt8 256) 4) 4))) [y1]] ∧ Kept (Old w0) w0 w')) := by
 refine ZC (n := 62) Try.func110 rfl rfl (Nat.le_of_ble_eq_true rfl) rfl ?_
 intro a hE
 have hM := M.start w0
 unfold Wi at hF
 refine Zc (Z4 (cs := Flat.enc p1) hE hM Za (dl rfl) rfl rfl ?_); intro b1 w a hM hE
 refine Ze hE Za (dl rfl) rfl ?_; intro a hE
 refine Zf (Zc (Xq (parts := []) (vs := []) (cs := Flat.enc (Vector.replicate 4 (Vector.replicate 4 (Vector.replicate 256 (0 : UInt8))))) hE Za (dl rfl) rfl rfl ty168 rfl ty166 YM ?_)); intro a hE
 refine Z4 (cs := Flat.enc (Vector.replicate 4 (Vector.replicate 4 (Vector.replicate 256 (0 : UInt8))))) hE hM Za (dl rfl) rfl rfl ?_; intro b3 w a hM hE
 refine Ze hE Za (dl rfl) rfl ?_; intro a hE
 refine Zf (wp_seq (Zc (Zd hE Za (dl rfl) rfl ?_))); intro a hE
 refine Zf ?_
 obtain ⟨j5, hl6, hF7⟩ := bind_some hF
 refine ZV (fun a w => Env 62 a [(5, (ptr b3 0))] ∧ M (Old w0) w0 w [raw b3 (Flat.enc j5)]) ?_ ?_
 ·skip
  refine wp_block ?_
  refine ZN (fun (s8 : (Vector (Vector (Vector UInt8 256) 4) 4) × Int) a w => Env 62 a [(0, (vI p0)), (3, (ptr b1 0)), (5, (ptr b3 0)), (14, (vI s8.2))] ∧ M (Old w0) w0 w [raw b3 (Flat.enc s8.1), raw b1 (Flat.enc p1)]) hl6 ⟨hE.sub ⟨rfl, rfl, rfl, rfl, trivial⟩, hM⟩ ?_
  rintro s8 a w ⟨hE, hM⟩ o11 hs9 hx10
  unfold XX at hs9
  refine Zc (Zh hE Za (dl rfl) rfl rfl rfl ?_); intro a hE
  refine Zf (wp_seq ?_)
  refine Zt hE rfl ?_ ?_
  ·intro hb12
   have hs9 := ZA hs9 hb12
   refine wp_skip (Zx (wp_seq (wp_block (Zc (Zd hE Za (dl rfl) rfl ?_))))); intro a hE
   refine Ze hE Za (dl rfl) rfl ?_; intro a hE
   refine Zf (Zc (Zd hE Za (dl rfl) rfl ?_)); intro a hE
   obtain ⟨x14, e15, hs9⟩ := bind_some hs9
   have hi13 := Zi e15
   refine Zm hE Za (dl rfl) rfl rfl Try.underlying100 Va hi13.1 ?_; intro a hE
   refine Zp (cs := Flat.enc x14) hE Za (dl rfl) rfl Va rfl (At.vec (hM.rawAt (pre := [_])) hi13.2) (Flat.len _) ?_; intro a hE
   refine Zd hE Za (dl rfl) rfl ?_; intro a hE
   refine Zf ?_
   obtain ⟨j16, hl17, hF18⟩ := bind_some hs9
   refine ZV (fun a w => Env 62 a [(0, (vI p0)), (3, (ptr b1 0)), (5, (ptr b3 0)), (14, (vI s8.2))] ∧ M (Old w0) w0 w [raw b3 (Flat.enc j16), raw b1 (Flat.enc p1)]) ?_ ?_
   ·skip
    refine wp_block ?_
    refine ZN (fun (s19 : (Vector (Vector (Vector UInt8 256) 4) 4) × Int) a w => Env 62 a [(0, (vI p0)), (3, (ptr b1 0)), (5, (ptr b3 0)), (6, (vI s8.2)), (14, (vI s8.2)), (19, (Value.agg (Flat.enc x14).toArray)), (20, (vI s19.2))] ∧ M (Old w0) w0 w [raw b3 (Flat.enc s19.1), raw b1 (Flat.enc p1)]) hl17 ⟨hE.sub ⟨rfl, rfl, rfl, rfl, rfl, rfl, rfl, trivial⟩, hM⟩ ?_
    rintro s19 a w ⟨hE, hM⟩ o22 hs20 hx21
    unfold XO at hs20
    refine Zc (Zh hE Za (dl rfl) rfl rfl rfl ?_); intro a hE
    refine Zf (wp_seq ?_)
    refine Zt hE rfl ?_ ?_
    ·intro hb23
     have hs20 := ZA hs20 hb23
     refine wp_skip (Zx (wp_seq (wp_block (Zc (Zd hE Za (dl rfl) rfl ?_))))); intro a hE
     obtain ⟨x24, e25, hs20⟩ := bind_some hs20
     have hi26 := Zi e25
     refine s_indexV hE Za (dl rfl) rfl rfl Try.underlying98 ty5 rfl rfl hi26 rfl ?_; intro a hE
     refine Ze hE Za (dl rfl) rfl ?_; intro a hE
     refine Ze hE Za (dl rfl) rfl ?_; intro a hE
     refine Zf (Zc (Ze hE Za (dl rfl) rfl ?_)); intro a hE
     refine Zf ?_
     obtain ⟨j27, hl28, hF29⟩ := bind_some hs20
     refine ZV (fun a w => Env 62 a [(0, (vI p0)), (3, (ptr b1 0)), (5, (ptr b3 0)), (6, (vI s8.2)), (14, (vI s8.2)), (19, (Value.agg (Flat.enc x14).toArray)), (20, (vI s19.2))] ∧ M (Old w0) w0 w [raw b3 (Flat.enc j27), raw b1 (Flat.enc p1)]) ?_ ?_
     ·skip
      refine wp_block ?_
      refine ZN (fun (s30 : (Vector (Vector (Vector UInt8 256) 4) 4) × Int) a w => Env 62 a [(0, (vI p0)), (3, (ptr b1 0)), (5, (ptr b3 0)), (6, (vI s8.2)), (7, (vI s19.2)), (8, (vB x24)), (9, (vI s30.2)), (14, (vI s8.2)), (19, (Value.agg (Flat.enc x14).toArray)), (20, (vI s19.2))] ∧ M (Old w0) w0 w [raw b3 (Flat.enc s30.1), raw b1 (Flat.enc p1)]) hl28 ⟨hE.sub ⟨rfl, rfl, rfl, rfl, rfl, rfl, rfl, rfl, rfl, rfl, trivial⟩, hM⟩ ?_
      rintro s30 a w ⟨hE, hM⟩ o33 hs31 hx32
      unfold XT at hs31
      refine wp_seq (Zc (Zd hE Za (dl rfl) rfl ?_)); intro a hE
      refine Zh hE Za (dl rfl) rfl rfl rfl ?_; intro a hE
      refine Zf ?_
      refine Zt hE rfl ?_ ?_
      ·intro hb34
       have hs31 := ZA hs31 hb34
       refine wp_skip (Zx (wp_seq (wp_block (Zc (Zd hE Za (dl rfl) rfl ?_))))); intro a hE
       refine Zd hE Za (dl rfl) rfl ?_; intro a hE
       refine Zd hE Za (dl rfl) rfl ?_; intro a hE
       refine YK hE Za (dl rfl) rfl Try.underlying3 Try.underlying5 ?_; intro a hE
       rw [Yf] at hE
       obtain ⟨r35, e36, hs31⟩ := bind_some hs31
       refine Zw (vs := [(vI p0), (vB x24), (vB (ZG s30.2))]) hE Za (dl rfl) rfl cb127 (Ys _ p0 x24 (ZG s30.2) r35 e36) ?_
       rintro v w a ⟨rfl, hK⟩ hE
       have hM := hM.keep hK
       refine Ze hE Za (dl rfl) rfl ?_; intro a hE
       refine Zf (Zc (Zd hE Za (dl rfl) rfl ?_)); intro a hE
       refine Zd hE Za (dl rfl) rfl ?_; intro a hE
       refine Zf ?_
       obtain ⟨j37, hl38, hF39⟩ := bind_some hs31
       refine ZV (fun a w => Env 62 a [(0, (vI p0)), (3, (ptr b1 0)), (5, (ptr b3 0)), (6, (vI s8.2)), (7, (vI s19.2)), (8, (vB x24)), (9, (vI s30.2)), (14, (vI s8.2)), (19, (Value.agg (Flat.enc x14).toArray)), (20, (vI s19.2))] ∧ M (Old w0) w0 w [raw b3 (Flat.enc j37), raw b1 (Flat.enc p1)]) ?_ ?_
       ·skip
        refine wp_block ?_
        refine ZN (fun (s40 : (Vector (Vector (Vector UInt8 256) 4) 4) × Int) a w => Env 62 a [(0, (vI p0)), (3, (ptr b1 0)), (5, (ptr b3 0)), (6, (vI s8.2)), (7, (vI s19.2)), (8, (vB x24)), (9, (vI s30.2)), (10, (vB r35)), (14, (vI s8.2)), (19, (Value.agg (Flat.enc x14).toArray)), (20, (vI s19.2)), (33, (vI s30.2)), (34, (vI s40.2))] ∧ M (Old w0) w0 w [raw b3 (Flat.enc s40.1), raw b1 (Flat.enc p1)]) hl38 ⟨hE.sub ⟨rfl, rfl, rfl, rfl, rfl, rfl, rfl, rfl, rfl, rfl, rfl, rfl, rfl, trivial⟩, hM⟩ ?_
        rintro s40 a w ⟨hE, hM⟩ o43 hs41 hx42
        unfold XQ at hs41
        refine Zc (Zh hE Za (dl rfl) rfl rfl rfl ?_); intro a hE
        refine Zf (wp_seq ?_)
        refine Zt hE rfl ?_ ?_
        ·intro hb44
         have hs41 := ZA hs41 hb44
         refine wp_skip (Zx (wp_seq (wp_block (Zc (Zd hE Za (dl rfl) rfl ?_))))); intro a hE
         refine Ze hE Za (dl rfl) rfl ?_; intro a hE
         refine Zf ?_
         obtain ⟨x47, e48, hs41⟩ := bind_some hs41
         have hi46 := Zi e48
         obtain ⟨x50, e51, hs41⟩ := bind_some hs41
         have hi49 := Zi e51
         obtain ⟨x53, e54, hs41⟩ := bind_some hs41
         have hi52 := Zi e54
         obtain ⟨x56, e57, hs41⟩ := bind_some hs41
         have hi55 := Zi e57
         obtain ⟨x59, e60, hs41⟩ := bind_some hs41
         have hi58 := Zi e60
         obtain ⟨x62, e63, hs41⟩ := bind_some hs41
         have hi61 := Zi e63
         refine Yd (n := 62) (hd := [_, _, _, _, _, _, _, _, _, _, _, _, _, _, _, _, _, _, _, _, _]) (tl := [_]) YB rfl rfl [37, 38, 39, 40, 41, 42, 43, 44, 45, 46, 47, 48, 49, 50, 51, 52, 53, 54, 55, 56, 57] (by decide) (fun w => M (Old w0) w0 w [raw b3 (Flat.enc s40.1), raw b1 (Flat.enc p1)]) (fun j => ([fun v _ => v = (ptr b3 0), fun v _ => v = (vI s8.2), fun v _ => v = (vI s19.2), fun v _ => v = (vI s30.2), fun v _ => v = (vI s40.2), fun v _ => v = (vI (orI s30.2 s40.2)), fun v _ => v = (vB r35), fun v _ => v = (ptr b3 0), fun v _ => v = (vI s8.2), fun v _ => v = (vI s19.2), fun v _ => v = (vI s40.2), fun v _ => v = (ptr b3 0), fun v _ => v = (ptr b3 (0 + (s8.2).toNat * 1024)), fun v _ => v = (ptr b3 (0 + (s8.2).toNat * 1024 + (s19.2).toNat * 256)), fun v _ => v = (ptr b3 (0 + (s8.2).toNat * 1024 + (s19.2).toNat * 256 + (s40.2).toNat * 1)), fun v _ => v = (vB x53), fun v _ => v = (vB (r35 ^^^ x53)), fun v _ => v = (ptr b3 0), fun v _ => v = (ptr b3 (0 + (s8.2).toNat * 1024)), fun v _ => v = (ptr b3 (0 + (s8.2).toNat * 1024 + (s19.2).toNat * 256)), fun v _ => v = (ptr b3 (0 + (s8.2).toNat * 1024 + (s19.2).toNat * 256 + ((orI s30.2 s40.2)).toNat * 1))] : List (Value → World → Prop)).getD j (fun _ _ => True)) (fun _ _ h hk => h.keep hk) (gup (Zg (Zg (Zg (Zg (Zg (Zg (Zg (Zg (Zg (Zg (Zg (Zg (Zg (Zg (Zg (Zg (Zg (Zg (Zg (Zg (Zg Wu)))))))))))))))))))))) hE hM.drew (ZH (Zb ?_ (Zb ?_ (Zb ?_ (Zb ?_ (Zb ?_ (Zb ?_ (Zb ?_ (Zb ?_ (Zb ?_ (Zb ?_ (Zb ?_ (Zb ?_ (Zb ?_ (Zb ?_ (Zb ?_ (Zb ?_ (Zb ?_ (Zb ?_ (Zb ?_ (Zb ?_ (Zb ?_ ZD)))))))))))))))))))))) ?_
         ·exact fun a w ux45 hE hM hp => Zd hE Za (dl rfl) rfl fun a hE => ⟨Kept.refl _ _, _, _, rfl, hE, rfl⟩
         ·exact fun a w ux45 hE hM hp => Zd hE Za (dl rfl) rfl fun a hE => ⟨Kept.refl _ _, _, _, rfl, hE, rfl⟩
         ·exact fun a w ux45 hE hM hp => Zd hE Za (dl rfl) rfl fun a hE => ⟨Kept.refl _ _, _, _, rfl, hE, rfl⟩
         ·exact fun a w ux45 hE hM hp => Zd hE Za (dl rfl) rfl fun a hE => ⟨Kept.refl _ _, _, _, rfl, hE, rfl⟩
         ·exact fun a w ux45 hE hM hp => Zd hE Za (dl rfl) rfl fun a hE => ⟨Kept.refl _ _, _, _, rfl, hE, rfl⟩
         ·intro a w ux45 hE hM hp
          have f3 : ux45 3 = (vI s30.2) := hp 0 _ rfl rfl
          have f4 : ux45 4 = (vI s40.2) := hp 1 _ rfl rfl
          exact Zh hE Za (dl rfl) (lk rfl f3) (lk rfl f4) rfl fun a hE => ⟨Kept.refl _ _, _, _, rfl, hE, rfl⟩
         ·exact fun a w ux45 hE hM hp => Zd hE Za (dl rfl) rfl fun a hE => ⟨Kept.refl _ _, _, _, rfl, hE, rfl⟩
         ·exact fun a w ux45 hE hM hp => Zd hE Za (dl rfl) rfl fun a hE => ⟨Kept.refl _ _, _, _, rfl, hE, rfl⟩
         ·exact fun a w ux45 hE hM hp => Zd hE Za (dl rfl) rfl fun a hE => ⟨Kept.refl _ _, _, _, rfl, hE, rfl⟩
         ·exact fun a w ux45 hE hM hp => Zd hE Za (dl rfl) rfl fun a hE => ⟨Kept.refl _ _, _, _, rfl, hE, rfl⟩
         ·exact fun a w ux45 hE hM hp => Zd hE Za (dl rfl) rfl fun a hE => ⟨Kept.refl _ _, _, _, rfl, hE, rfl⟩
         ·intro a w ux45 hE hM hp
          have f7 : ux45 7 = (ptr b3 0) := hp 0 _ rfl rfl
          exact XG hE Za (dl rfl) (lk rfl f7) fun a hE => ⟨Kept.refl _ _, _, _, rfl, hE, rfl⟩
         ·intro a w ux45 hE hM hp
          have f8 : ux45 8 = (vI s8.2) := hp 1 _ rfl rfl
          have f11 : ux45 11 = (ptr b3 0) := hp 0 _ rfl rfl
          exact Zm hE Za (dl rfl) (lk rfl f11) (lk rfl f8) Try.underlying168 ty166 hi46.1 fun a hE => ⟨Kept.refl _ _, _, _, rfl, hE, rfl⟩
         ·intro a w ux45 hE hM hp
          have f9 : ux45 9 = (vI s19.2) := hp 1 _ rfl rfl
          have f12 : ux45 12 = (ptr b3 (0 + (s8.2).toNat * 1024)) := hp 0 _ rfl rfl
          exact Zm hE Za (dl rfl) (lk rfl f12) (lk rfl f9) Try.underlying166 ty96 hi49.1 fun a hE => ⟨Kept.refl _ _, _, _, rfl, hE, rfl⟩
         ·intro a w ux45 hE hM hp
          have f10 : ux45 10 = (vI s40.2) := hp 1 _ rfl rfl
          have f13 : ux45 13 = (ptr b3 (0 + (s8.2).toNat * 1024 + (s19.2).toNat * 256)) := hp 0 _ rfl rfl
          exact Zm hE Za (dl rfl) (lk rfl f13) (lk rfl f10) Try.underlying96 ty5 hi52.1 fun a hE => ⟨Kept.refl _ _, _, _, rfl, hE, rfl⟩
         ·intro a w ux45 hE hM hp
          have f14 : ux45 14 = (ptr b3 (0 + (s8.2).toNat * 1024 + (s19.2).toNat * 256 + (s40.2).toNat * 1)) := hp 0 _ rfl rfl
          exact Zv (v := (vB x53)) hE Za (dl rfl) (lk rfl f14) ty5 rfl (At.vec (At.vec (At.vec (hM.rawAt (pre := [])) hi46.2) hi49.2) hi52.2) fun a hE => ⟨Kept.refl _ _, _, _, rfl, hE, rfl⟩
         ·intro a w ux45 hE hM hp
          have f6 : ux45 6 = (vB r35) := hp 0 _ rfl rfl
          have f15 : ux45 15 = (vB x53) := hp 1 _ rfl rfl
          exact Zh hE Za (dl rfl) (lk rfl f6) (lk rfl f15) (Vo r35 x53) fun a hE => ⟨Kept.refl _ _, _, _, rfl, hE, rfl⟩
         ·intro a w ux45 hE hM hp
          have f0 : ux45 0 = (ptr b3 0) := hp 0 _ rfl rfl
          exact XG hE Za (dl rfl) (lk rfl f0) fun a hE => ⟨Kept.refl _ _, _, _, rfl, hE, rfl⟩
         ·intro a w ux45 hE hM hp
          have f1 : ux45 1 = (vI s8.2) := hp 1 _ rfl rfl
          have f17 : ux45 17 = (ptr b3 0) := hp 0 _ rfl rfl
          exact Zm hE Za (dl rfl) (lk rfl f17) (lk rfl f1) Try.underlying168 ty166 hi55.1 fun a hE => ⟨Kept.refl _ _, _, _, rfl, hE, rfl⟩
         ·intro a w ux45 hE hM hp
          have f2 : ux45 2 = (vI s19.2) := hp 1 _ rfl rfl
          have f18 : ux45 18 = (ptr b3 (0 + (s8.2).toNat * 1024)) := hp 0 _ rfl rfl
          exact Zm hE Za (dl rfl) (lk rfl f18) (lk rfl f2) Try.underlying166 ty96 hi58.1 fun a hE => ⟨Kept.refl _ _, _, _, rfl, hE, rfl⟩
         ·intro a w ux45 hE hM hp
          have f5 : ux45 5 = (vI (orI s30.2 s40.2)) := hp 1 _ rfl rfl
          have f19 : ux45 19 = (ptr b3 (0 + (s8.2).toNat * 1024 + (s19.2).toNat * 256)) := hp 0 _ rfl rfl
          exact Zm hE Za (dl rfl) (lk rfl f19) (lk rfl f5) Try.underlying96 ty5 hi61.1 fun a hE => ⟨Kept.refl _ _, _, _, rfl, hE, rfl⟩
         ·intro a w ux45 hE hM hg
          have hE := hE.sub (e' := [(53, (vB (r35 ^^^ x53))), (57, (ptr b3 (0 + (s8.2).toNat * 1024 + (s19.2).toNat * 256 + ((orI s30.2 s40.2)).toNat * 1))), (0, (vI p0)), (3, (ptr b1 0)), (5, (ptr b3 0)), (6, (vI s8.2)), (7, (vI s19.2)), (8, (vB x24)), (9, (vI s30.2)), (10, (vB r35)), (11, (vI s40.2)), (14, (vI s8.2)), (19, (Value.agg (Flat.enc x14).toArray)), (20, (vI s19.2)), (33, (vI s30.2)), (34, (vI s40.2)), (35, (vT (decide (s40.2 < s30.2)))), (36, (vI s40.2))]) ⟨lk rfl (hg 16 (by decide)), lk rfl (hg 20 (by decide)), rfl, rfl, rfl, rfl, rfl, rfl, rfl, rfl, rfl, rfl, rfl, rfl, rfl, rfl, rfl, rfl, trivial⟩
          refine Zs (seg := [(vB (r35 ^^^ x53))]) (cs' := Flat.enc (s40.1.setIfInBounds (s8.2).toNat (x56.setIfInBounds (s19.2).toNat (x59.setIfInBounds ((orI s30.2 s40.2)).toNat (r35 ^^^ x53))))) hE hM Za rfl rfl rfl ty5 rfl (Vh (o' := (s19.2).toNat * 256 + (0 + ((orI s30.2 s40.2)).toNat * 1)) hi55 (Vh (o' := 0 + ((orI s30.2 s40.2)).toNat * 1) hi58 (ZT (v := x59) (x := r35 ^^^ x53) hi61.1) (by first | omega | (simp only [Flat.n] <;> omega))) (by first | omega | (simp only [Flat.n] <;> omega))) (Flat.cell (r35 ^^^ x53 : UInt8)) (Wm (o' := (s19.2).toNat * 256 + (0 + ((orI s30.2 s40.2)).toNat * 1)) hi55 (Vh (o' := 0 + ((orI s30.2 s40.2)).toNat * 1) hi58 (ZT (v := x59) (x := r35 ^^^ x53) hi61.1) (by first | omega | (simp only [Flat.n] <;> omega))) (Wm (o' := 0 + ((orI s30.2 s40.2)).toNat * 1) hi58 (ZT (v := x59) (x := r35 ^^^ x53) hi61.1) (ZI (v := x59) (x := r35 ^^^ x53) hi61.1) (by first | omega | (simp only [Flat.n] <;> omega))) (by first | omega | (simp only [Flat.n] <;> omega))) ?_; intro w a hM hE
          refine Zj (Yk (Zx (wp_region_lit (Zh hE Za (dl rfl) rfl rfl rfl ?_)))); intro a hE
          refine Zd hE Za (dl rfl) rfl ?_; intro a hE
          refine Zj (Zl ?_)
          exact ⟨_, (Option.some.inj hs41).symm, hE.sub ⟨rfl, rfl, rfl, rfl, rfl, rfl, rfl, rfl, rfl, rfl, rfl, rfl, rfl, trivial⟩, hM⟩
        ·intro hb44
         have hs41 := Zz hs41 hb44
         refine wp_exit (Zr (Zr (Yj ?_)))
         have ht64 := hx42 _ (Option.some.inj hs41).symm
         subst ht64
         refine Zl ?_
         exact ⟨hE.sub ⟨rfl, rfl, rfl, rfl, rfl, rfl, rfl, rfl, rfl, rfl, trivial⟩, hM⟩
       ·skip
        rintro a w ⟨hE, hM⟩
        refine Yk (Zx (wp_region_lit (Zd hE Za (dl rfl) rfl ?_))); intro a hE
        refine Zh hE Za (dl rfl) rfl rfl rfl ?_; intro a hE
        refine Ze hE Za (dl rfl) rfl ?_; intro a hE
        refine Zj (Zl ?_)
        exact ⟨_, (Option.some.inj hF39).symm, hE.sub ⟨rfl, rfl, rfl, rfl, rfl, rfl, rfl, rfl, rfl, rfl, trivial⟩, hM⟩
      ·intro hb34
       have hs31 := Zz hs31 hb34
       refine wp_exit (Zr (Zr (Yj ?_)))
       have ht65 := hx32 _ (Option.some.inj hs31).symm
       subst ht65
       refine Zl ?_
       exact ⟨hE.sub ⟨rfl, rfl, rfl, rfl, rfl, rfl, rfl, trivial⟩, hM⟩
     ·skip
      rintro a w ⟨hE, hM⟩
      refine Yk (Zx (wp_region_lit (Zh hE Za (dl rfl) rfl rfl rfl ?_))); intro a hE
      refine Zd hE Za (dl rfl) rfl ?_; intro a hE
      refine Zj (Zl ?_)
      exact ⟨_, (Option.some.inj hF29).symm, hE.sub ⟨rfl, rfl, rfl, rfl, rfl, rfl, rfl, trivial⟩, hM⟩
    ·intro hb23
     have hs20 := Zz hs20 hb23
     refine wp_exit (Zr (Zr (Yj ?_)))
     have ht66 := hx21 _ (Option.some.inj hs20).symm
     subst ht66
     refine Zl ?_
     exact ⟨hE.sub ⟨rfl, rfl, rfl, rfl, trivial⟩, hM⟩
   ·skip
    rintro a w ⟨hE, hM⟩
    refine Yk (Zx (wp_region_lit (Zh hE Za (dl rfl) rfl rfl rfl ?_))); intro a hE
    refine Zd hE Za (dl rfl) rfl ?_; intro a hE
    refine Zj (Zl ?_)
    exact ⟨_, (Option.some.inj hF18).symm, hE.sub ⟨rfl, rfl, rfl, rfl, trivial⟩, hM⟩
  ·intro hb12
   have hs9 := Zz hs9 hb12
   refine wp_exit (Zr (Zr (Yj ?_)))
   have ht67 := hx10 _ (Option.some.inj hs9).symm
   subst ht67
   refine Zl ?_
   have hM := M.fst (l := [_]) hM
   exact ⟨hE.sub ⟨rfl, trivial⟩, hM⟩
 ·skip
  rintro a w ⟨hE, hM⟩
  refine Zx (Zc (Zd hE Za (dl rfl) rfl ?_)); intro a hE
  refine Ze hE Za (dl rfl) rfl ?_; intro a hE
  refine Zf ?_
  have hM := M.toRefF (x := j5) hM
  have hr := Option.some.inj hF7
  subst hr
  exact wp_ret (Zy hE rfl (Zu hE rfl) ⟨_, rfl, (ptr b3 0), rfl, hM.outF (locNO WY), hM.kept⟩)
noncomputable def WR (p0 : GCipher) : Option ((Ref Gengine)) :=
 (Y0 p0.Field p0.Mix).bind fun r3 => (X6 p0.Box).bind fun r8 => (Y8 p0.Places).bind fun r10 => (Wi p0.Field p0.Mix).bind fun r12 => (Wi p0.Field r3.2).bind fun r15 => some (⟨(⟨p0.Box, r8, p0.Places, r10, r12, r15, p0.Rounds⟩ : Gengine)⟩ : (Ref Gengine))
end Go.Proofs.Ytifdeoikcebbjaa
