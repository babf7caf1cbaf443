/- The walk of what the law reaches: contracts of functions. -/
import Derived.Test.YtifdeoikcebbjaaC3
set_option linter.unusedVariables false
set_option linter.unusedSimpArgs false
set_option maxRecDepth 20000
set_option maxHeartbeats 400000
namespace Go.Proofs.Ytifdeoikcebbjaa
open Go
theorem Y5 (w0 : World) (p0 : (List (Vector UInt8 32))) (v0_1 : Value) (hv0_1 : Ro w0 p0 [v0_1]) (p1 : (Vector UInt8 32)) (p2 : (Vector UInt8 32) → (Vector UInt8 32) → Option (Int)) (k2 : Nat) (q2 : List Value) (hcb2 : Callable Try.prog k2) (hg2 : ∀ (w2 : World), Kept (Old w0) w0 w2 → ∀ (z0 : (Vector UInt8 32)) (z1 : (Vector UInt8 32)) (zr : Int), p2 z0 z1 = some zr → Calls Try.prog k2 ([(Value.agg (Flat.enc z0).toArray), (Value.agg (Flat.enc z1).toArray)] ++ q2).toArray w2 (fun en w3 => ∃ v, en = .returned v ∧ (v = (vI zr) ∧ Kept (Old w2) w2 w3))) (r : Int × Bool) (hF : ZJ p0 p1 p2 = some r) :
  Calls Try.prog 80 [v0_1, (Value.agg (Flat.enc p1).toArray), (Value.func (.func k2) #[] q2.toArray)].toArray w0 (fun en w' => ∃ v, en = .returned v ∧ (v = (Value.tuple [(vI r.1), (vT r.2)].toArray) ∧ Kept (Old w0) w0 w')) := by
 refine ZC (n := 49) Try.func80 rfl rfl (Nat.le_of_ble_eq_true rfl) rfl ?_
 intro a hE
 have hM := M.start w0
 unfold ZJ at hF
 refine Zc (Z4 (cs := Flat.enc p1) hE hM Za (dl rfl) rfl rfl ?_); intro b1 w a hM hE
 refine Ze hE Za (dl rfl) rfl ?_; intro a hE
 refine Ze hE Za (dl rfl) rfl ?_; intro a hE
 refine Zf (Zc (Zd hE Za (dl rfl) rfl ?_)); intro a hE
 refine Z7 hE Za (dl rfl) rfl Try.underlying53 (hM.rd hv0_1) ?_; intro a hE
 refine Ze hE Za (dl rfl) rfl ?_; intro a hE
 refine Zf (Zc (Zd hE Za (dl rfl) rfl ?_)); intro a hE
 refine Ze hE Za (dl rfl) rfl ?_; intro a hE
 refine Ze hE Za (dl rfl) rfl ?_; intro a hE
 refine Zf ?_
 obtain ⟨j3, hl4, hF5⟩ := bind_some hF
 refine ZS (fun a w => Env 49 a [(0, v0_1), (2, (Value.func (.func k2) #[] q2.toArray)), (4, (ptr b1 0)), (8, (vI (p0.length : Int))), (9, (vI j3))] ∧ M (Old w0) w0 w [raw b1 (Flat.enc p1)]) ?_ ?_
 ·skip
  refine wp_block ?_
  refine ZN (fun (s6 : Int × Int) a w => Env 49 a [(0, v0_1), (2, (Value.func (.func k2) #[] q2.toArray)), (4, (ptr b1 0)), (8, (vI (p0.length : Int))), (9, (vI s6.2)), (10, (vI s6.1))] ∧ M (Old w0) w0 w [raw b1 (Flat.enc p1)]) hl4 ⟨hE.sub ⟨rfl, rfl, rfl, rfl, rfl, rfl, trivial⟩, hM⟩ ?_
  rintro s6 a w ⟨hE, hM⟩ o9 hs7 hx8
  unfold ZB at hs7
  refine wp_seq (Zc (Zd hE Za (dl rfl) rfl ?_)); intro a hE
  refine Zd hE Za (dl rfl) rfl ?_; intro a hE
  refine Zh hE Za (dl rfl) rfl rfl rfl ?_; intro a hE
  refine Zf ?_
  refine Zt hE rfl ?_ ?_
  ·intro hb10
   have hs7 := ZA hs7 hb10
   refine wp_skip (Zx ?_)
   obtain ⟨j11, hl12, hF13⟩ := bind_some hs7
   refine ZV (fun a w => Env 49 a [(0, v0_1), (2, (Value.func (.func k2) #[] q2.toArray)), (4, (ptr b1 0)), (8, (vI (p0.length : Int))), (9, (vI j11.2)), (10, (vI j11.1))] ∧ M (Old w0) w0 w [raw b1 (Flat.enc p1)]) ?_ ?_
   ·skip
    refine wp_block (Zc (Zd hE Za (dl rfl) rfl ?_)); intro a hE
    refine Zd hE Za (dl rfl) rfl ?_; intro a hE
    refine Zh hE Za (dl rfl) rfl rfl rfl ?_; intro a hE
    refine YK hE Za (dl rfl) rfl Try.underlying3 Try.underlying134 ?_; intro a hE
    refine s_sh hE Za (dl rfl) rfl rfl (bU_shr _ _ (by decide)) ?_; intro a hE
    refine YK hE Za (dl rfl) rfl Try.underlying134 Try.underlying3 ?_; intro a hE
    refine Ze hE Za (dl rfl) rfl ?_; intro a hE
    refine Zf ?_
    obtain ⟨j14, hl15, hF16⟩ := bind_some hl12
    refine ZS (fun a w => Env 49 a [(0, v0_1), (2, (Value.func (.func k2) #[] q2.toArray)), (4, (ptr b1 0)), (8, (vI (p0.length : Int))), (9, (vI s6.2)), (10, (vI s6.1)), (11, (vI (IntKind.i64.wrap (V9 (IntKind.u64.wrap (wr (s6.2 + s6.1))) 1)))), (31, (vT j14))] ∧ M (Old w0) w0 w [raw b1 (Flat.enc p1)]) ?_ ?_
    ·skip
     obtain ⟨x18, e19, hl15⟩ := bind_some hl15
     have hi20 := ZQ e19
     refine Yd (n := 49) (hd := [_, _, _, _, _, _]) (tl := [_, _]) YB rfl rfl [24, 25, 26, 27, 28, 29] (by decide) (fun w => M (Old w0) w0 w [raw b1 (Flat.enc p1)]) (fun j => ([fun v _ => v = (Value.func (.func k2) #[] q2.toArray), fun v _ => v = v0_1, fun v _ => v = (vI (IntKind.i64.wrap (V9 (IntKind.u64.wrap (wr (s6.2 + s6.1))) 1))), fun v _ => v = (ptr (sb v0_1) (so v0_1 + ((IntKind.i64.wrap (V9 (IntKind.u64.wrap (wr (s6.2 + s6.1))) 1))).toNat * 32)), fun v _ => v = (Value.agg (Flat.enc x18).toArray), fun v _ => v = (Value.agg (Flat.enc p1).toArray)] : List (Value → World → Prop)).getD j (fun _ _ => True)) (fun _ _ h hk => h.keep hk) (gup (Zg (Zg (Zg (Zg (Zg (Zg Wu))))))) hE hM.drew (ZH (Zb ?_ (Zb ?_ (Zb ?_ (Zb ?_ (Zb ?_ (Zb ?_ ZD))))))) ?_
     ·exact fun a w ux17 hE hM hp => Zd hE Za (dl rfl) rfl fun a hE => ⟨Kept.refl _ _, _, _, rfl, hE, rfl⟩
     ·exact fun a w ux17 hE hM hp => Zd hE Za (dl rfl) rfl fun a hE => ⟨Kept.refl _ _, _, _, rfl, hE, rfl⟩
     ·exact fun a w ux17 hE hM hp => Zd hE Za (dl rfl) rfl fun a hE => ⟨Kept.refl _ _, _, _, rfl, hE, rfl⟩
     ·intro a w ux17 hE hM hp
      have f1 : ux17 1 = v0_1 := hp 0 _ rfl rfl
      have f2 : ux17 2 = (vI (IntKind.i64.wrap (V9 (IntKind.u64.wrap (wr (s6.2 + s6.1))) 1))) := hp 1 _ rfl rfl
      exact ZK hE Za (dl rfl) (lk rfl f1) (lk rfl f2) Try.underlying53 Yi (hM.rd hv0_1) hi20.1 fun a hE => ⟨Kept.refl _ _, _, _, rfl, hE, rfl⟩
     ·intro a w ux17 hE hM hp
      have f3 : ux17 3 = (ptr (sb v0_1) (so v0_1 + ((IntKind.i64.wrap (V9 (IntKind.u64.wrap (wr (s6.2 + s6.1))) 1))).toNat * 32)) := hp 0 _ rfl rfl
      exact Zp (cs := Flat.enc x18) hE Za (dl rfl) (lk rfl f3) Yi rfl (Yt (hM.rd hv0_1) hi20.2) (Flat.len _) fun a hE => ⟨Kept.refl _ _, _, _, rfl, hE, rfl⟩
     ·exact fun a w ux17 hE hM hp => Zp (cs := Flat.enc p1) hE Za (dl rfl) rfl Yi rfl (hM.rawAt (pre := [])) (Flat.len _) fun a hE => ⟨Kept.refl _ _, _, _, rfl, hE, rfl⟩
     ·intro a w ux17 hE hM hg
      have hE := hE.sub (e' := [(24, (Value.func (.func k2) #[] q2.toArray)), (28, (Value.agg (Flat.enc x18).toArray)), (29, (Value.agg (Flat.enc p1).toArray)), (0, v0_1), (2, (Value.func (.func k2) #[] q2.toArray)), (4, (ptr b1 0)), (8, (vI (p0.length : Int))), (9, (vI s6.2)), (10, (vI s6.1)), (11, (vI (IntKind.i64.wrap (V9 (IntKind.u64.wrap (wr (s6.2 + s6.1))) 1)))), (15, (vI s6.2)), (16, (vI s6.1)), (17, (vT (decide (s6.2 < s6.1)))), (18, (vI s6.2)), (19, (vI s6.1)), (20, (vI (wr (s6.2 + s6.1)))), (21, (Value.int .u64 (IntKind.u64.wrap (wr (s6.2 + s6.1))))), (22, (Value.int .u64 (V9 (IntKind.u64.wrap (wr (s6.2 + s6.1))) 1))), (23, (vI (IntKind.i64.wrap (V9 (IntKind.u64.wrap (wr (s6.2 + s6.1))) 1))))]) ⟨lk rfl (hg 0 (by decide)), lk rfl (hg 4 (by decide)), lk rfl (hg 5 (by decide)), rfl, rfl, rfl, rfl, rfl, rfl, rfl, rfl, rfl, rfl, rfl, rfl, rfl, rfl, rfl, rfl, trivial⟩
      obtain ⟨r21, e22, hl15⟩ := bind_some hl15
      refine s_callv2 (vs := [(Value.agg (Flat.enc x18).toArray), (Value.agg (Flat.enc p1).toArray)]) hE Za (dl rfl) rfl rfl hcb2 (hg2 _ hM.kept x18 p1 r21 e22) ?_
      rintro v w a ⟨rfl, hK⟩ hE
      have hM := hM.keep hK
      refine Zh hE Za (dl rfl) rfl rfl rfl ?_; intro a hE
      refine Zj ?_
      have ht23 := Option.some.inj hl15
      subst ht23
      refine Zl ?_
      exact ⟨hE.sub ⟨rfl, rfl, rfl, rfl, rfl, rfl, rfl, rfl, trivial⟩, hM⟩
    ·skip
     rintro a w ⟨hE, hM⟩
     obtain ⟨j24, hl25, hF26⟩ := bind_some hF16
     refine ZV (fun a w => Env 49 a [(0, v0_1), (2, (Value.func (.func k2) #[] q2.toArray)), (4, (ptr b1 0)), (8, (vI (p0.length : Int))), (9, (vI j24.2)), (10, (vI j24.1))] ∧ M (Old w0) w0 w [raw b1 (Flat.enc p1)]) ?_ ?_
     ·skip
      refine Zt hE rfl ?_ ?_
      ·intro hb27
       have hl25 := ZA hl25 hb27
       refine wp_region_lit (Zd hE Za (dl rfl) rfl ?_); intro a hE
       refine Zh hE Za (dl rfl) rfl rfl rfl ?_; intro a hE
       refine Ze hE Za (dl rfl) rfl ?_; intro a hE
       refine Zj ?_
       have ht28 := Option.some.inj hl25
       subst ht28
       refine Zl ?_
       exact ⟨hE.sub ⟨rfl, rfl, rfl, rfl, rfl, rfl, trivial⟩, hM⟩
      ·intro hb27
       have hl25 := Zz hl25 hb27
       refine wp_region_lit (Zd hE Za (dl rfl) rfl ?_); intro a hE
       refine Ze hE Za (dl rfl) rfl ?_; intro a hE
       refine Zj ?_
       have ht29 := Option.some.inj hl25
       subst ht29
       refine Zl ?_
       exact ⟨hE.sub ⟨rfl, rfl, rfl, rfl, rfl, rfl, trivial⟩, hM⟩
     ·skip
      rintro a w ⟨hE, hM⟩
      refine Yk ?_
      have ht30 := Option.some.inj hF26
      subst ht30
      refine Zl ?_
      exact ⟨hE.sub ⟨rfl, rfl, rfl, rfl, rfl, rfl, trivial⟩, hM⟩
   ·skip
    rintro a w ⟨hE, hM⟩
    refine Zl ?_
    exact ⟨_, (Option.some.inj hF13).symm, hE.sub ⟨rfl, rfl, rfl, rfl, rfl, rfl, trivial⟩, hM⟩
  ·intro hb10
   have hs7 := Zz hs7 hb10
   refine wp_exit (Zr (Zr (Yj ?_)))
   have ht31 := hx8 _ (Option.some.inj hs7).symm
   subst ht31
   refine Zl ?_
   exact ⟨hE.sub ⟨rfl, rfl, rfl, rfl, rfl, trivial⟩, hM⟩
 ·skip
  rintro a w ⟨hE, hM⟩
  obtain ⟨j32, hl33, hF34⟩ := bind_some hF5
  refine ZS (fun a w => Env 49 a [(6, (vI j32.1)), (7, (vT j32.2))] ∧ M (Old w0) w0 w []) ?_ ?_
  ·skip
   refine WE (decide (j3 < (p0.length : Int))) (fun hb36 => ?_) (fun hb36 => ?_)
   ·have hl33 := ZA hl33 hb36
    obtain ⟨x37, e38, hl33⟩ := bind_some hl33
    have hi39 := ZQ e38
    obtain ⟨r40, e41, hl33⟩ := bind_some hl33
    refine WA (n := 49) (hd := [_, _, _, _, _, _, _, _, _, _, _, _, _, _, _]) (tl := [_]) YB rfl rfl [35, 36, 37, 38, 39, 40, 41, 42, 43, 44, 45, 46, 47, 48, 6] (by decide) (fun D u w => M (Old w0) w0 w ([raw b1 (Flat.enc p1)] ++ qL ([] : Mk) D u) ∧ GOk ([([], fun us v => v = (vI j3)), ([], fun us v => v = (vI j3)), ([], fun us v => v = (vI (p0.length : Int))), ([], fun us v => v = (vT (decide (j3 < (p0.length : Int))))), ([], fun us v => v = (vT (decide (j3 < (p0.length : Int))))), ([], fun us v => v = (Value.func (.func k2) #[] q2.toArray)), ([], fun us v => v = v0_1), ([], fun us v => v = (vI j3)), ([], fun us v => v = (ptr (sb v0_1) (so v0_1 + (j3).toNat * 32))), ([], fun us v => v = (Value.agg (Flat.enc x37).toArray)), ([], fun us v => v = (Value.agg (Flat.enc p1).toArray)), ([], fun us v => v = (vI r40)), ([], fun us v => v = (vT (r40 == 0))), ([], fun us v => v = (vT (r40 == 0))), ([], fun us v => v = (vI j3))] : Gs) D u) hE (fun u => ⟨M.q0 hM.drew u, gok0⟩) (ZH (Zb ?_ (Zb ?_ (Zb ?_ (Zb ?_ (Zb ?_ (Zb ?_ (Zb ?_ (Zb ?_ (Zb ?_ (Zb ?_ (Zb ?_ (Zb ?_ (Zb ?_ (Zb ?_ (Zb ?_ ZD)))))))))))))))) ?_
    ·intro a w ux35 D hE hI hD hdc hp
     have hM0 := hI.1
     exact Zd hE Za (dl rfl) rfl fun a hE => ⟨_, _, rfl, hE, M.qKeep hM0 rfl, hI.2.put hD rfl ZE rfl⟩
    ·intro a w ux35 D hE hI hD hdc hp
     have hM0 := hI.1
     exact Zd hE Za (dl rfl) rfl fun a hE => ⟨_, _, rfl, hE, M.qKeep hM0 rfl, hI.2.put hD rfl ZE rfl⟩
    ·intro a w ux35 D hE hI hD hdc hp
     have hM0 := hI.1
     exact Zd hE Za (dl rfl) rfl fun a hE => ⟨_, _, rfl, hE, M.qKeep hM0 rfl, hI.2.put hD rfl ZE rfl⟩
    ·intro a w ux35 D hE hI hD hdc hp
     have d1 : D 1 = true := hp 0 _ rfl rfl
     have g1 := hI.2 1 d1 _ rfl
     have f1 : ux35 1 = (vI j3) := g1.2
     have d2 : D 2 = true := hp 1 _ rfl rfl
     have g2 := hI.2 2 d2 _ rfl
     have f2 : ux35 2 = (vI (p0.length : Int)) := g2.2
     have hM0 := hI.1
     exact Zh hE Za (dl rfl) (lk rfl f1) (lk rfl f2) rfl fun a hE => ⟨_, _, rfl, hE, M.qKeep hM0 rfl, hI.2.put hD rfl ZE rfl⟩
    ·intro a w ux35 D hE hI hD hdc hp
     have d3 : D 3 = true := hp 0 _ rfl rfl
     have g3 := hI.2 3 d3 _ rfl
     have f3 : ux35 3 = (vT (decide (j3 < (p0.length : Int)))) := g3.2
     have hM0 := hI.1
     exact Zd hE Za (dl rfl) (lk rfl f3) fun a hE => ⟨_, _, rfl, hE, M.qKeep hM0 rfl, hI.2.put hD rfl ZE rfl⟩
    ·intro a w ux35 D hE hI hD hdc hp
     have d4 : D 4 = true := hp 0 _ rfl rfl
     have g4 := hI.2 4 d4 _ rfl
     have f4 : ux35 4 = (vT (decide (j3 < (p0.length : Int)))) := g4.2
     have hM0 := hI.1
     exact Zd hE (Zk hE rfl (lkb (lk rfl f4) hb36)) (by decide) rfl fun a hE => ⟨_, _, rfl, hE, M.qKeep hM0 rfl, hI.2.put hD rfl ZE rfl⟩
    ·intro a w ux35 D hE hI hD hdc hp
     have d4 : D 4 = true := hp 0 _ rfl rfl
     have g4 := hI.2 4 d4 _ rfl
     have f4 : ux35 4 = (vT (decide (j3 < (p0.length : Int)))) := g4.2
     have hM0 := hI.1
     exact Zd hE (Zk hE rfl (lkb (lk rfl f4) hb36)) (by decide) rfl fun a hE => ⟨_, _, rfl, hE, M.qKeep hM0 rfl, hI.2.put hD rfl ZE rfl⟩
    ·intro a w ux35 D hE hI hD hdc hp
     have d4 : D 4 = true := hp 0 _ rfl rfl
     have g4 := hI.2 4 d4 _ rfl
     have f4 : ux35 4 = (vT (decide (j3 < (p0.length : Int)))) := g4.2
     have hM0 := hI.1
     exact Zd hE (Zk hE rfl (lkb (lk rfl f4) hb36)) (by decide) rfl fun a hE => ⟨_, _, rfl, hE, M.qKeep hM0 rfl, hI.2.put hD rfl ZE rfl⟩
    ·intro a w ux35 D hE hI hD hdc hp
     have d4 : D 4 = true := hp 2 _ rfl rfl
     have g4 := hI.2 4 d4 _ rfl
     have f4 : ux35 4 = (vT (decide (j3 < (p0.length : Int)))) := g4.2
     have d6 : D 6 = true := hp 0 _ rfl rfl
     have g6 := hI.2 6 d6 _ rfl
     have f6 : ux35 6 = v0_1 := g6.2
     have d7 : D 7 = true := hp 1 _ rfl rfl
     have g7 := hI.2 7 d7 _ rfl
     have f7 : ux35 7 = (vI j3) := g7.2
     have hM0 := hI.1
     have hM := hI.1
     exact ZK hE (Zk hE rfl (lkb (lk rfl f4) hb36)) (by decide) (lk rfl f6) (lk rfl f7) Try.underlying53 Yi (hM.rd hv0_1) hi39.1 fun a hE => ⟨_, _, rfl, hE, M.qKeep hM0 rfl, hI.2.put hD rfl ZE rfl⟩
    ·intro a w ux35 D hE hI hD hdc hp
     have d4 : D 4 = true := hp 1 _ rfl rfl
     have g4 := hI.2 4 d4 _ rfl
     have f4 : ux35 4 = (vT (decide (j3 < (p0.length : Int)))) := g4.2
     have d8 : D 8 = true := hp 0 _ rfl rfl
     have g8 := hI.2 8 d8 _ rfl
     have f8 : ux35 8 = (ptr (sb v0_1) (so v0_1 + (j3).toNat * 32)) := g8.2
     have hM0 := hI.1
     have hM := hI.1
     exact Zp (cs := Flat.enc x37) hE (Zk hE rfl (lkb (lk rfl f4) hb36)) (by decide) (lk rfl f8) Yi rfl (Yt (hM.rd hv0_1) hi39.2) (Flat.len _) fun a hE => ⟨_, _, rfl, hE, M.qKeep hM0 rfl, hI.2.put hD rfl ZE rfl⟩
    ·intro a w ux35 D hE hI hD hdc hp
     have d4 : D 4 = true := hp 0 _ rfl rfl
     have g4 := hI.2 4 d4 _ rfl
     have f4 : ux35 4 = (vT (decide (j3 < (p0.length : Int)))) := g4.2
     have hM0 := hI.1
     have hM := hI.1
     exact Zp (cs := Flat.enc p1) hE (Zk hE rfl (lkb (lk rfl f4) hb36)) (by decide) rfl Yi rfl (hM.rawAt (pre := [])) (Flat.len _) fun a hE => ⟨_, _, rfl, hE, M.qKeep hM0 rfl, hI.2.put hD rfl ZE rfl⟩
    ·intro a w ux35 D hE hI hD hdc hp
     have d4 : D 4 = true := hp 3 _ rfl rfl
     have g4 := hI.2 4 d4 _ rfl
     have f4 : ux35 4 = (vT (decide (j3 < (p0.length : Int)))) := g4.2
     have d5 : D 5 = true := hp 0 _ rfl rfl
     have g5 := hI.2 5 d5 _ rfl
     have f5 : ux35 5 = (Value.func (.func k2) #[] q2.toArray) := g5.2
     have d9 : D 9 = true := hp 1 _ rfl rfl
     have g9 := hI.2 9 d9 _ rfl
     have f9 : ux35 9 = (Value.agg (Flat.enc x37).toArray) := g9.2
     have d10 : D 10 = true := hp 2 _ rfl rfl
     have g10 := hI.2 10 d10 _ rfl
     have f10 : ux35 10 = (Value.agg (Flat.enc p1).toArray) := g10.2
     have hM0 := hI.1
     have hM := hI.1
     refine s_callv2 (vs := [(Value.agg (Flat.enc x37).toArray), (Value.agg (Flat.enc p1).toArray)]) hE (Zk hE rfl (lkb (lk rfl f4) hb36)) (by decide) (lk rfl f5) (Z0 (ZY (lk rfl f9) (ZY (lk rfl f10) Xf))) hcb2 (hg2 _ hM.kept x37 p1 r40 e41) ?_
     rintro v w a ⟨rfl, hK⟩ hE
     exact ⟨_, _, rfl, hE, M.qKeep (hM0.keep hK) rfl, hI.2.put hD rfl ZE rfl⟩
    ·intro a w ux35 D hE hI hD hdc hp
     have d4 : D 4 = true := hp 1 _ rfl rfl
     have g4 := hI.2 4 d4 _ rfl
     have f4 : ux35 4 = (vT (decide (j3 < (p0.length : Int)))) := g4.2
     have d11 : D 11 = true := hp 0 _ rfl rfl
     have g11 := hI.2 11 d11 _ rfl
     have f11 : ux35 11 = (vI r40) := g11.2
     have hM0 := hI.1
     exact Zh hE (Zk hE rfl (lkb (lk rfl f4) hb36)) (by decide) (lk rfl f11) rfl rfl fun a hE => ⟨_, _, rfl, hE, M.qKeep hM0 rfl, hI.2.put hD rfl ZE rfl⟩
    ·intro a w ux35 D hE hI hD hdc hp
     have d4 : D 4 = true := hp 0 _ rfl rfl
     have g4 := hI.2 4 d4 _ rfl
     have f4 : ux35 4 = (vT (decide (j3 < (p0.length : Int)))) := g4.2
     have d12 : D 12 = true := hp 1 _ rfl rfl
     have g12 := hI.2 12 d12 _ rfl
     have f12 : ux35 12 = (vT (r40 == 0)) := g12.2
     have hM0 := hI.1
     exact Yn hE Za (dl rfl) (lkb (lk rfl f4) hb36) (lk rfl f12) fun a hE => ⟨_, _, rfl, hE, M.qKeep hM0 rfl, hI.2.put hD rfl ZE rfl⟩
    ·intro a w ux35 D hE hI hD hdc hp
     have d0 : D 0 = true := hp 0 _ rfl rfl
     have g0 := hI.2 0 d0 _ rfl
     have f0 : ux35 0 = (vI j3) := g0.2
     have hM0 := hI.1
     exact Ze hE Za (dl rfl) (lk rfl f0) fun a hE => ⟨_, _, rfl, hE, M.qKeep hM0 rfl, hI.2.put hD rfl ZE rfl⟩
    ·intro a w ux35 D hE hI hall
     have hM := hI.1
     have d0 : D 0 = true := hall 0 (by decide)
     have d1 : D 1 = true := hall 1 (by decide)
     have d2 : D 2 = true := hall 2 (by decide)
     have d3 : D 3 = true := hall 3 (by decide)
     have d4 : D 4 = true := hall 4 (by decide)
     have d5 : D 5 = true := hall 5 (by decide)
     have d6 : D 6 = true := hall 6 (by decide)
     have d7 : D 7 = true := hall 7 (by decide)
     have d8 : D 8 = true := hall 8 (by decide)
     have d9 : D 9 = true := hall 9 (by decide)
     have d10 : D 10 = true := hall 10 (by decide)
     have d11 : D 11 = true := hall 11 (by decide)
     have d12 : D 12 = true := hall 12 (by decide)
     have d13 : D 13 = true := hall 13 (by decide)
     have d14 : D 14 = true := hall 14 (by decide)
     have f0 : ux35 0 = (vI j3) := (hI.2 0 d0 _ rfl).2
     have f1 : ux35 1 = (vI j3) := (hI.2 1 d1 _ rfl).2
     have f2 : ux35 2 = (vI (p0.length : Int)) := (hI.2 2 d2 _ rfl).2
     have f3 : ux35 3 = (vT (decide (j3 < (p0.length : Int)))) := (hI.2 3 d3 _ rfl).2
     have f4 : ux35 4 = (vT (decide (j3 < (p0.length : Int)))) := (hI.2 4 d4 _ rfl).2
     have f5 : ux35 5 = (Value.func (.func k2) #[] q2.toArray) := (hI.2 5 d5 _ rfl).2
     have f6 : ux35 6 = v0_1 := (hI.2 6 d6 _ rfl).2
     have f7 : ux35 7 = (vI j3) := (hI.2 7 d7 _ rfl).2
     have f8 : ux35 8 = (ptr (sb v0_1) (so v0_1 + (j3).toNat * 32)) := (hI.2 8 d8 _ rfl).2
     have f9 : ux35 9 = (Value.agg (Flat.enc x37).toArray) := (hI.2 9 d9 _ rfl).2
     have f10 : ux35 10 = (Value.agg (Flat.enc p1).toArray) := (hI.2 10 d10 _ rfl).2
     have f11 : ux35 11 = (vI r40) := (hI.2 11 d11 _ rfl).2
     have f12 : ux35 12 = (vT (r40 == 0)) := (hI.2 12 d12 _ rfl).2
     have f13 : ux35 13 = (vT (r40 == 0)) := (hI.2 13 d13 _ rfl).2
     have f14 : ux35 14 = (vI j3) := (hI.2 14 d14 _ rfl).2
     have hE := hE.sub (e' := [(48, (vT (r40 == 0))), (6, (vI j3)), (0, v0_1), (2, (Value.func (.func k2) #[] q2.toArray)), (4, (ptr b1 0)), (8, (vI (p0.length : Int))), (9, (vI j3))]) ⟨lk rfl f13, lk rfl f14, rfl, rfl, rfl, rfl, rfl, trivial⟩
     refine Ze hE Za (dl rfl) rfl ?_; intro a hE
     refine Zj ?_
     have ht42 := Option.some.inj hl33
     subst ht42
     refine Zl ?_
     have hM := M.fst (l := []) hM
     exact ⟨hE.sub ⟨rfl, rfl, trivial⟩, hM⟩
   ·have hl33 := Zz hl33 hb36
    refine WA (n := 49) (hd := [_, _, _, _, _, _, _, _, _, _, _, _, _, _, _]) (tl := [_]) YB rfl rfl [35, 36, 37, 38, 39, 40, 41, 42, 43, 44, 45, 46, 47, 48, 6] (by decide) (fun D u w => M (Old w0) w0 w ([raw b1 (Flat.enc p1)] ++ qL ([] : Mk) D u) ∧ GOk ([([], fun us v => v = (vI j3)), ([], fun us v => v = (vI j3)), ([], fun us v => v = (vI (p0.length : Int))), ([], fun us v => v = (vT (decide (j3 < (p0.length : Int))))), ([], fun us v => v = (vT (decide (j3 < (p0.length : Int))))), ([], fun us v => v = undef), ([], fun us v => v = undef), ([], fun us v => v = undef), ([], fun us v => v = undef), ([], fun us v => v = undef), ([], fun us v => v = undef), ([], fun us v => v = undef), ([], fun us v => v = undef), ([], fun us v => v = (vT false)), ([], fun us v => v = (vI j3))] : Gs) D u) hE (fun u => ⟨M.q0 hM.drew u, gok0⟩) (ZH (Zb ?_ (Zb ?_ (Zb ?_ (Zb ?_ (Zb ?_ (Zb ?_ (Zb ?_ (Zb ?_ (Zb ?_ (Zb ?_ (Zb ?_ (Zb ?_ (Zb ?_ (Zb ?_ (Zb ?_ ZD)))))))))))))))) ?_
    ·intro a w ux35 D hE hI hD hdc hp
     have hM0 := hI.1
     exact Zd hE Za (dl rfl) rfl fun a hE => ⟨_, _, rfl, hE, M.qKeep hM0 rfl, hI.2.put hD rfl ZE rfl⟩
    ·intro a w ux35 D hE hI hD hdc hp
     have hM0 := hI.1
     exact Zd hE Za (dl rfl) rfl fun a hE => ⟨_, _, rfl, hE, M.qKeep hM0 rfl, hI.2.put hD rfl ZE rfl⟩
    ·intro a w ux35 D hE hI hD hdc hp
     have hM0 := hI.1
     exact Zd hE Za (dl rfl) rfl fun a hE => ⟨_, _, rfl, hE, M.qKeep hM0 rfl, hI.2.put hD rfl ZE rfl⟩
    ·intro a w ux35 D hE hI hD hdc hp
     have d1 : D 1 = true := hp 0 _ rfl rfl
     have g1 := hI.2 1 d1 _ rfl
     have f1 : ux35 1 = (vI j3) := g1.2
     have d2 : D 2 = true := hp 1 _ rfl rfl
     have g2 := hI.2 2 d2 _ rfl
     have f2 : ux35 2 = (vI (p0.length : Int)) := g2.2
     have hM0 := hI.1
     exact Zh hE Za (dl rfl) (lk rfl f1) (lk rfl f2) rfl fun a hE => ⟨_, _, rfl, hE, M.qKeep hM0 rfl, hI.2.put hD rfl ZE rfl⟩
    ·intro a w ux35 D hE hI hD hdc hp
     have d3 : D 3 = true := hp 0 _ rfl rfl
     have g3 := hI.2 3 d3 _ rfl
     have f3 : ux35 3 = (vT (decide (j3 < (p0.length : Int)))) := g3.2
     have hM0 := hI.1
     exact Zd hE Za (dl rfl) (lk rfl f3) fun a hE => ⟨_, _, rfl, hE, M.qKeep hM0 rfl, hI.2.put hD rfl ZE rfl⟩
    ·intro a w ux35 D hE hI hD hdc hp
     have d4 : D 4 = true := hp 0 _ rfl rfl
     have g4 := hI.2 4 d4 _ rfl
     have f4 : ux35 4 = (vT (decide (j3 < (p0.length : Int)))) := g4.2
     have hM0 := hI.1
     exact Zn hE rfl (lkb (lk rfl f4) hb36) rfl (by decide) fun a hE => ⟨_, _, rfl, hE, M.qKeep hM0 rfl, hI.2.put hD rfl ZE rfl⟩
    ·intro a w ux35 D hE hI hD hdc hp
     have d4 : D 4 = true := hp 0 _ rfl rfl
     have g4 := hI.2 4 d4 _ rfl
     have f4 : ux35 4 = (vT (decide (j3 < (p0.length : Int)))) := g4.2
     have hM0 := hI.1
     exact Zn hE rfl (lkb (lk rfl f4) hb36) rfl (by decide) fun a hE => ⟨_, _, rfl, hE, M.qKeep hM0 rfl, hI.2.put hD rfl ZE rfl⟩
    ·intro a w ux35 D hE hI hD hdc hp
     have d4 : D 4 = true := hp 0 _ rfl rfl
     have g4 := hI.2 4 d4 _ rfl
     have f4 : ux35 4 = (vT (decide (j3 < (p0.length : Int)))) := g4.2
     have hM0 := hI.1
     exact Zn hE rfl (lkb (lk rfl f4) hb36) rfl (by decide) fun a hE => ⟨_, _, rfl, hE, M.qKeep hM0 rfl, hI.2.put hD rfl ZE rfl⟩
    ·intro a w ux35 D hE hI hD hdc hp
     have d4 : D 4 = true := hp 2 _ rfl rfl
     have g4 := hI.2 4 d4 _ rfl
     have f4 : ux35 4 = (vT (decide (j3 < (p0.length : Int)))) := g4.2
     have d6 : D 6 = true := hp 0 _ rfl rfl
     have g6 := hI.2 6 d6 _ rfl
     have f6 : ux35 6 = undef := g6.2
     have d7 : D 7 = true := hp 1 _ rfl rfl
     have g7 := hI.2 7 d7 _ rfl
     have f7 : ux35 7 = undef := g7.2
     have hM0 := hI.1
     exact Zn hE rfl (lkb (lk rfl f4) hb36) rfl (by decide) fun a hE => ⟨_, _, rfl, hE, M.qKeep hM0 rfl, hI.2.put hD rfl ZE rfl⟩
    ·intro a w ux35 D hE hI hD hdc hp
     have d4 : D 4 = true := hp 1 _ rfl rfl
     have g4 := hI.2 4 d4 _ rfl
     have f4 : ux35 4 = (vT (decide (j3 < (p0.length : Int)))) := g4.2
     have d8 : D 8 = true := hp 0 _ rfl rfl
     have g8 := hI.2 8 d8 _ rfl
     have f8 : ux35 8 = undef := g8.2
     have hM0 := hI.1
     exact Zn hE rfl (lkb (lk rfl f4) hb36) rfl (by decide) fun a hE => ⟨_, _, rfl, hE, M.qKeep hM0 rfl, hI.2.put hD rfl ZE rfl⟩
    ·intro a w ux35 D hE hI hD hdc hp
     have d4 : D 4 = true := hp 0 _ rfl rfl
     have g4 := hI.2 4 d4 _ rfl
     have f4 : ux35 4 = (vT (decide (j3 < (p0.length : Int)))) := g4.2
     have hM0 := hI.1
     exact Zn hE rfl (lkb (lk rfl f4) hb36) rfl (by decide) fun a hE => ⟨_, _, rfl, hE, M.qKeep hM0 rfl, hI.2.put hD rfl ZE rfl⟩
    ·intro a w ux35 D hE hI hD hdc hp
     have d4 : D 4 = true := hp 3 _ rfl rfl
     have g4 := hI.2 4 d4 _ rfl
     have f4 : ux35 4 = (vT (decide (j3 < (p0.length : Int)))) := g4.2
     have d5 : D 5 = true := hp 0 _ rfl rfl
     have g5 := hI.2 5 d5 _ rfl
     have f5 : ux35 5 = undef := g5.2
     have d9 : D 9 = true := hp 1 _ rfl rfl
     have g9 := hI.2 9 d9 _ rfl
     have f9 : ux35 9 = undef := g9.2
     have d10 : D 10 = true := hp 2 _ rfl rfl
     have g10 := hI.2 10 d10 _ rfl
     have f10 : ux35 10 = undef := g10.2
     have hM0 := hI.1
     exact Zn hE rfl (lkb (lk rfl f4) hb36) rfl (by decide) fun a hE => ⟨_, _, rfl, hE, M.qKeep hM0 rfl, hI.2.put hD rfl ZE rfl⟩
    ·intro a w ux35 D hE hI hD hdc hp
     have d4 : D 4 = true := hp 1 _ rfl rfl
     have g4 := hI.2 4 d4 _ rfl
     have f4 : ux35 4 = (vT (decide (j3 < (p0.length : Int)))) := g4.2
     have d11 : D 11 = true := hp 0 _ rfl rfl
     have g11 := hI.2 11 d11 _ rfl
     have f11 : ux35 11 = undef := g11.2
     have hM0 := hI.1
     exact Zn hE rfl (lkb (lk rfl f4) hb36) rfl (by decide) fun a hE => ⟨_, _, rfl, hE, M.qKeep hM0 rfl, hI.2.put hD rfl ZE rfl⟩
    ·intro a w ux35 D hE hI hD hdc hp
     have d4 : D 4 = true := hp 0 _ rfl rfl
     have g4 := hI.2 4 d4 _ rfl
     have f4 : ux35 4 = (vT (decide (j3 < (p0.length : Int)))) := g4.2
     have d12 : D 12 = true := hp 1 _ rfl rfl
     have g12 := hI.2 12 d12 _ rfl
     have f12 : ux35 12 = undef := g12.2
     have hM0 := hI.1
     exact YP hE Za (dl rfl) (lkb (lk rfl f4) hb36) rfl fun a hE => ⟨_, _, rfl, hE, M.qKeep hM0 rfl, hI.2.put hD rfl ZE rfl⟩
    ·intro a w ux35 D hE hI hD hdc hp
     have d0 : D 0 = true := hp 0 _ rfl rfl
     have g0 := hI.2 0 d0 _ rfl
     have f0 : ux35 0 = (vI j3) := g0.2
     have hM0 := hI.1
     exact Ze hE Za (dl rfl) (lk rfl f0) fun a hE => ⟨_, _, rfl, hE, M.qKeep hM0 rfl, hI.2.put hD rfl ZE rfl⟩
    ·intro a w ux35 D hE hI hall
     have hM := hI.1
     have d0 : D 0 = true := hall 0 (by decide)
     have d1 : D 1 = true := hall 1 (by decide)
     have d2 : D 2 = true := hall 2 (by decide)
     have d3 : D 3 = true := hall 3 (by decide)
     have d4 : D 4 = true := hall 4 (by decide)
     have d5 : D 5 = true := hall 5 (by decide)
     have d6 : D 6 = true := hall 6 (by decide)
     have d7 : D 7 = true := hall 7 (by decide)
     have d8 : D 8 = true := hall 8 (by decide)
     have d9 : D 9 = true := hall 9 (by decide)
     have d10 : D 10 = true := hall 10 (by decide)
     have d11 : D 11 = true := hall 11 (by decide)
     have d12 : D 12 = true := hall 12 (by decide)
     have d13 : D 13 = true := hall 13 (by decide)
     have d14 : D 14 = true := hall 14 (by decide)
     have f0 : ux35 0 = (vI j3) := (hI.2 0 d0 _ rfl).2
     have f1 : ux35 1 = (vI j3) := (hI.2 1 d1 _ rfl).2
     have f2 : ux35 2 = (vI (p0.length : Int)) := (hI.2 2 d2 _ rfl).2
     have f3 : ux35 3 = (vT (decide (j3 < (p0.length : Int)))) := (hI.2 3 d3 _ rfl).2
     have f4 : ux35 4 = (vT (decide (j3 < (p0.length : Int)))) := (hI.2 4 d4 _ rfl).2
     have f5 : ux35 5 = undef := (hI.2 5 d5 _ rfl).2
     have f6 : ux35 6 = undef := (hI.2 6 d6 _ rfl).2
     have f7 : ux35 7 = undef := (hI.2 7 d7 _ rfl).2
     have f8 : ux35 8 = undef := (hI.2 8 d8 _ rfl).2
     have f9 : ux35 9 = undef := (hI.2 9 d9 _ rfl).2
     have f10 : ux35 10 = undef := (hI.2 10 d10 _ rfl).2
     have f11 : ux35 11 = undef := (hI.2 11 d11 _ rfl).2
     have f12 : ux35 12 = undef := (hI.2 12 d12 _ rfl).2
     have f13 : ux35 13 = (vT false) := (hI.2 13 d13 _ rfl).2
     have f14 : ux35 14 = (vI j3) := (hI.2 14 d14 _ rfl).2
     have hE := hE.sub (e' := [(48, (vT false)), (6, (vI j3)), (0, v0_1), (2, (Value.func (.func k2) #[] q2.toArray)), (4, (ptr b1 0)), (8, (vI (p0.length : Int))), (9, (vI j3))]) ⟨lk rfl f13, lk rfl f14, rfl, rfl, rfl, rfl, rfl, trivial⟩
     refine Ze hE Za (dl rfl) rfl ?_; intro a hE
     refine Zj ?_
     have ht43 := Option.some.inj hl33
     subst ht43
     refine Zl ?_
     have hM := M.fst (l := []) hM
     exact ⟨hE.sub ⟨rfl, rfl, trivial⟩, hM⟩
  ·skip
   rintro a w ⟨hE, hM⟩
   have hr := Option.some.inj hF34
   subst hr
   exact wp_ret (k_ret2 hE rfl (Zu hE rfl) (Zu hE rfl) ⟨_, rfl, rfl, hM.kept⟩)
noncomputable def Vr (p0 : GBlobs) (p1 : (Vector UInt8 32)) : Option (Int × Int) :=
 (VK p0).bind fun r5 => if (!r5) = true then (some (0, 1)) else ((ZJ p0.Keys p1 (fun z0 z1 => ZW z0 z1)).bind fun r8 => if (!r8.2) = true then (some (0, 4)) else (some (r8.1, 0)))
theorem c_impl_Blobs_find (w0 : World) (p0 : GBlobs) (v0_1 : Value) (hv0_1 : Ro w0 p0.Keys [v0_1]) (v0_2 : Value) (hv0_2 : Ro w0 p0.Data [v0_2]) (v0_3 : Value) (hv0_3 : Ro w0 p0.Counts [v0_3]) (p1 : (Vector UInt8 32)) (r : Int × Int) (hF : Vr p0 p1 = some r) :
  Calls Try.prog 54 [(Value.agg (cat [[v0_1], [v0_2], [v0_3]]).toArray), (Value.agg (Flat.enc p1).toArray)].toArray w0 (fun en w' => ∃ v, en = .returned v ∧ (v = (Value.tuple [(vI r.1), (vI r.2)].toArray) ∧ Kept (Old w0) w0 w')) := by
 refine ZC (n := 21) Try.func54 rfl rfl (Nat.le_of_ble_eq_true rfl) rfl ?_
 intro a hE
 have hM := M.start w0
 unfold Vr at hF
 refine Zc (Z4 (cs := cat [[v0_1], [v0_2], [v0_3]]) hE hM Za (dl rfl) rfl rfl ?_); intro b1 w a hM hE
 refine Z4 (cs := Flat.enc p1) hE hM Za (dl rfl) rfl rfl ?_; intro b3 w a hM hE
 refine Ze hE Za (dl rfl) rfl ?_; intro a hE
 refine Ze hE Za (dl rfl) rfl ?_; intro a hE
 refine Zf (wp_seq (Zc (Zp (cs := cat [[v0_1], [v0_2], [v0_3]]) hE Za (dl rfl) rfl ty55 rfl (hM.rawAt (pre := [_])) (ZR (cl1 (n := 1) (m := 2) rfl (cl1 (n := 1) (m := 1) rfl (cl1 (n := 1) (m := 0) rfl cl0)))) ?_))); intro a hE
 obtain ⟨r5, e6, hF⟩ := bind_some hF
 refine Zw (vs := [(Value.agg (cat [[v0_1], [v0_2], [v0_3]]).toArray)]) hE Za (dl rfl) rfl cb79 (c_impl_IsBlobs _ p0 v0_1 (hM.rdo hv0_1) v0_2 (hM.rdo hv0_2) v0_3 (hM.rdo hv0_3) r5 e6) ?_
 rintro v w a ⟨rfl, hK⟩ hE
 have hM := hM.keep hK
 refine Uo hE Za (dl rfl) rfl ?_; intro a hE
 refine Zf ?_
 refine Zt hE rfl ?_ ?_
 ·intro hb7
  have hF := ZA hF hb7
  refine Zc (Ze hE Za (dl rfl) rfl ?_); intro a hE
  refine Ze hE Za (dl rfl) rfl ?_; intro a hE
  refine Zf ?_
  have hr := Option.some.inj hF
  subst hr
  have hM := M.fst (l := []) hM
  exact wp_ret (ZL (k_ret2 hE rfl (Zu hE rfl) (Zu hE rfl) ⟨_, rfl, rfl, hM.kept⟩))
 ·intro hb7
  have hF := Zz hF hb7
  refine wp_skip (Zx (Zc (Zo hE Za (dl rfl) rfl (Vz) ?_))); intro a hE
  refine Zv (v := v0_1) hE Za (dl rfl) rfl ty53 rfl (At.cat (pre := []) (hM.rawAt (pre := [_])) cl0) ?_; intro a hE
  refine Zp (cs := Flat.enc p1) hE Za (dl rfl) rfl Yi rfl (hM.rawAt (pre := [])) (Flat.len _) ?_; intro a hE
  obtain ⟨r8, e9, hF⟩ := bind_some hF
  refine Zw (vs := [v0_1, (Value.agg (Flat.enc p1).toArray), (Value.func (.func 81) #[] [].toArray)]) hE Za (dl rfl) rfl cb80 (Y5 _ p0.Keys v0_1 (hM.rdo hv0_1) p1 (fun z0 z1 => ZW z0 z1) 81 [] cb81 (fun w2 hk2 z0 z1 zr zhr => c_impl_Digest_compare w2 z0 z1 zr zhr) r8 e9) ?_
  rintro v w a ⟨rfl, hK⟩ hE
  have hM := hM.keep hK
  refine Zd hE Za (dl rfl) rfl ?_; intro a hE
  refine Xy hE Za (dl rfl) rfl rfl ?_; intro a hE
  refine Xy hE Za (dl rfl) rfl rfl ?_; intro a hE
  refine Ze hE Za (dl rfl) rfl ?_; intro a hE
  refine Ze hE Za (dl rfl) rfl ?_; intro a hE
  refine Zf (wp_seq (Zc (Zd hE Za (dl rfl) rfl ?_))); intro a hE
  refine Uo hE Za (dl rfl) rfl ?_; intro a hE
  refine Zf ?_
  refine Zt hE rfl ?_ ?_
  ·intro hb10
   have hF := ZA hF hb10
   refine Zc (Ze hE Za (dl rfl) rfl ?_); intro a hE
   refine Ze hE Za (dl rfl) rfl ?_; intro a hE
   refine Zf ?_
   have hr := Option.some.inj hF
   subst hr
   have hM := M.fst (l := []) hM
   exact wp_ret (ZL (k_ret2 hE rfl (Zu hE rfl) (Zu hE rfl) ⟨_, rfl, rfl, hM.kept⟩))
  ·intro hb10
   have hF := Zz hF hb10
   refine wp_skip (Zx (Zc (Zd hE Za (dl rfl) rfl ?_))); intro a hE
   refine Ze hE Za (dl rfl) rfl ?_; intro a hE
   refine Ze hE Za (dl rfl) rfl ?_; intro a hE
   refine Zf ?_
   have hr := Option.some.inj hF
   subst hr
   have hM := M.fst (l := []) hM
   exact wp_ret (k_ret2 hE rfl (Zu hE rfl) (Zu hE rfl) ⟨_, rfl, rfl, hM.kept⟩)
noncomputable def WT (p0 : GBlobs) (p1 : (Vector UInt8 32)) : Option ((List UInt8) × Int) :=
 (Vr p0 p1).bind fun r5 => if (r5.2 != 0) = true then (some ([], r5.2)) else ((idx p0.Data r5.1).bind fun x9 => (Yo x9).bind fun r17 => some (r17, 0))
theorem c_impl_GetBlob (w0 : World) (p0 : GBlobs) (v0_1 : Value) (hv0_1 : Ro w0 p0.Keys [v0_1]) (v0_2 : Value) (hv0_2 : Ro w0 p0.Data [v0_2]) (v0_3 : Value) (hv0_3 : Ro w0 p0.Counts [v0_3]) (p1 : (Vector UInt8 32)) (r : (List UInt8) × Int) (hF : WT p0 p1 = some r) :
  Calls Try.prog 22 [(Value.agg (cat [[v0_1], [v0_2], [v0_3]]).toArray), (Value.agg (Flat.enc p1).toArray)].toArray w0 (fun en w' => ∃ v, en = .returned v ∧ (∃ (y1 : Value), v = (Value.tuple [y1, (vI r.2)].toArray) ∧ Fr w0 w' [osl NoB (r.1 : List UInt8) y1] ∧ Kept (Old w0) w0 w')) := by
 refine ZC (n := 23) Try.func22 rfl rfl (Nat.le_of_ble_eq_true rfl) rfl ?_
 intro a hE
 have hM := M.start w0
 unfold WT at hF
 refine Zc (Z4 (cs := cat [[v0_1], [v0_2], [v0_3]]) hE hM Za (dl rfl) rfl rfl ?_); intro b1 w a hM hE
 refine Z4 (cs := Flat.enc p1) hE hM Za (dl rfl) rfl rfl ?_; intro b3 w a hM hE
 refine Ze hE Za (dl rfl) rfl ?_; intro a hE
 refine Ze hE Za (dl rfl) rfl ?_; intro a hE
 refine Zf (Zc (Zp (cs := cat [[v0_1], [v0_2], [v0_3]]) hE Za (dl rfl) rfl ty55 rfl (hM.rawAt (pre := [_])) (ZR (cl1 (n := 1) (m := 2) rfl (cl1 (n := 1) (m := 1) rfl (cl1 (n := 1) (m := 0) rfl cl0)))) ?_)); intro a hE
 refine Zp (cs := Flat.enc p1) hE Za (dl rfl) rfl Yi rfl (hM.rawAt (pre := [])) (Flat.len _) ?_; intro a hE
 obtain ⟨r5, e6, hF⟩ := bind_some hF
 refine Zw (vs := [(Value.agg (cat [[v0_1], [v0_2], [v0_3]]).toArray), (Value.agg (Flat.enc p1).toArray)]) hE Za (dl rfl) rfl cb54 (c_impl_Blobs_find _ p0 v0_1 (hM.rdo hv0_1) v0_2 (hM.rdo hv0_2) v0_3 (hM.rdo hv0_3) p1 r5 e6) ?_
 rintro v w a ⟨rfl, hK⟩ hE
 have hM := hM.keep hK
 refine Zd hE Za (dl rfl) rfl ?_; intro a hE
 refine Xy hE Za (dl rfl) rfl rfl ?_; intro a hE
 refine Xy hE Za (dl rfl) rfl rfl ?_; intro a hE
 refine Ze hE Za (dl rfl) rfl ?_; intro a hE
 refine Ze hE Za (dl rfl) rfl ?_; intro a hE
 refine Zf (wp_seq (Zc (Zd hE Za (dl rfl) rfl ?_))); intro a hE
 refine Zh hE Za (dl rfl) rfl rfl rfl ?_; intro a hE
 refine Zf ?_
 refine Zt hE rfl ?_ ?_
 ·intro hb7
  have hF := ZA hF hb7
  refine Zc (Zd hE Za (dl rfl) rfl ?_); intro a hE
  refine Ze hE Za (dl rfl) rfl ?_; intro a hE
  refine Ze hE Za (dl rfl) rfl ?_; intro a hE
  refine Zf ?_
  have hM := M.nilS (α := UInt8) NoB noB hM
  have hr := Option.some.inj hF
  subst hr
  have hM := M.fst (l := [_]) hM
  exact wp_ret (ZL (k_ret2 hE rfl (Zu hE rfl) (Zu hE rfl) ⟨_, rfl, (Value.slice none 0 0), rfl, hM.outF (Vq WY), hM.kept⟩))
 ·intro hb7
  have hF := Zz hF hb7
  refine wp_skip (Zx (Zc (Zo hE Za (dl rfl) rfl (UE) ?_))); intro a hE
  refine Zv (v := v0_2) hE Za (dl rfl) rfl ty45 rfl (At.cat (pre := [[v0_1]]) (hM.rawAt (pre := [_])) (cl1 (n := 1) (m := 0) rfl cl0)) ?_; intro a hE
  refine Zd hE Za (dl rfl) rfl ?_; intro a hE
  obtain ⟨x9, e10, hF⟩ := bind_some hF
  have hi11 := ZQ e10
  refine ZK hE Za (dl rfl) rfl rfl Try.underlying45 VD (hM.rd hv0_2) hi11.1 ?_; intro a hE
  obtain ⟨cs12, hs13, hA14⟩ := Us hv0_2 hi11.2 -- ^
  obtain ⟨u15, rfl⟩ := Vp hs13 -- ^
  have h16 := hs13 -- ^
  refine Zv (v := u15) hE Za (dl rfl) rfl VD rfl (hM.atk hA14 (Uv hv0_2 hi11.2)) ?_; intro a hE
  obtain ⟨r17, e18, hF⟩ := bind_some hF
  refine Zw (vs := [u15]) hE Za (dl rfl) rfl cb55 (Ue _ x9 u15 (hM.rdo h16) r17 e18) ?_
  rintro u19 w a ⟨_, rfl, hFr, hK⟩ hE
  have hM := hM.add hK hFr
  refine Ze hE Za (dl rfl) rfl ?_; intro a hE
  refine Ze hE Za (dl rfl) rfl ?_; intro a hE
  refine Zf ?_
  have hr := Option.some.inj hF
  subst hr
  have hM := M.fst (l := [_]) hM
  exact wp_ret (k_ret2 hE rfl (Zu hE rfl) (Zu hE rfl) ⟨_, rfl, u19, rfl, hM.outF (Vq WY), hM.kept⟩)
noncomputable def Ui (p0 : (List UInt8)) (p1 : (List UInt8)) (s6 : Int) : Option (Fl Int (Fl Unit Bool)) :=
 if (decide (s6 < (p0.length : Int))) = true then (((idx p0 s6).bind fun x15 => (idx p1 s6).bind fun x18 => some (x15 != x18) : Option (Bool)).bind fun j11 => if j11 = true then (some (Fl.ex (Fl.ex false))) else (some (Fl.nx (wr (s6 + 1))))) else (some (Fl.ex (Fl.nx ())))
noncomputable def YY (p0 : (List UInt8)) (p1 : (List UInt8)) : Option (Bool) :=
 if ((p0.length : Int) != (p1.length : Int)) = true then (some false) else ((ZF (Ui p0 p1) 0 : Option (Fl Unit Bool)).bind fun j2 => j2.el (fun s5 => some true) (fun r => some r))
theorem UG (w0 : World) (p0 : (List UInt8)) (v0_1 : Value) (hv0_1 : Ro w0 p0 [v0_1]) (p1 : (List UInt8)) (v1_1 : Value) (hv1_1 : Ro w0 p1 [v1_1]) (r : Bool) (hF : YY p0 p1 = some r) :
  Calls Try.prog 23 [v0_1, v1_1].toArray w0 (fun en w' => ∃ v, en = .returned v ∧ (v = (vT r) ∧ Kept (Old w0) w0 w')) := by
 refine ZC (n := 26) Try.func23 rfl rfl (Nat.le_of_ble_eq_true rfl) rfl ?_
 intro a hE
 have hM := M.start w0
 unfold YY at hF
 refine Zc (Ze hE Za (dl rfl) rfl ?_); intro a hE
 refine Zf (wp_seq (Zc (Zd hE Za (dl rfl) rfl ?_))); intro a hE
 refine Z7 hE Za (dl rfl) rfl Try.underlying50 (hM.rd hv0_1) ?_; intro a hE
 refine Zd hE Za (dl rfl) rfl ?_; intro a hE
 refine Z7 hE Za (dl rfl) rfl Try.underlying50 (hM.rd hv1_1) ?_; intro a hE
 refine Zh hE Za (dl rfl) rfl rfl rfl ?_; intro a hE
 refine Zf ?_
 refine Zt hE rfl ?_ ?_
 ·intro hb1
  have hF := ZA hF hb1
  refine Zc (Ze hE Za (dl rfl) rfl ?_); intro a hE
  refine Zf ?_
  have hr := Option.some.inj hF
  subst hr
  exact wp_ret (ZL (Zy hE rfl (Zu hE rfl) ⟨_, rfl, rfl, hM.kept⟩))
 ·intro hb1
  have hF := Zz hF hb1
  refine wp_skip (Zx (wp_seq (Zc (Ze hE Za (dl rfl) rfl ?_)))); intro a hE
  refine Zf ?_
  obtain ⟨j2, hl3, hF4⟩ := bind_some hF
  refine ZV (fun a w => ∃ s5 : Unit, j2 = Fl.nx s5 ∧ Env 26 a [] ∧ M (Old w0) w0 w []) ?_ ?_
  ·skip
   refine wp_block ?_
   refine ZN (fun (s6 : Int) a w => Env 26 a [(0, v0_1), (1, v1_1), (5, (vI s6))] ∧ M (Old w0) w0 w []) hl3 ⟨hE.sub ⟨rfl, rfl, rfl, trivial⟩, hM⟩ ?_
   rintro s6 a w ⟨hE, hM⟩ o9 hs7 hx8
   unfold Ui at hs7
   refine wp_seq (Zc (Zd hE Za (dl rfl) rfl ?_)); intro a hE
   refine Zd hE Za (dl rfl) rfl ?_; intro a hE
   refine Z7 hE Za (dl rfl) rfl Try.underlying50 (hM.rd hv0_1) ?_; intro a hE
   refine Zh hE Za (dl rfl) rfl rfl rfl ?_; intro a hE
   refine Zf ?_
   refine Zt hE rfl ?_ ?_
   ·intro hb10
    have hs7 := ZA hs7 hb10
    refine wp_skip (Zx (wp_seq (wp_block ?_)))
    obtain ⟨j11, hl12, hF13⟩ := bind_some hs7
    refine ZS (fun a w => Env 26 a [(0, v0_1), (1, v1_1), (5, (vI s6)), (25, (vT j11))] ∧ M (Old w0) w0 w []) ?_ ?_
    ·skip
     obtain ⟨x15, e16, hl12⟩ := bind_some hl12
     have hi17 := ZQ e16
     obtain ⟨x18, e19, hl12⟩ := bind_some hl12
     have hi20 := ZQ e19
     refine Yd (n := 26) (hd := [_, _, _, _, _, _, _, _, _]) (tl := []) YB rfl rfl [17, 18, 19, 20, 21, 22, 23, 24, 25] (by decide) (fun w => M (Old w0) w0 w []) (fun j => ([fun v _ => v = v0_1, fun v _ => v = (vI s6), fun v _ => v = (ptr (sb v0_1) (so v0_1 + (s6).toNat * 1)), fun v _ => v = (vB x15), fun v _ => v = v1_1, fun v _ => v = (vI s6), fun v _ => v = (ptr (sb v1_1) (so v1_1 + (s6).toNat * 1)), fun v _ => v = (vB x18), fun v _ => v = (vT (x15 != x18))] : List (Value → World → Prop)).getD j (fun _ _ => True)) (fun _ _ h hk => h.keep hk) (gup (Zg (Zg (Zg (Zg (Zg (Zg (Zg (Zg (Zg Wu)))))))))) hE hM.drew (ZH (Zb ?_ (Zb ?_ (Zb ?_ (Zb ?_ (Zb ?_ (Zb ?_ (Zb ?_ (Zb ?_ (Zb ?_ ZD)))))))))) ?_
     ·exact fun a w ux14 hE hM hp => Zd hE Za (dl rfl) rfl fun a hE => ⟨Kept.refl _ _, _, _, rfl, hE, rfl⟩
     ·exact fun a w ux14 hE hM hp => Zd hE Za (dl rfl) rfl fun a hE => ⟨Kept.refl _ _, _, _, rfl, hE, rfl⟩
     ·intro a w ux14 hE hM hp
      have f0 : ux14 0 = v0_1 := hp 0 _ rfl rfl
      have f1 : ux14 1 = (vI s6) := hp 1 _ rfl rfl
      exact ZK hE Za (dl rfl) (lk rfl f0) (lk rfl f1) Try.underlying50 ty5 (hM.rd hv0_1) hi17.1 fun a hE => ⟨Kept.refl _ _, _, _, rfl, hE, rfl⟩
     ·intro a w ux14 hE hM hp
      have f2 : ux14 2 = (ptr (sb v0_1) (so v0_1 + (s6).toNat * 1)) := hp 0 _ rfl rfl
      exact Zv (v := (vB x15)) hE Za (dl rfl) (lk rfl f2) ty5 rfl (Yt (hM.rd hv0_1) hi17.2) fun a hE => ⟨Kept.refl _ _, _, _, rfl, hE, rfl⟩
     ·exact fun a w ux14 hE hM hp => Zd hE Za (dl rfl) rfl fun a hE => ⟨Kept.refl _ _, _, _, rfl, hE, rfl⟩
     ·exact fun a w ux14 hE hM hp => Zd hE Za (dl rfl) rfl fun a hE => ⟨Kept.refl _ _, _, _, rfl, hE, rfl⟩
     ·intro a w ux14 hE hM hp
      have f4 : ux14 4 = v1_1 := hp 0 _ rfl rfl
      have f5 : ux14 5 = (vI s6) := hp 1 _ rfl rfl
      exact ZK hE Za (dl rfl) (lk rfl f4) (lk rfl f5) Try.underlying50 ty5 (hM.rd hv1_1) hi20.1 fun a hE => ⟨Kept.refl _ _, _, _, rfl, hE, rfl⟩
     ·intro a w ux14 hE hM hp
      have f6 : ux14 6 = (ptr (sb v1_1) (so v1_1 + (s6).toNat * 1)) := hp 0 _ rfl rfl
      exact Zv (v := (vB x18)) hE Za (dl rfl) (lk rfl f6) ty5 rfl (Yt (hM.rd hv1_1) hi20.2) fun a hE => ⟨Kept.refl _ _, _, _, rfl, hE, rfl⟩
     ·intro a w ux14 hE hM hp
      have f3 : ux14 3 = (vB x15) := hp 0 _ rfl rfl
      have f7 : ux14 7 = (vB x18) := hp 1 _ rfl rfl
      exact Zh hE Za (dl rfl) (lk rfl f3) (lk rfl f7) (bB_neq x15 x18) fun a hE => ⟨Kept.refl _ _, _, _, rfl, hE, rfl⟩
     ·intro a w ux14 hE hM hg
      have hE := hE.sub (e' := [(25, (vT (x15 != x18))), (0, v0_1), (1, v1_1), (5, (vI s6)), (11, (vI s6)), (12, v0_1), (13, (vI (p0.length : Int))), (14, (vT (decide (s6 < (p0.length : Int)))))]) ⟨lk rfl (hg 8 (by decide)), rfl, rfl, rfl, rfl, rfl, rfl, rfl, trivial⟩
      refine Zj ?_
      have ht21 := Option.some.inj hl12
      subst ht21
      refine Zl ?_
      exact ⟨hE.sub ⟨rfl, rfl, rfl, rfl, trivial⟩, hM⟩
    ·skip
     rintro a w ⟨hE, hM⟩
     refine Zt hE rfl ?_ ?_
     ·intro hb22
      have hF13 := ZA hF13 hb22
      refine Zc (Ze hE Za (dl rfl) rfl ?_); intro a hE
      refine Zf ?_
      have ht23 := hx8 _ (Option.some.inj hF13).symm
      subst ht23
      have hr := Option.some.inj hF4
      subst hr
      exact wp_ret (W0 (ZL (ZL (W0 (ZL (ZL (Zy hE rfl (Zu hE rfl) ⟨_, rfl, rfl, hM.kept⟩)))))))
     ·intro hb22
      have hF13 := Zz hF13 hb22
      refine wp_skip (Yk (Zx (wp_region_lit (Zd hE Za (dl rfl) rfl ?_)))); intro a hE
      refine Zh hE Za (dl rfl) rfl rfl rfl ?_; intro a hE
      refine Ze hE Za (dl rfl) rfl ?_; intro a hE
      refine Zj (Zl ?_)
      exact ⟨_, (Option.some.inj hF13).symm, hE.sub ⟨rfl, rfl, rfl, trivial⟩, hM⟩
   ·intro hb10
    have hs7 := Zz hs7 hb10
    refine wp_exit (Zr (Zr (Yj ?_)))
    have ht24 := hx8 _ (Option.some.inj hs7).symm
    subst ht24
    refine Zl ?_
    exact ⟨(), rfl, hE.sub trivial, hM⟩
  ·skip
   rintro a w ⟨s5, ht, hE, hM⟩
   subst ht
   have hF4 := el_nx hF4
   refine Zx (Zc (Ze hE Za (dl rfl) rfl ?_)); intro a hE
   refine Zf ?_
   have hr := Option.some.inj hF4
   subst hr
   exact wp_ret (Zy hE rfl (Zu hE rfl) ⟨_, rfl, rfl, hM.kept⟩)
noncomputable def VZ (p0 : (Vector UInt8 32)) (p1 : (Vector UInt8 32)) (s9 : Int) : Option (Fl Int (Fl Unit Bool)) :=
 if (decide (s9 < 32)) = true then (((ZM p0 s9).bind fun x19 => (ZM p1 s9).bind fun x22 => some (x19 != x22) : Option (Bool)).bind fun j14 => if j14 = true then (some (Fl.ex (Fl.ex false))) else (some (Fl.nx (wr (s9 + 1))))) else (some (Fl.ex (Fl.nx ())))
noncomputable def Wd (p0 : (Vector UInt8 32)) (p1 : (Vector UInt8 32)) : Option (Bool) :=
 (ZF (VZ p0 p1) 0 : Option (Fl Unit Bool)).bind fun j5 => j5.el (fun s8 => some true) (fun r => some r)
theorem c_laws_eqDigest (w0 : World) (p0 : (Vector UInt8 32)) (p1 : (Vector UInt8 32)) (r : Bool) (hF : Wd p0 p1 = some r) :
  Calls Try.prog 10 [(Value.agg (Flat.enc p0).toArray), (Value.agg (Flat.enc p1).toArray)].toArray w0 (fun en w' => ∃ v, en = .returned v ∧ (v = (vT r) ∧ Kept (Old w0) w0 w')) := by
 refine ZC (n := 17) Try.func10 rfl rfl (Nat.le_of_ble_eq_true rfl) rfl ?_
 intro a hE
 have hM := M.start w0
 unfold Wd at hF
 refine Zc (Z4 (cs := Flat.enc p0) hE hM Za (dl rfl) rfl rfl ?_); intro b1 w a hM hE
 refine Z4 (cs := Flat.enc p1) hE hM Za (dl rfl) rfl rfl ?_; intro b3 w a hM hE
 refine Ze hE Za (dl rfl) rfl ?_; intro a hE
 refine Zf (wp_seq (Zc (Ze hE Za (dl rfl) rfl ?_))); intro a hE
 refine Zf ?_
 obtain ⟨j5, hl6, hF7⟩ := bind_some hF
 refine ZV (fun a w => ∃ s8 : Unit, j5 = Fl.nx s8 ∧ Env 17 a [] ∧ M (Old w0) w0 w []) ?_ ?_
 ·skip
  refine wp_block ?_
  refine ZN (fun (s9 : Int) a w => Env 17 a [(2, (ptr b1 0)), (3, (ptr b3 0)), (5, (vI s9))] ∧ M (Old w0) w0 w [raw b3 (Flat.enc p1), raw b1 (Flat.enc p0)]) hl6 ⟨hE.sub ⟨rfl, rfl, rfl, trivial⟩, hM⟩ ?_
  rintro s9 a w ⟨hE, hM⟩ o12 hs10 hx11
  unfold VZ at hs10
  refine wp_seq (Zc (Zd hE Za (dl rfl) rfl ?_)); intro a hE
  refine Zh hE Za (dl rfl) rfl rfl rfl ?_; intro a hE
  refine Zf ?_
  refine Zt hE rfl ?_ ?_
  ·intro hb13
   have hs10 := ZA hs10 hb13
   refine wp_skip (Zx (wp_seq (wp_block ?_)))
   obtain ⟨j14, hl15, hF16⟩ := bind_some hs10
   refine ZS (fun a w => Env 17 a [(2, (ptr b1 0)), (3, (ptr b3 0)), (5, (vI s9)), (16, (vT j14))] ∧ M (Old w0) w0 w [raw b3 (Flat.enc p1), raw b1 (Flat.enc p0)]) ?_ ?_
   ·skip
    obtain ⟨x19, e20, hl15⟩ := bind_some hl15
    have hi18 := Zi e20
    obtain ⟨x22, e23, hl15⟩ := bind_some hl15
    have hi21 := Zi e23
    refine Yd (n := 17) (hd := [_, _, _, _, _, _, _]) (tl := []) YB rfl rfl [10, 11, 12, 13, 14, 15, 16] (by decide) (fun w => M (Old w0) w0 w [raw b3 (Flat.enc p1), raw b1 (Flat.enc p0)]) (fun j => ([fun v _ => v = (vI s9), fun v _ => v = (ptr b1 (0 + (s9).toNat * 1)), fun v _ => v = (vB x19), fun v _ => v = (vI s9), fun v _ => v = (ptr b3 (0 + (s9).toNat * 1)), fun v _ => v = (vB x22), fun v _ => v = (vT (x19 != x22))] : List (Value → World → Prop)).getD j (fun _ _ => True)) (fun _ _ h hk => h.keep hk) (gup (Zg (Zg (Zg (Zg (Zg (Zg (Zg Wu)))))))) hE hM.drew (ZH (Zb ?_ (Zb ?_ (Zb ?_ (Zb ?_ (Zb ?_ (Zb ?_ (Zb ?_ ZD)))))))) ?_
    ·exact fun a w ux17 hE hM hp => Zd hE Za (dl rfl) rfl fun a hE => ⟨Kept.refl _ _, _, _, rfl, hE, rfl⟩
    ·intro a w ux17 hE hM hp
     have f0 : ux17 0 = (vI s9) := hp 0 _ rfl rfl
     exact Zm hE Za (dl rfl) rfl (lk rfl f0) Try.underlying25 ty5 hi18.1 fun a hE => ⟨Kept.refl _ _, _, _, rfl, hE, rfl⟩
    ·intro a w ux17 hE hM hp
     have f1 : ux17 1 = (ptr b1 (0 + (s9).toNat * 1)) := hp 0 _ rfl rfl
     exact Zv (v := (vB x19)) hE Za (dl rfl) (lk rfl f1) ty5 rfl (At.vec (hM.rawAt (pre := [_])) hi18.2) fun a hE => ⟨Kept.refl _ _, _, _, rfl, hE, rfl⟩
    ·exact fun a w ux17 hE hM hp => Zd hE Za (dl rfl) rfl fun a hE => ⟨Kept.refl _ _, _, _, rfl, hE, rfl⟩
    ·intro a w ux17 hE hM hp
     have f3 : ux17 3 = (vI s9) := hp 0 _ rfl rfl
     exact Zm hE Za (dl rfl) rfl (lk rfl f3) Try.underlying25 ty5 hi21.1 fun a hE => ⟨Kept.refl _ _, _, _, rfl, hE, rfl⟩
    ·intro a w ux17 hE hM hp
     have f4 : ux17 4 = (ptr b3 (0 + (s9).toNat * 1)) := hp 0 _ rfl rfl
     exact Zv (v := (vB x22)) hE Za (dl rfl) (lk rfl f4) ty5 rfl (At.vec (hM.rawAt (pre := [])) hi21.2) fun a hE => ⟨Kept.refl _ _, _, _, rfl, hE, rfl⟩
    ·intro a w ux17 hE hM hp
     have f2 : ux17 2 = (vB x19) := hp 0 _ rfl rfl
     have f5 : ux17 5 = (vB x22) := hp 1 _ rfl rfl
     exact Zh hE Za (dl rfl) (lk rfl f2) (lk rfl f5) (bB_neq x19 x22) fun a hE => ⟨Kept.refl _ _, _, _, rfl, hE, rfl⟩
    ·intro a w ux17 hE hM hg
     have hE := hE.sub (e' := [(16, (vT (x19 != x22))), (2, (ptr b1 0)), (3, (ptr b3 0)), (5, (vI s9)), (6, (vI s9)), (7, (vT (decide (s9 < 32))))]) ⟨lk rfl (hg 6 (by decide)), rfl, rfl, rfl, rfl, rfl, trivial⟩
     refine Zj ?_
     have ht24 := Option.some.inj hl15
     subst ht24
     refine Zl ?_
     exact ⟨hE.sub ⟨rfl, rfl, rfl, rfl, trivial⟩, hM⟩
   ·skip
    rintro a w ⟨hE, hM⟩
    refine Zt hE rfl ?_ ?_
    ·intro hb25
     have hF16 := ZA hF16 hb25
     refine Zc (Ze hE Za (dl rfl) rfl ?_); intro a hE
     refine Zf ?_
     have ht26 := hx11 _ (Option.some.inj hF16).symm
     subst ht26
     have hr := Option.some.inj hF7
     subst hr
     have hM := M.fst (l := []) hM
     exact wp_ret (W0 (ZL (ZL (W0 (ZL (ZL (Zy hE rfl (Zu hE rfl) ⟨_, rfl, rfl, hM.kept⟩)))))))
    ·intro hb25
     have hF16 := Zz hF16 hb25
     refine wp_skip (Yk (Zx (wp_region_lit (Zd hE Za (dl rfl) rfl ?_)))); intro a hE
     refine Zh hE Za (dl rfl) rfl rfl rfl ?_; intro a hE
     refine Ze hE Za (dl rfl) rfl ?_; intro a hE
     refine Zj (Zl ?_)
     exact ⟨_, (Option.some.inj hF16).symm, hE.sub ⟨rfl, rfl, rfl, trivial⟩, hM⟩
  ·intro hb13
   have hs10 := Zz hs10 hb13
   refine wp_exit (Zr (Zr (Yj ?_)))
   have ht27 := hx11 _ (Option.some.inj hs10).symm
   subst ht27
   refine Zl ?_
   have hM := M.fst (l := []) hM
   exact ⟨(), rfl, hE.sub trivial, hM⟩
 ·skip
  rintro a w ⟨s8, ht, hE, hM⟩
  subst ht
  have hF7 := el_nx hF7
  refine Zx (Zc (Ze hE Za (dl rfl) rfl ?_)); intro a hE
  refine Zf ?_
  have hr := Option.some.inj hF7
  subst hr
  exact wp_ret (Zy hE rfl (Zu hE rfl) ⟨_, rfl, rfl, hM.kept⟩)
noncomputable def Vt (p0 : (List (Vector UInt8 32))) (p1 : (List (Vector UInt8 32))) (s6 : Int) : Option (Fl Int (Fl Unit Bool)) :=
 if (decide (s6 < (p0.length : Int))) = true then (((idx p0 s6).bind fun x15 => (idx p1 s6).bind fun x18 => (Wd x15 x18).bind fun r21 => some (!r21) : Option (Bool)).bind fun j11 => if j11 = true then (some (Fl.ex (Fl.ex false))) else (some (Fl.nx (wr (s6 + 1))))) else (some (Fl.ex (Fl.nx ())))
noncomputable def WO (p0 : (List (Vector UInt8 32))) (p1 : (List (Vector UInt8 32))) : Option (Bool) :=
 if ((p0.length : Int) != (p1.length : Int)) = true then (some false) else ((ZF (Vt p0 p1) 0 : Option (Fl Unit Bool)).bind fun j2 => j2.el (fun s5 => some true) (fun r => some r))
theorem c_laws_eqDigestS (w0 : World) (p0 : (List (Vector UInt8 32))) (v0_1 : Value) (hv0_1 : Ro w0 p0 [v0_1]) (p1 : (List (Vector UInt8 32))) (v1_1 : Value) (hv1_1 : Ro w0 p1 [v1_1]) (r : Bool) (hF : WO p0 p1 = some r) :
  Calls Try.prog 56 [v0_1, v1_1].toArray w0 (fun en w' => ∃ v, en = .returned v ∧ (v = (vT r) ∧ Kept (Old w0) w0 w')) := by
 refine ZC (n := 27) Try.func56 rfl rfl (Nat.le_of_ble_eq_true rfl) rfl ?_
 intro a hE
 have hM := M.start w0
 unfold WO at hF
 refine Zc (Ze hE Za (dl rfl) rfl ?_); intro a hE
 refine Zf (wp_seq (Zc (Zd hE Za (dl rfl) rfl ?_))); intro a hE
 refine Z7 hE Za (dl rfl) rfl Try.underlying53 (hM.rd hv0_1) ?_; intro a hE
 refine Zd hE Za (dl rfl) rfl ?_; intro a hE
 refine Z7 hE Za (dl rfl) rfl Try.underlying53 (hM.rd hv1_1) ?_; intro a hE
 refine Zh hE Za (dl rfl) rfl rfl rfl ?_; intro a hE
 refine Zf ?_
 refine Zt hE rfl ?_ ?_
 ·intro hb1
  have hF := ZA hF hb1
  refine Zc (Ze hE Za (dl rfl) rfl ?_); intro a hE
  refine Zf ?_
  have hr := Option.some.inj hF
  subst hr
  exact wp_ret (ZL (Zy hE rfl (Zu hE rfl) ⟨_, rfl, rfl, hM.kept⟩))
 ·intro hb1
  have hF := Zz hF hb1
  refine wp_skip (Zx (wp_seq (Zc (Ze hE Za (dl rfl) rfl ?_)))); intro a hE
  refine Zf ?_
  obtain ⟨j2, hl3, hF4⟩ := bind_some hF
  refine ZV (fun a w => ∃ s5 : Unit, j2 = Fl.nx s5 ∧ Env 27 a [] ∧ M (Old w0) w0 w []) ?_ ?_
  ·skip
   refine wp_block ?_
   refine ZN (fun (s6 : Int) a w => Env 27 a [(0, v0_1), (1, v1_1), (5, (vI s6))] ∧ M (Old w0) w0 w []) hl3 ⟨hE.sub ⟨rfl, rfl, rfl, trivial⟩, hM⟩ ?_
   rintro s6 a w ⟨hE, hM⟩ o9 hs7 hx8
   unfold Vt at hs7
   refine wp_seq (Zc (Zd hE Za (dl rfl) rfl ?_)); intro a hE
   refine Zd hE Za (dl rfl) rfl ?_; intro a hE
   refine Z7 hE Za (dl rfl) rfl Try.underlying53 (hM.rd hv0_1) ?_; intro a hE
   refine Zh hE Za (dl rfl) rfl rfl rfl ?_; intro a hE
   refine Zf ?_
   refine Zt hE rfl ?_ ?_
   ·intro hb10
    have hs7 := ZA hs7 hb10
    refine wp_skip (Zx (wp_seq (wp_block ?_)))
    obtain ⟨j11, hl12, hF13⟩ := bind_some hs7
    refine ZS (fun a w => Env 27 a [(0, v0_1), (1, v1_1), (5, (vI s6)), (26, (vT j11))] ∧ M (Old w0) w0 w []) ?_ ?_
    ·skip
     obtain ⟨x15, e16, hl12⟩ := bind_some hl12
     have hi17 := ZQ e16
     obtain ⟨x18, e19, hl12⟩ := bind_some hl12
     have hi20 := ZQ e19
     obtain ⟨r21, e22, hl12⟩ := bind_some hl12
     refine Yd (n := 27) (hd := [_, _, _, _, _, _, _, _, _, _]) (tl := []) YB rfl rfl [17, 18, 19, 20, 21, 22, 23, 24, 25, 26] (by decide) (fun w => M (Old w0) w0 w []) (fun j => ([fun v _ => v = v0_1, fun v _ => v = (vI s6), fun v _ => v = (ptr (sb v0_1) (so v0_1 + (s6).toNat * 32)), fun v _ => v = (Value.agg (Flat.enc x15).toArray), fun v _ => v = v1_1, fun v _ => v = (vI s6), fun v _ => v = (ptr (sb v1_1) (so v1_1 + (s6).toNat * 32)), fun v _ => v = (Value.agg (Flat.enc x18).toArray), fun v _ => v = (vT r21), fun v _ => v = (vT (!r21))] : List (Value → World → Prop)).getD j (fun _ _ => True)) (fun _ _ h hk => h.keep hk) (gup (Zg (Zg (Zg (Zg (Zg (Zg (Zg (Zg (Zg (Zg Wu))))))))))) hE hM.drew (ZH (Zb ?_ (Zb ?_ (Zb ?_ (Zb ?_ (Zb ?_ (Zb ?_ (Zb ?_ (Zb ?_ (Zb ?_ (Zb ?_ ZD))))))))))) ?_
     ·exact fun a w ux14 hE hM hp => Zd hE Za (dl rfl) rfl fun a hE => ⟨Kept.refl _ _, _, _, rfl, hE, rfl⟩
     ·exact fun a w ux14 hE hM hp => Zd hE Za (dl rfl) rfl fun a hE => ⟨Kept.refl _ _, _, _, rfl, hE, rfl⟩
     ·intro a w ux14 hE hM hp
      have f0 : ux14 0 = v0_1 := hp 0 _ rfl rfl
      have f1 : ux14 1 = (vI s6) := hp 1 _ rfl rfl
      exact ZK hE Za (dl rfl) (lk rfl f0) (lk rfl f1) Try.underlying53 Yi (hM.rd hv0_1) hi17.1 fun a hE => ⟨Kept.refl _ _, _, _, rfl, hE, rfl⟩
     ·intro a w ux14 hE hM hp
      have f2 : ux14 2 = (ptr (sb v0_1) (so v0_1 + (s6).toNat * 32)) := hp 0 _ rfl rfl
      exact Zp (cs := Flat.enc x15) hE Za (dl rfl) (lk rfl f2) Yi rfl (Yt (hM.rd hv0_1) hi17.2) (Flat.len _) fun a hE => ⟨Kept.refl _ _, _, _, rfl, hE, rfl⟩
     ·exact fun a w ux14 hE hM hp => Zd hE Za (dl rfl) rfl fun a hE => ⟨Kept.refl _ _, _, _, rfl, hE, rfl⟩
     ·exact fun a w ux14 hE hM hp => Zd hE Za (dl rfl) rfl fun a hE => ⟨Kept.refl _ _, _, _, rfl, hE, rfl⟩
     ·intro a w ux14 hE hM hp
      have f4 : ux14 4 = v1_1 := hp 0 _ rfl rfl
      have f5 : ux14 5 = (vI s6) := hp 1 _ rfl rfl
      exact ZK hE Za (dl rfl) (lk rfl f4) (lk rfl f5) Try.underlying53 Yi (hM.rd hv1_1) hi20.1 fun a hE => ⟨Kept.refl _ _, _, _, rfl, hE, rfl⟩
     ·intro a w ux14 hE hM hp
      have f6 : ux14 6 = (ptr (sb v1_1) (so v1_1 + (s6).toNat * 32)) := hp 0 _ rfl rfl
      exact Zp (cs := Flat.enc x18) hE Za (dl rfl) (lk rfl f6) Yi rfl (Yt (hM.rd hv1_1) hi20.2) (Flat.len _) fun a hE => ⟨Kept.refl _ _, _, _, rfl, hE, rfl⟩
     ·intro a w ux14 hE hM hp
      have f3 : ux14 3 = (Value.agg (Flat.enc x15).toArray) := hp 0 _ rfl rfl
      have f7 : ux14 7 = (Value.agg (Flat.enc x18).toArray) := hp 1 _ rfl rfl
      refine Zw (vs := [(Value.agg (Flat.enc x15).toArray), (Value.agg (Flat.enc x18).toArray)]) hE Za (dl rfl) (Z0 (ZY (lk rfl f3) (ZY (lk rfl f7) Xf))) cb10 (c_laws_eqDigest _ x15 x18 r21 e22) ?_
      rintro v w a ⟨rfl, hK⟩ hE
      exact ⟨hK, _, _, rfl, hE, rfl⟩
     ·intro a w ux14 hE hM hp
      have f8 : ux14 8 = (vT r21) := hp 0 _ rfl rfl
      exact Uo hE Za (dl rfl) (lk rfl f8) fun a hE => ⟨Kept.refl _ _, _, _, rfl, hE, rfl⟩
     ·intro a w ux14 hE hM hg
      have hE := hE.sub (e' := [(26, (vT (!r21))), (0, v0_1), (1, v1_1), (5, (vI s6)), (11, (vI s6)), (12, v0_1), (13, (vI (p0.length : Int))), (14, (vT (decide (s6 < (p0.length : Int)))))]) ⟨lk rfl (hg 9 (by decide)), rfl, rfl, rfl, rfl, rfl, rfl, rfl, trivial⟩
      refine Zj ?_
      have ht23 := Option.some.inj hl12
      subst ht23
      refine Zl ?_
      exact ⟨hE.sub ⟨rfl, rfl, rfl, rfl, trivial⟩, hM⟩
    ·skip
     rintro a w ⟨hE, hM⟩
     refine Zt hE rfl ?_ ?_
     ·intro hb24
      have hF13 := ZA hF13 hb24
      refine Zc (Ze hE Za (dl rfl) rfl ?_); intro a hE
      refine Zf ?_
      have ht25 := hx8 _ (Option.some.inj hF13).symm
      subst ht25
      have hr := Option.some.inj hF4
      subst hr
      exact wp_ret (W0 (ZL (ZL (W0 (ZL (ZL (Zy hE rfl (Zu hE rfl) ⟨_, rfl, rfl, hM.kept⟩)))))))
     ·intro hb24
      have hF13 := Zz hF13 hb24
      refine wp_skip (Yk (Zx (wp_region_lit (Zd hE Za (dl rfl) rfl ?_)))); intro a hE
      refine Zh hE Za (dl rfl) rfl rfl rfl ?_; intro a hE
      refine Ze hE Za (dl rfl) rfl ?_; intro a hE
      refine Zj (Zl ?_)
      exact ⟨_, (Option.some.inj hF13).symm, hE.sub ⟨rfl, rfl, rfl, trivial⟩, hM⟩
   ·intro hb10
    have hs7 := Zz hs7 hb10
    refine wp_exit (Zr (Zr (Yj ?_)))
    have ht26 := hx8 _ (Option.some.inj hs7).symm
    subst ht26
    refine Zl ?_
    exact ⟨(), rfl, hE.sub trivial, hM⟩
  ·skip
   rintro a w ⟨s5, ht, hE, hM⟩
   subst ht
   have hF4 := el_nx hF4
   refine Zx (Zc (Ze hE Za (dl rfl) rfl ?_)); intro a hE
   refine Zf ?_
   have hr := Option.some.inj hF4
   subst hr
   exact wp_ret (Zy hE rfl (Zu hE rfl) ⟨_, rfl, rfl, hM.kept⟩)
noncomputable def V2 (p0 : (List (List UInt8))) (p1 : (List (List UInt8))) (s6 : Int) : Option (Fl Int (Fl Unit Bool)) :=
 if (decide (s6 < (p0.length : Int))) = true then (((idx p0 s6).bind fun x15 => (idx p1 s6).bind fun x23 => (YY x15 x23).bind fun r31 => some (!r31) : Option (Bool)).bind fun j11 => if j11 = true then (some (Fl.ex (Fl.ex false))) else (some (Fl.nx (wr (s6 + 1))))) else (some (Fl.ex (Fl.nx ())))
noncomputable def W6 (p0 : (List (List UInt8))) (p1 : (List (List UInt8))) : Option (Bool) :=
 if ((p0.length : Int) != (p1.length : Int)) = true then (some false) else ((ZF (V2 p0 p1) 0 : Option (Fl Unit Bool)).bind fun j2 => j2.el (fun s5 => some true) (fun r => some r))
theorem c_laws_eqByteSS (w0 : World) (p0 : (List (List UInt8))) (v0_1 : Value) (hv0_1 : Ro w0 p0 [v0_1]) (p1 : (List (List UInt8))) (v1_1 : Value) (hv1_1 : Ro w0 p1 [v1_1]) (r : Bool) (hF : W6 p0 p1 = some r) :
  Calls Try.prog 57 [v0_1, v1_1].toArray w0 (fun en w' => ∃ v, en = .returned v ∧ (v = (vT r) ∧ Kept (Old w0) w0 w')) := by
 refine ZC (n := 27) Try.func57 rfl rfl (Nat.le_of_ble_eq_true rfl) rfl ?_
 intro a hE
 have hM := M.start w0
 unfold W6 at hF
 refine Zc (Ze hE Za (dl rfl) rfl ?_); intro a hE
 refine Zf (wp_seq (Zc (Zd hE Za (dl rfl) rfl ?_))); intro a hE
 refine Z7 hE Za (dl rfl) rfl Try.underlying45 (hM.rd hv0_1) ?_; intro a hE
 refine Zd hE Za (dl rfl) rfl ?_; intro a hE
 refine Z7 hE Za (dl rfl) rfl Try.underlying45 (hM.rd hv1_1) ?_; intro a hE
 refine Zh hE Za (dl rfl) rfl rfl rfl ?_; intro a hE
 refine Zf ?_
 refine Zt hE rfl ?_ ?_
 ·intro hb1
  have hF := ZA hF hb1
  refine Zc (Ze hE Za (dl rfl) rfl ?_); intro a hE
  refine Zf ?_
  have hr := Option.some.inj hF
  subst hr
  exact wp_ret (ZL (Zy hE rfl (Zu hE rfl) ⟨_, rfl, rfl, hM.kept⟩))
 ·intro hb1
  have hF := Zz hF hb1
  refine wp_skip (Zx (wp_seq (Zc (Ze hE Za (dl rfl) rfl ?_)))); intro a hE
  refine Zf ?_
  obtain ⟨j2, hl3, hF4⟩ := bind_some hF
  refine ZV (fun a w => ∃ s5 : Unit, j2 = Fl.nx s5 ∧ Env 27 a [] ∧ M (Old w0) w0 w []) ?_ ?_
  ·skip
   refine wp_block ?_
   refine ZN (fun (s6 : Int) a w => Env 27 a [(0, v0_1), (1, v1_1), (5, (vI s6))] ∧ M (Old w0) w0 w []) hl3 ⟨hE.sub ⟨rfl, rfl, rfl, trivial⟩, hM⟩ ?_
   rintro s6 a w ⟨hE, hM⟩ o9 hs7 hx8
   unfold V2 at hs7
   refine wp_seq (Zc (Zd hE Za (dl rfl) rfl ?_)); intro a hE
   refine Zd hE Za (dl rfl) rfl ?_; intro a hE
   refine Z7 hE Za (dl rfl) rfl Try.underlying45 (hM.rd hv0_1) ?_; intro a hE
   refine Zh hE Za (dl rfl) rfl rfl rfl ?_; intro a hE
   refine Zf ?_
   refine Zt hE rfl ?_ ?_
   ·intro hb10
    have hs7 := ZA hs7 hb10
    refine wp_skip (Zx (wp_seq (wp_block ?_)))
    obtain ⟨j11, hl12, hF13⟩ := bind_some hs7
    refine ZS (fun a w => Env 27 a [(0, v0_1), (1, v1_1), (5, (vI s6)), (26, (vT j11))] ∧ M (Old w0) w0 w []) ?_ ?_
    ·skip
     obtain ⟨x15, e16, hl12⟩ := bind_some hl12
     have hi17 := ZQ e16
     obtain ⟨cs18, hs19, hA20⟩ := Us hv0_1 hi17.2 -- ^
     obtain ⟨u21, rfl⟩ := Vp hs19 -- ^
     have h22 := hs19 -- ^
     obtain ⟨x23, e24, hl12⟩ := bind_some hl12
     have hi25 := ZQ e24
     obtain ⟨cs26, hs27, hA28⟩ := Us hv1_1 hi25.2 -- ^
     obtain ⟨u29, rfl⟩ := Vp hs27 -- ^
     have h30 := hs27 -- ^
     obtain ⟨r31, e32, hl12⟩ := bind_some hl12
     refine Yd (n := 27) (hd := [_, _, _, _, _, _, _, _, _, _]) (tl := []) YB rfl rfl [17, 18, 19, 20, 21, 22, 23, 24, 25, 26] (by decide) (fun w => M (Old w0) w0 w []) (fun j => ([fun v _ => v = v0_1, fun v _ => v = (vI s6), fun v _ => v = (ptr (sb v0_1) (so v0_1 + (s6).toNat * 1)), fun v _ => v = u21, fun v _ => v = v1_1, fun v _ => v = (vI s6), fun v _ => v = (ptr (sb v1_1) (so v1_1 + (s6).toNat * 1)), fun v _ => v = u29, fun v _ => v = (vT r31), fun v _ => v = (vT (!r31))] : List (Value → World → Prop)).getD j (fun _ _ => True)) (fun _ _ h hk => h.keep hk) (gup (Zg (Zg (Zg (Zg (Zg (Zg (Zg (Zg (Zg (Zg Wu))))))))))) hE hM.drew (ZH (Zb ?_ (Zb ?_ (Zb ?_ (Zb ?_ (Zb ?_ (Zb ?_ (Zb ?_ (Zb ?_ (Zb ?_ (Zb ?_ ZD))))))))))) ?_
     ·exact fun a w ux14 hE hM hp => Zd hE Za (dl rfl) rfl fun a hE => ⟨Kept.refl _ _, _, _, rfl, hE, rfl⟩
     ·exact fun a w ux14 hE hM hp => Zd hE Za (dl rfl) rfl fun a hE => ⟨Kept.refl _ _, _, _, rfl, hE, rfl⟩
     ·intro a w ux14 hE hM hp
      have f0 : ux14 0 = v0_1 := hp 0 _ rfl rfl
      have f1 : ux14 1 = (vI s6) := hp 1 _ rfl rfl
      exact ZK hE Za (dl rfl) (lk rfl f0) (lk rfl f1) Try.underlying45 VD (hM.rd hv0_1) hi17.1 fun a hE => ⟨Kept.refl _ _, _, _, rfl, hE, rfl⟩
     ·intro a w ux14 hE hM hp
      have f2 : ux14 2 = (ptr (sb v0_1) (so v0_1 + (s6).toNat * 1)) := hp 0 _ rfl rfl
      exact Zv (v := u21) hE Za (dl rfl) (lk rfl f2) VD rfl (hM.atk hA20 (Uv hv0_1 hi17.2)) fun a hE => ⟨Kept.refl _ _, _, _, rfl, hE, rfl⟩
     ·exact fun a w ux14 hE hM hp => Zd hE Za (dl rfl) rfl fun a hE => ⟨Kept.refl _ _, _, _, rfl, hE, rfl⟩
     ·exact fun a w ux14 hE hM hp => Zd hE Za (dl rfl) rfl fun a hE => ⟨Kept.refl _ _, _, _, rfl, hE, rfl⟩
     ·intro a w ux14 hE hM hp
      have f4 : ux14 4 = v1_1 := hp 0 _ rfl rfl
      have f5 : ux14 5 = (vI s6) := hp 1 _ rfl rfl
      exact ZK hE Za (dl rfl) (lk rfl f4) (lk rfl f5) Try.underlying45 VD (hM.rd hv1_1) hi25.1 fun a hE => ⟨Kept.refl _ _, _, _, rfl, hE, rfl⟩
     ·intro a w ux14 hE hM hp
      have f6 : ux14 6 = (ptr (sb v1_1) (so v1_1 + (s6).toNat * 1)) := hp 0 _ rfl rfl
      exact Zv (v := u29) hE Za (dl rfl) (lk rfl f6) VD rfl (hM.atk hA28 (Uv hv1_1 hi25.2)) fun a hE => ⟨Kept.refl _ _, _, _, rfl, hE, rfl⟩
     ·intro a w ux14 hE hM hp
      have f3 : ux14 3 = u21 := hp 0 _ rfl rfl
      have f7 : ux14 7 = u29 := hp 1 _ rfl rfl
      refine Zw (vs := [u21, u29]) hE Za (dl rfl) (Z0 (ZY (lk rfl f3) (ZY (lk rfl f7) Xf))) cb23 (UG _ x15 u21 (hM.rdo h22) x23 u29 (hM.rdo h30) r31 e32) ?_
      rintro v w a ⟨rfl, hK⟩ hE
      exact ⟨hK, _, _, rfl, hE, rfl⟩
     ·intro a w ux14 hE hM hp
      have f8 : ux14 8 = (vT r31) := hp 0 _ rfl rfl
      exact Uo hE Za (dl rfl) (lk rfl f8) fun a hE => ⟨Kept.refl _ _, _, _, rfl, hE, rfl⟩
     ·intro a w ux14 hE hM hg
      have hE := hE.sub (e' := [(26, (vT (!r31))), (0, v0_1), (1, v1_1), (5, (vI s6)), (11, (vI s6)), (12, v0_1), (13, (vI (p0.length : Int))), (14, (vT (decide (s6 < (p0.length : Int)))))]) ⟨lk rfl (hg 9 (by decide)), rfl, rfl, rfl, rfl, rfl, rfl, rfl, trivial⟩
      refine Zj ?_
      have ht33 := Option.some.inj hl12
      subst ht33
      refine Zl ?_
      exact ⟨hE.sub ⟨rfl, rfl, rfl, rfl, trivial⟩, hM⟩
    ·skip
     rintro a w ⟨hE, hM⟩
     refine Zt hE rfl ?_ ?_
     ·intro hb34
      have hF13 := ZA hF13 hb34
      refine Zc (Ze hE Za (dl rfl) rfl ?_); intro a hE
      refine Zf ?_
      have ht35 := hx8 _ (Option.some.inj hF13).symm
      subst ht35
      have hr := Option.some.inj hF4
      subst hr
      exact wp_ret (W0 (ZL (ZL (W0 (ZL (ZL (Zy hE rfl (Zu hE rfl) ⟨_, rfl, rfl, hM.kept⟩)))))))
     ·intro hb34
      have hF13 := Zz hF13 hb34
      refine wp_skip (Yk (Zx (wp_region_lit (Zd hE Za (dl rfl) rfl ?_)))); intro a hE
      refine Zh hE Za (dl rfl) rfl rfl rfl ?_; intro a hE
      refine Ze hE Za (dl rfl) rfl ?_; intro a hE
      refine Zj (Zl ?_)
      exact ⟨_, (Option.some.inj hF13).symm, hE.sub ⟨rfl, rfl, rfl, trivial⟩, hM⟩
   ·intro hb10
    have hs7 := Zz hs7 hb10
    refine wp_exit (Zr (Zr (Yj ?_)))
    have ht36 := hx8 _ (Option.some.inj hs7).symm
    subst ht36
    refine Zl ?_
    exact ⟨(), rfl, hE.sub trivial, hM⟩
  ·skip
   rintro a w ⟨s5, ht, hE, hM⟩
   subst ht
   have hF4 := el_nx hF4
   refine Zx (Zc (Ze hE Za (dl rfl) rfl ?_)); intro a hE
   refine Zf ?_
   have hr := Option.some.inj hF4
   subst hr
   exact wp_ret (Zy hE rfl (Zu hE rfl) ⟨_, rfl, rfl, hM.kept⟩)
noncomputable def VQ (p0 : (List Int)) (p1 : (List Int)) (s6 : Int) : Option (Fl Int (Fl Unit Bool)) :=
 if (decide (s6 < (p0.length : Int))) = true then (((idx p0 s6).bind fun x15 => (idx p1 s6).bind fun x18 => some (x15 != x18) : Option (Bool)).bind fun j11 => if j11 = true then (some (Fl.ex (Fl.ex false))) else (some (Fl.nx (wr (s6 + 1))))) else (some (Fl.ex (Fl.nx ())))
noncomputable def Vj (p0 : (List Int)) (p1 : (List Int)) : Option (Bool) :=
 if ((p0.length : Int) != (p1.length : Int)) = true then (some false) else ((ZF (VQ p0 p1) 0 : Option (Fl Unit Bool)).bind fun j2 => j2.el (fun s5 => some true) (fun r => some r))
theorem c_laws_eqInt64S (w0 : World) (p0 : (List Int)) (v0_1 : Value) (hv0_1 : Ro w0 p0 [v0_1]) (p1 : (List Int)) (v1_1 : Value) (hv1_1 : Ro w0 p1 [v1_1]) (r : Bool) (hF : Vj p0 p1 = some r) :
  Calls Try.prog 58 [v0_1, v1_1].toArray w0 (fun en w' => ∃ v, en = .returned v ∧ (v = (vT r) ∧ Kept (Old w0) w0 w')) := by
 refine ZC (n := 26) Try.func58 rfl rfl (Nat.le_of_ble_eq_true rfl) rfl ?_
 intro a hE
 have hM := M.start w0
 unfold Vj at hF
 refine Zc (Ze hE Za (dl rfl) rfl ?_); intro a hE
 refine Zf (wp_seq (Zc (Zd hE Za (dl rfl) rfl ?_))); intro a hE
 refine Z7 hE Za (dl rfl) rfl Try.underlying46 (hM.rd hv0_1) ?_; intro a hE
 refine Zd hE Za (dl rfl) rfl ?_; intro a hE
 refine Z7 hE Za (dl rfl) rfl Try.underlying46 (hM.rd hv1_1) ?_; intro a hE
 refine Zh hE Za (dl rfl) rfl rfl rfl ?_; intro a hE
 refine Zf ?_
 refine Zt hE rfl ?_ ?_
 ·intro hb1
  have hF := ZA hF hb1
  refine Zc (Ze hE Za (dl rfl) rfl ?_); intro a hE
  refine Zf ?_
  have hr := Option.some.inj hF
  subst hr
  exact wp_ret (ZL (Zy hE rfl (Zu hE rfl) ⟨_, rfl, rfl, hM.kept⟩))
 ·intro hb1
  have hF := Zz hF hb1
  refine wp_skip (Zx (wp_seq (Zc (Ze hE Za (dl rfl) rfl ?_)))); intro a hE
  refine Zf ?_
  obtain ⟨j2, hl3, hF4⟩ := bind_some hF
  refine ZV (fun a w => ∃ s5 : Unit, j2 = Fl.nx s5 ∧ Env 26 a [] ∧ M (Old w0) w0 w []) ?_ ?_
  ·skip
   refine wp_block ?_
   refine ZN (fun (s6 : Int) a w => Env 26 a [(0, v0_1), (1, v1_1), (5, (vI s6))] ∧ M (Old w0) w0 w []) hl3 ⟨hE.sub ⟨rfl, rfl, rfl, trivial⟩, hM⟩ ?_
   rintro s6 a w ⟨hE, hM⟩ o9 hs7 hx8
   unfold VQ at hs7
   refine wp_seq (Zc (Zd hE Za (dl rfl) rfl ?_)); intro a hE
   refine Zd hE Za (dl rfl) rfl ?_; intro a hE
   refine Z7 hE Za (dl rfl) rfl Try.underlying46 (hM.rd hv0_1) ?_; intro a hE
   refine Zh hE Za (dl rfl) rfl rfl rfl ?_; intro a hE
   refine Zf ?_
   refine Zt hE rfl ?_ ?_
   ·intro hb10
    have hs7 := ZA hs7 hb10
    refine wp_skip (Zx (wp_seq (wp_block ?_)))
    obtain ⟨j11, hl12, hF13⟩ := bind_some hs7
    refine ZS (fun a w => Env 26 a [(0, v0_1), (1, v1_1), (5, (vI s6)), (25, (vT j11))] ∧ M (Old w0) w0 w []) ?_ ?_
    ·skip
     obtain ⟨x15, e16, hl12⟩ := bind_some hl12
     have hi17 := ZQ e16
     obtain ⟨x18, e19, hl12⟩ := bind_some hl12
     have hi20 := ZQ e19
     refine Yd (n := 26) (hd := [_, _, _, _, _, _, _, _, _]) (tl := []) YB rfl rfl [17, 18, 19, 20, 21, 22, 23, 24, 25] (by decide) (fun w => M (Old w0) w0 w []) (fun j => ([fun v _ => v = v0_1, fun v _ => v = (vI s6), fun v _ => v = (ptr (sb v0_1) (so v0_1 + (s6).toNat * 1)), fun v _ => v = (vI x15), fun v _ => v = v1_1, fun v _ => v = (vI s6), fun v _ => v = (ptr (sb v1_1) (so v1_1 + (s6).toNat * 1)), fun v _ => v = (vI x18), fun v _ => v = (vT (x15 != x18))] : List (Value → World → Prop)).getD j (fun _ _ => True)) (fun _ _ h hk => h.keep hk) (gup (Zg (Zg (Zg (Zg (Zg (Zg (Zg (Zg (Zg Wu)))))))))) hE hM.drew (ZH (Zb ?_ (Zb ?_ (Zb ?_ (Zb ?_ (Zb ?_ (Zb ?_ (Zb ?_ (Zb ?_ (Zb ?_ ZD)))))))))) ?_
     ·exact fun a w ux14 hE hM hp => Zd hE Za (dl rfl) rfl fun a hE => ⟨Kept.refl _ _, _, _, rfl, hE, rfl⟩
     ·exact fun a w ux14 hE hM hp => Zd hE Za (dl rfl) rfl fun a hE => ⟨Kept.refl _ _, _, _, rfl, hE, rfl⟩
     ·intro a w ux14 hE hM hp
      have f0 : ux14 0 = v0_1 := hp 0 _ rfl rfl
      have f1 : ux14 1 = (vI s6) := hp 1 _ rfl rfl
      exact ZK hE Za (dl rfl) (lk rfl f0) (lk rfl f1) Try.underlying46 ty2 (hM.rd hv0_1) hi17.1 fun a hE => ⟨Kept.refl _ _, _, _, rfl, hE, rfl⟩
     ·intro a w ux14 hE hM hp
      have f2 : ux14 2 = (ptr (sb v0_1) (so v0_1 + (s6).toNat * 1)) := hp 0 _ rfl rfl
      exact Zv (v := (vI x15)) hE Za (dl rfl) (lk rfl f2) ty2 rfl (Yt (hM.rd hv0_1) hi17.2) fun a hE => ⟨Kept.refl _ _, _, _, rfl, hE, rfl⟩
     ·exact fun a w ux14 hE hM hp => Zd hE Za (dl rfl) rfl fun a hE => ⟨Kept.refl _ _, _, _, rfl, hE, rfl⟩
     ·exact fun a w ux14 hE hM hp => Zd hE Za (dl rfl) rfl fun a hE => ⟨Kept.refl _ _, _, _, rfl, hE, rfl⟩
     ·intro a w ux14 hE hM hp
      have f4 : ux14 4 = v1_1 := hp 0 _ rfl rfl
      have f5 : ux14 5 = (vI s6) := hp 1 _ rfl rfl
      exact ZK hE Za (dl rfl) (lk rfl f4) (lk rfl f5) Try.underlying46 ty2 (hM.rd hv1_1) hi20.1 fun a hE => ⟨Kept.refl _ _, _, _, rfl, hE, rfl⟩
     ·intro a w ux14 hE hM hp
      have f6 : ux14 6 = (ptr (sb v1_1) (so v1_1 + (s6).toNat * 1)) := hp 0 _ rfl rfl
      exact Zv (v := (vI x18)) hE Za (dl rfl) (lk rfl f6) ty2 rfl (Yt (hM.rd hv1_1) hi20.2) fun a hE => ⟨Kept.refl _ _, _, _, rfl, hE, rfl⟩
     ·intro a w ux14 hE hM hp
      have f3 : ux14 3 = (vI x15) := hp 0 _ rfl rfl
      have f7 : ux14 7 = (vI x18) := hp 1 _ rfl rfl
      exact Zh hE Za (dl rfl) (lk rfl f3) (lk rfl f7) rfl fun a hE => ⟨Kept.refl _ _, _, _, rfl, hE, rfl⟩
     ·intro a w ux14 hE hM hg
      have hE := hE.sub (e' := [(25, (vT (x15 != x18))), (0, v0_1), (1, v1_1), (5, (vI s6)), (11, (vI s6)), (12, v0_1), (13, (vI (p0.length : Int))), (14, (vT (decide (s6 < (p0.length : Int)))))]) ⟨lk rfl (hg 8 (by decide)), rfl, rfl, rfl, rfl, rfl, rfl, rfl, trivial⟩
      refine Zj ?_
      have ht21 := Option.some.inj hl12
      subst ht21
      refine Zl ?_
      exact ⟨hE.sub ⟨rfl, rfl, rfl, rfl, trivial⟩, hM⟩
    ·skip
     rintro a w ⟨hE, hM⟩
     refine Zt hE rfl ?_ ?_
     ·intro hb22
      have hF13 := ZA hF13 hb22
      refine Zc (Ze hE Za (dl rfl) rfl ?_); intro a hE
      refine Zf ?_
      have ht23 := hx8 _ (Option.some.inj hF13).symm
      subst ht23
      have hr := Option.some.inj hF4
      subst hr
      exact wp_ret (W0 (ZL (ZL (W0 (ZL (ZL (Zy hE rfl (Zu hE rfl) ⟨_, rfl, rfl, hM.kept⟩)))))))
     ·intro hb22
      have hF13 := Zz hF13 hb22
      refine wp_skip (Yk (Zx (wp_region_lit (Zd hE Za (dl rfl) rfl ?_)))); intro a hE
      refine Zh hE Za (dl rfl) rfl rfl rfl ?_; intro a hE
      refine Ze hE Za (dl rfl) rfl ?_; intro a hE
      refine Zj (Zl ?_)
      exact ⟨_, (Option.some.inj hF13).symm, hE.sub ⟨rfl, rfl, rfl, trivial⟩, hM⟩
   ·intro hb10
    have hs7 := Zz hs7 hb10
    refine wp_exit (Zr (Zr (Yj ?_)))
    have ht24 := hx8 _ (Option.some.inj hs7).symm
    subst ht24
    refine Zl ?_
    exact ⟨(), rfl, hE.sub trivial, hM⟩
  ·skip
   rintro a w ⟨s5, ht, hE, hM⟩
   subst ht
   have hF4 := el_nx hF4
   refine Zx (Zc (Ze hE Za (dl rfl) rfl ?_)); intro a hE
   refine Zf ?_
   have hr := Option.some.inj hF4
   subst hr
   exact wp_ret (Zy hE rfl (Zu hE rfl) ⟨_, rfl, rfl, hM.kept⟩)
noncomputable def VJ (p0 : GBlobs) (p1 : GBlobs) : Option (Bool) :=
 (WO p0.Keys p1.Keys).bind fun r5 => if (!r5) = true then (some false) else ((W6 p0.Data p1.Data).bind fun r8 => if (!r8) = true then (some false) else ((Vj p0.Counts p1.Counts).bind fun r11 => if (!r11) = true then (some false) else (some true)))
theorem c_laws_eqBlobs (w0 : World) (p0 : GBlobs) (v0_1 : Value) (hv0_1 : Ro w0 p0.Keys [v0_1]) (v0_2 : Value) (hv0_2 : Ro w0 p0.Data [v0_2]) (v0_3 : Value) (hv0_3 : Ro w0 p0.Counts [v0_3]) (p1 : GBlobs) (v1_1 : Value) (hv1_1 : Ro w0 p1.Keys [v1_1]) (v1_2 : Value) (hv1_2 : Ro w0 p1.Data [v1_2]) (v1_3 : Value) (hv1_3 : Ro w0 p1.Counts [v1_3]) (r : Bool) (hF : VJ p0 p1 = some r) :
  Calls Try.prog 24 [(Value.agg (cat [[v0_1], [v0_2], [v0_3]]).toArray), (Value.agg (cat [[v1_1], [v1_2], [v1_3]]).toArray)].toArray w0 (fun en w' => ∃ v, en = .returned v ∧ (v = (vT r) ∧ Kept (Old w0) w0 w')) := by
 refine ZC (n := 23) Try.func24 rfl rfl (Nat.le_of_ble_eq_true rfl) rfl ?_
 intro a hE
 have hM := M.start w0
 unfold VJ at hF
 refine Zc (Z4 (cs := cat [[v0_1], [v0_2], [v0_3]]) hE hM Za (dl rfl) rfl rfl ?_); intro b1 w a hM hE
 refine Z4 (cs := cat [[v1_1], [v1_2], [v1_3]]) hE hM Za (dl rfl) rfl rfl ?_; intro b3 w a hM hE
 refine Ze hE Za (dl rfl) rfl ?_; intro a hE
 refine Zf (wp_seq (Zc (Zo hE Za (dl rfl) rfl (Vz) ?_))); intro a hE
 refine Zv (v := v0_1) hE Za (dl rfl) rfl ty53 rfl (At.cat (pre := []) (hM.rawAt (pre := [_])) cl0) ?_; intro a hE
 refine Zo hE Za (dl rfl) rfl (Vz) ?_; intro a hE
 refine Zv (v := v1_1) hE Za (dl rfl) rfl ty53 rfl (At.cat (pre := []) (hM.rawAt (pre := [])) cl0) ?_; intro a hE
 obtain ⟨r5, e6, hF⟩ := bind_some hF
 refine Zw (vs := [v0_1, v1_1]) hE Za (dl rfl) rfl cb56 (c_laws_eqDigestS _ p0.Keys v0_1 (hM.rdo hv0_1) p1.Keys v1_1 (hM.rdo hv1_1) r5 e6) ?_
 rintro v w a ⟨rfl, hK⟩ hE
 have hM := hM.keep hK
 refine Uo hE Za (dl rfl) rfl ?_; intro a hE
 refine Zf ?_
 refine Zt hE rfl ?_ ?_
 ·intro hb7
  have hF := ZA hF hb7
  refine Zc (Ze hE Za (dl rfl) rfl ?_); intro a hE
  refine Zf ?_
  have hr := Option.some.inj hF
  subst hr
  have hM := M.fst (l := []) hM
  exact wp_ret (ZL (Zy hE rfl (Zu hE rfl) ⟨_, rfl, rfl, hM.kept⟩))
 ·intro hb7
  have hF := Zz hF hb7
  refine wp_skip (Zx (wp_seq (Zc (Zo hE Za (dl rfl) rfl (UE) ?_)))); intro a hE
  refine Zv (v := v0_2) hE Za (dl rfl) rfl ty45 rfl (At.cat (pre := [[v0_1]]) (hM.rawAt (pre := [_])) (cl1 (n := 1) (m := 0) rfl cl0)) ?_; intro a hE
  refine Zo hE Za (dl rfl) rfl (UE) ?_; intro a hE
  refine Zv (v := v1_2) hE Za (dl rfl) rfl ty45 rfl (At.cat (pre := [[v1_1]]) (hM.rawAt (pre := [])) (cl1 (n := 1) (m := 0) rfl cl0)) ?_; intro a hE
  obtain ⟨r8, e9, hF⟩ := bind_some hF
  refine Zw (vs := [v0_2, v1_2]) hE Za (dl rfl) rfl cb57 (c_laws_eqByteSS _ p0.Data v0_2 (hM.rdo hv0_2) p1.Data v1_2 (hM.rdo hv1_2) r8 e9) ?_
  rintro v w a ⟨rfl, hK⟩ hE
  have hM := hM.keep hK
  refine Uo hE Za (dl rfl) rfl ?_; intro a hE
  refine Zf ?_
  refine Zt hE rfl ?_ ?_
  ·intro hb10
   have hF := ZA hF hb10
   refine Zc (Ze hE Za (dl rfl) rfl ?_); intro a hE
   refine Zf ?_
   have hr := Option.some.inj hF
   subst hr
   have hM := M.fst (l := []) hM
   exact wp_ret (ZL (Zy hE rfl (Zu hE rfl) ⟨_, rfl, rfl, hM.kept⟩))
  ·intro hb10
   have hF := Zz hF hb10
   refine wp_skip (Zx (wp_seq (Zc (Zo hE Za (dl rfl) rfl (fd55_2) ?_)))); intro a hE
   refine Zv (v := v0_3) hE Za (dl rfl) rfl ty46 rfl (At.cat (pre := [[v0_1], [v0_2]]) (hM.rawAt (pre := [_])) (cl1 (n := 1) (m := 1) rfl (cl1 (n := 1) (m := 0) rfl cl0))) ?_; intro a hE
   refine Zo hE Za (dl rfl) rfl (fd55_2) ?_; intro a hE
   refine Zv (v := v1_3) hE Za (dl rfl) rfl ty46 rfl (At.cat (pre := [[v1_1], [v1_2]]) (hM.rawAt (pre := [])) (cl1 (n := 1) (m := 1) rfl (cl1 (n := 1) (m := 0) rfl cl0))) ?_; intro a hE
   obtain ⟨r11, e12, hF⟩ := bind_some hF
   refine Zw (vs := [v0_3, v1_3]) hE Za (dl rfl) rfl cb58 (c_laws_eqInt64S _ p0.Counts v0_3 (hM.rdo hv0_3) p1.Counts v1_3 (hM.rdo hv1_3) r11 e12) ?_
   rintro v w a ⟨rfl, hK⟩ hE
   have hM := hM.keep hK
   refine Uo hE Za (dl rfl) rfl ?_; intro a hE
   refine Zf ?_
   refine Zt hE rfl ?_ ?_
   ·intro hb13
    have hF := ZA hF hb13
    refine Zc (Ze hE Za (dl rfl) rfl ?_); intro a hE
    refine Zf ?_
    have hr := Option.some.inj hF
    subst hr
    have hM := M.fst (l := []) hM
    exact wp_ret (ZL (Zy hE rfl (Zu hE rfl) ⟨_, rfl, rfl, hM.kept⟩))
   ·intro hb13
    have hF := Zz hF hb13
    refine wp_skip (Zx (Zc (Ze hE Za (dl rfl) rfl ?_))); intro a hE
    refine Zf ?_
    have hr := Option.some.inj hF
    subst hr
    have hM := M.fst (l := []) hM
    exact wp_ret (Zy hE rfl (Zu hE rfl) ⟨_, rfl, rfl, hM.kept⟩)
noncomputable def Wy (s4 : (List (Vector UInt8 32)) × Int × Int) (s12 : (List (Vector UInt8 32)) × Int × Int) : Option (Fl ((List (Vector UInt8 32)) × Int × Int) ((List (Vector UInt8 32)) × Int)) :=
 if (decide (s12.2.2 < 32)) = true then ((idx s12.1 s4.2.2).bind fun x17 => (ZM x17 s12.2.2).bind fun x21 => some (Fl.nx ((s12.1.set (s4.2.2).toNat (x17.setIfInBounds (s12.2.2).toNat (ZG s12.2.1))), wr (s12.2.1 + 1), wr (s12.2.2 + 1)))) else (some (Fl.ex (s12.1, s12.2.1)))
noncomputable def XI (s4 : (List (Vector UInt8 32)) × Int × Int) : Option (Fl ((List (Vector UInt8 32)) × Int × Int) ((List (Vector UInt8 32)) × Int)) :=
 if (decide (s4.2.2 < (s4.1.length : Int))) = true then ((ZF (Wy s4) (s4.1, s4.2.1, 0) : Option ((List (Vector UInt8 32)) × Int)).bind fun j9 => some (Fl.nx (j9.1, j9.2, wr (s4.2.2 + 1)))) else (some (Fl.ex (s4.1, s4.2.1)))
noncomputable def X2 (p0 : (List (Vector UInt8 32))) (p1 : Int) : Option ((List (Vector UInt8 32)) × Int) :=
 (ZF (XI) (p0, p1, 0) : Option ((List (Vector UInt8 32)) × Int)).bind fun j1 => some (j1.1, j1.2)
theorem c_laws_markDigestS (St : Nat → Prop) (W w0 : World) (its : List Item) (p0 : (List (Vector UInt8 32))) (v0_1 : Value) (p1 : Int) (hM : M St W w0 (own NoB (p0 : (List (Vector UInt8 32))) [v0_1] :: its)) (r : (List (Vector UInt8 32)) × Int) (hF : X2 p0 p1 = some r) :
  Calls Try.prog 59 [v0_1, (vI p1)].toArray w0 (fun en w' => ∃ v, en = .returned v ∧ (v = (vI r.2) ∧ M St W w' (own NoB (r.1 : (List (Vector UInt8 32))) [v0_1] :: its))) := by
 refine ZC (n := 27) Try.func59 rfl rfl (Nat.le_of_ble_eq_true rfl) rfl ?_
 intro a hE
 unfold X2 at hF
 refine Zc (Ze hE Za (dl rfl) rfl ?_); intro a hE
 refine Zf (wp_seq (Zc (Ze hE Za (dl rfl) rfl ?_))); intro a hE
 refine Zf ?_
 obtain ⟨j1, hl2, hF3⟩ := bind_some hF
 refine ZV (fun a w => Env 27 a [(0, v0_1), (1, (vI j1.2))] ∧ M St W w (own NoB (j1.1 : (List (Vector UInt8 32))) [v0_1] :: its)) ?_ ?_
 ·skip
  refine wp_block ?_
  refine ZN (fun (s4 : (List (Vector UInt8 32)) × Int × Int) a w => Env 27 a [(0, v0_1), (1, (vI s4.2.1)), (5, (vI s4.2.2))] ∧ M St W w (own NoB (s4.1 : (List (Vector UInt8 32))) [v0_1] :: its)) hl2 ⟨hE.sub ⟨rfl, rfl, rfl, trivial⟩, hM⟩ ?_
  rintro s4 a w ⟨hE, hM⟩ o7 hs5 hx6
  unfold XI at hs5
  refine wp_seq (Zc (Zd hE Za (dl rfl) rfl ?_)); intro a hE
  refine Zd hE Za (dl rfl) rfl ?_; intro a hE
  refine Z7 hE Za (dl rfl) rfl Try.underlying53 (hM.ro (pre := []) noB) ?_; intro a hE
  refine Zh hE Za (dl rfl) rfl rfl rfl ?_; intro a hE
  refine Zf ?_
  refine Zt hE rfl ?_ ?_
  ·intro hb8
   have hs5 := ZA hs5 hb8
   refine wp_skip (Zx (wp_seq (wp_block (Zc (Ze hE Za (dl rfl) rfl ?_))))); intro a hE
   refine Zf ?_
   obtain ⟨j9, hl10, hF11⟩ := bind_some hs5
   refine ZV (fun a w => Env 27 a [(0, v0_1), (1, (vI j9.2)), (5, (vI s4.2.2))] ∧ M St W w (own NoB (j9.1 : (List (Vector UInt8 32))) [v0_1] :: its)) ?_ ?_
   ·skip
    refine wp_block ?_
    refine ZN (fun (s12 : (List (Vector UInt8 32)) × Int × Int) a w => Env 27 a [(0, v0_1), (1, (vI s12.2.1)), (5, (vI s4.2.2)), (6, (vI s12.2.2))] ∧ M St W w (own NoB (s12.1 : (List (Vector UInt8 32))) [v0_1] :: its)) hl10 ⟨hE.sub ⟨rfl, rfl, rfl, rfl, trivial⟩, hM⟩ ?_
    rintro s12 a w ⟨hE, hM⟩ o15 hs13 hx14
    unfold Wy at hs13
    refine wp_seq (Zc (Zd hE Za (dl rfl) rfl ?_)); intro a hE
    refine Zh hE Za (dl rfl) rfl rfl rfl ?_; intro a hE
    refine Zf ?_
    refine Zt hE rfl ?_ ?_
    ·intro hb16
     have hs13 := ZA hs13 hb16
     refine wp_skip (Zx (wp_seq (wp_block (Zc (Zd hE Za (dl rfl) rfl ?_))))); intro a hE
     refine Zd hE Za (dl rfl) rfl ?_; intro a hE
     refine Zd hE Za (dl rfl) rfl ?_; intro a hE
     refine Zd hE Za (dl rfl) rfl ?_; intro a hE
     refine YK hE Za (dl rfl) rfl Try.underlying3 Try.underlying5 ?_; intro a hE
     rw [Yf] at hE
     obtain ⟨x17, e18, hs13⟩ := bind_some hs13
     have hi19 := ZQ e18
     refine ZK hE Za (dl rfl) rfl rfl Try.underlying53 Yi (hM.ro (pre := []) noB) hi19.1 ?_; intro a hE
     obtain ⟨x21, e22, hs13⟩ := bind_some hs13
     have hi20 := Zi e22
     refine Zm hE Za (dl rfl) rfl rfl Try.underlying25 ty5 hi20.1 ?_; intro a hE
     have hM := hM.toOsl (List.getElem?_eq_some_iff.1 hi19.2).1
     refine s_storeS (i := (s4.2.2).toNat) (k0 := 0 + (s12.2.2).toNat * 1) (seg := [(vB (ZG s12.2.1))]) (xo := x17) (xn := (x17.setIfInBounds (s12.2.2).toNat (ZG s12.2.1))) hE hM Za (opv_off rfl (by show _ = _ + _ * 32 + _; omega)) rfl rfl ty5 rfl (Flat.cell (ZG s12.2.1 : UInt8)) hi19.2 (fit_vec1 (x := ZG s12.2.1) hi20.1) (ZI (v := x17) (x := ZG s12.2.1) hi20.1) ?_; intro w a hM hE
     have hM := hM.toOwn noB
     refine Zf (wp_region_lit (Zd hE Za (dl rfl) rfl ?_)); intro a hE
     refine Zh hE Za (dl rfl) rfl rfl rfl ?_; intro a hE
     refine Ze hE Za (dl rfl) rfl ?_; intro a hE
     refine Zj (Yk (Zx (wp_region_lit (Zd hE Za (dl rfl) rfl ?_)))); intro a hE
     refine Zh hE Za (dl rfl) rfl rfl rfl ?_; intro a hE
     refine Ze hE Za (dl rfl) rfl ?_; intro a hE
     refine Zj (Zl ?_)
     exact ⟨_, (Option.some.inj hs13).symm, hE.sub ⟨rfl, rfl, rfl, rfl, trivial⟩, hM⟩
    ·intro hb16
     have hs13 := Zz hs13 hb16
     refine wp_exit (Zr (Zr (Yj ?_)))
     have ht23 := hx14 _ (Option.some.inj hs13).symm
     subst ht23
     refine Zl ?_
     exact ⟨hE.sub ⟨rfl, rfl, rfl, trivial⟩, hM⟩
   ·skip
    rintro a w ⟨hE, hM⟩
    refine Yk (Zx (wp_region_lit (Zd hE Za (dl rfl) rfl ?_))); intro a hE
    refine Zh hE Za (dl rfl) rfl rfl rfl ?_; intro a hE
    refine Ze hE Za (dl rfl) rfl ?_; intro a hE
    refine Zj (Zl ?_)
    exact ⟨_, (Option.some.inj hF11).symm, hE.sub ⟨rfl, rfl, rfl, trivial⟩, hM⟩
  ·intro hb8
   have hs5 := Zz hs5 hb8
   refine wp_exit (Zr (Zr (Yj ?_)))
   have ht24 := hx6 _ (Option.some.inj hs5).symm
   subst ht24
   refine Zl ?_
   exact ⟨hE.sub ⟨rfl, rfl, trivial⟩, hM⟩
 ·skip
  rintro a w ⟨hE, hM⟩
  refine Zx (Zc (Zd hE Za (dl rfl) rfl ?_)); intro a hE
  refine Ze hE Za (dl rfl) rfl ?_; intro a hE
  refine Zf ?_
  have hr := Option.some.inj hF3
  subst hr
  exact wp_ret (Zy hE (by rfl) (Zu hE rfl) ⟨_, rfl, rfl, hM⟩)
noncomputable def YD (s4 : (List UInt8) × Int × Int) : Option (Fl ((List UInt8) × Int × Int) ((List UInt8) × Int)) :=
 if (decide (s4.2.2 < (s4.1.length : Int))) = true then ((idx s4.1 s4.2.2).bind fun x9 => some (Fl.nx ((s4.1.set (s4.2.2).toNat (ZG s4.2.1)), wr (s4.2.1 + 1), wr (s4.2.2 + 1)))) else (some (Fl.ex (s4.1, s4.2.1)))
noncomputable def YO (p0 : (List UInt8)) (p1 : Int) : Option ((List UInt8) × Int) :=
 (ZF (YD) (p0, p1, 0) : Option ((List UInt8) × Int)).bind fun j1 => some (j1.1, j1.2)
theorem c_laws_markByteS (St : Nat → Prop) (W w0 : World) (its : List Item) (p0 : (List UInt8)) (v0_1 : Value) (p1 : Int) (hM : M St W w0 (own NoB (p0 : (List UInt8)) [v0_1] :: its)) (r : (List UInt8) × Int) (hF : YO p0 p1 = some r) :
  Calls Try.prog 26 [v0_1, (vI p1)].toArray w0 (fun en w' => ∃ v, en = .returned v ∧ (v = (vI r.2) ∧ M St W w' (own NoB (r.1 : (List UInt8)) [v0_1] :: its))) := by
 refine ZC (n := 20) Try.func26 rfl rfl (Nat.le_of_ble_eq_true rfl) rfl ?_
 intro a hE
 unfold YO at hF
 refine Zc (Ze hE Za (dl rfl) rfl ?_); intro a hE
 refine Zf (wp_seq (Zc (Ze hE Za (dl rfl) rfl ?_))); intro a hE
 refine Zf ?_
 obtain ⟨j1, hl2, hF3⟩ := bind_some hF
 refine ZV (fun a w => Env 20 a [(0, v0_1), (1, (vI j1.2))] ∧ M St W w (own NoB (j1.1 : (List UInt8)) [v0_1] :: its)) ?_ ?_
 ·skip
  refine wp_block ?_
  refine ZN (fun (s4 : (List UInt8) × Int × Int) a w => Env 20 a [(0, v0_1), (1, (vI s4.2.1)), (5, (vI s4.2.2))] ∧ M St W w (own NoB (s4.1 : (List UInt8)) [v0_1] :: its)) hl2 ⟨hE.sub ⟨rfl, rfl, rfl, trivial⟩, hM⟩ ?_
  rintro s4 a w ⟨hE, hM⟩ o7 hs5 hx6
  unfold YD at hs5
  refine wp_seq (Zc (Zd hE Za (dl rfl) rfl ?_)); intro a hE
  refine Zd hE Za (dl rfl) rfl ?_; intro a hE
  refine Z7 hE Za (dl rfl) rfl Try.underlying50 (hM.ro (pre := []) noB) ?_; intro a hE
  refine Zh hE Za (dl rfl) rfl rfl rfl ?_; intro a hE
  refine Zf ?_
  refine Zt hE rfl ?_ ?_
  ·intro hb8
   have hs5 := ZA hs5 hb8
   refine wp_skip (Zx (wp_seq (wp_block (Zc (Zd hE Za (dl rfl) rfl ?_))))); intro a hE
   refine Zd hE Za (dl rfl) rfl ?_; intro a hE
   refine Zd hE Za (dl rfl) rfl ?_; intro a hE
   refine YK hE Za (dl rfl) rfl Try.underlying3 Try.underlying5 ?_; intro a hE
   rw [Yf] at hE
   obtain ⟨x9, e10, hs5⟩ := bind_some hs5
   have hi11 := ZQ e10
   refine ZK hE Za (dl rfl) rfl rfl Try.underlying50 ty5 (hM.ro (pre := []) noB) hi11.1 ?_; intro a hE
   have hM := hM.toOsl (List.getElem?_eq_some_iff.1 hi11.2).1
   refine s_storeS (i := (s4.2.2).toNat) (k0 := 0) (seg := [(vB (ZG s4.2.1))]) (xo := x9) (xn := ZG s4.2.1) hE hM Za rfl rfl rfl ty5 rfl (Flat.cell (ZG s4.2.1 : UInt8)) hi11.2 (fit_num (m := 1) rfl (by decide)) (Zq rfl) ?_; intro w a hM hE
   have hM := hM.toOwn noB
   refine Zf (wp_region_lit (Zd hE Za (dl rfl) rfl ?_)); intro a hE
   refine Zh hE Za (dl rfl) rfl rfl rfl ?_; intro a hE
   refine Ze hE Za (dl rfl) rfl ?_; intro a hE
   refine Zj (Yk (Zx (wp_region_lit (Zd hE Za (dl rfl) rfl ?_)))); intro a hE
   refine Zh hE Za (dl rfl) rfl rfl rfl ?_; intro a hE
   refine Ze hE Za (dl rfl) rfl ?_; intro a hE
   refine Zj (Zl ?_)
   exact ⟨_, (Option.some.inj hs5).symm, hE.sub ⟨rfl, rfl, rfl, trivial⟩, hM⟩
  ·intro hb8
   have hs5 := Zz hs5 hb8
   refine wp_exit (Zr (Zr (Yj ?_)))
   have ht12 := hx6 _ (Option.some.inj hs5).symm
   subst ht12
   refine Zl ?_
   exact ⟨hE.sub ⟨rfl, rfl, trivial⟩, hM⟩
 ·skip
  rintro a w ⟨hE, hM⟩
  refine Zx (Zc (Zd hE Za (dl rfl) rfl ?_)); intro a hE
  refine Ze hE Za (dl rfl) rfl ?_; intro a hE
  refine Zf ?_
  have hr := Option.some.inj hF3
  subst hr
  exact wp_ret (Zy hE (by rfl) (Zu hE rfl) ⟨_, rfl, rfl, hM⟩)
noncomputable def X4 (s4 : (List (List UInt8)) × Int × Int) : Option (Fl ((List (List UInt8)) × Int × Int) ((List (List UInt8)) × Int)) :=
 if (decide (s4.2.2 < (s4.1.length : Int))) = true then ((idx s4.1 s4.2.2).bind fun x9 => (YO x9 s4.2.1).bind fun r16 => some (Fl.nx ((s4.1.set (s4.2.2).toNat r16.1), r16.2, wr (s4.2.2 + 1)))) else (some (Fl.ex (s4.1, s4.2.1)))
noncomputable def Wo (p0 : (List (List UInt8))) (p1 : Int) : Option ((List (List UInt8)) × Int) :=
 (ZF (X4) (p0, p1, 0) : Option ((List (List UInt8)) × Int)).bind fun j1 => some (j1.1, j1.2)
theorem c_laws_markByteSS (St : Nat → Prop) (W w0 : World) (its : List Item) (p0 : (List (List UInt8))) (v0_1 : Value) (p1 : Int) (hM : M St W w0 (own NoB (p0 : (List (List UInt8))) [v0_1] :: its)) (r : (List (List UInt8)) × Int) (hF : Wo p0 p1 = some r) :
  Calls Try.prog 60 [v0_1, (vI p1)].toArray w0 (fun en w' => ∃ v, en = .returned v ∧ (v = (vI r.2) ∧ M St W w' (own NoB (r.1 : (List (List UInt8))) [v0_1] :: its))) := by
 refine ZC (n := 19) Try.func60 rfl rfl (Nat.le_of_ble_eq_true rfl) rfl ?_
 intro a hE
 unfold Wo at hF
 refine Zc (Ze hE Za (dl rfl) rfl ?_); intro a hE
 refine Zf (wp_seq (Zc (Ze hE Za (dl rfl) rfl ?_))); intro a hE
 refine Zf ?_
 obtain ⟨j1, hl2, hF3⟩ := bind_some hF
 refine ZV (fun a w => Env 19 a [(0, v0_1), (1, (vI j1.2))] ∧ M St W w (own NoB (j1.1 : (List (List UInt8))) [v0_1] :: its)) ?_ ?_
 ·skip
  refine wp_block ?_
  refine ZN (fun (s4 : (List (List UInt8)) × Int × Int) a w => Env 19 a [(0, v0_1), (1, (vI s4.2.1)), (5, (vI s4.2.2))] ∧ M St W w (own NoB (s4.1 : (List (List UInt8))) [v0_1] :: its)) hl2 ⟨hE.sub ⟨rfl, rfl, rfl, trivial⟩, hM⟩ ?_
  rintro s4 a w ⟨hE, hM⟩ o7 hs5 hx6
  unfold X4 at hs5
  refine wp_seq (Zc (Zd hE Za (dl rfl) rfl ?_)); intro a hE
  refine Zd hE Za (dl rfl) rfl ?_; intro a hE
  refine Z7 hE Za (dl rfl) rfl Try.underlying45 (hM.ro (pre := []) noB) ?_; intro a hE
  refine Zh hE Za (dl rfl) rfl rfl rfl ?_; intro a hE
  refine Zf ?_
  refine Zt hE rfl ?_ ?_
  ·intro hb8
   have hs5 := ZA hs5 hb8
   refine wp_skip (Zx (wp_seq (wp_block (wp_region_lit (Zd hE Za (dl rfl) rfl ?_))))); intro a hE
   refine Zd hE Za (dl rfl) rfl ?_; intro a hE
   obtain ⟨x9, e10, hs5⟩ := bind_some hs5
   have hi11 := ZQ e10
   refine ZK hE Za (dl rfl) rfl rfl Try.underlying45 VD (hM.ro (pre := []) noB) hi11.1 ?_; intro a hE
   have hM := (hM.toOsl (List.getElem?_eq_some_iff.1 hi11.2).1).open1 noB hi11.2
   obtain ⟨cs12, hM, hA13⟩ := hM
   obtain ⟨_, hx, _⟩ := hM.head
   obtain ⟨u14, rfl⟩ := Vp hx
   refine Zv (v := u14) hE Za (dl rfl) rfl VD rfl hA13 ?_; intro a hE
   refine Zd hE Za (dl rfl) rfl ?_; intro a hE
   obtain ⟨r16, e17, hs5⟩ := bind_some hs5
   refine Zw (vs := [u14, (vI s4.2.1)]) hE Za (dl rfl) rfl cb26 (c_laws_markByteS _ _ _ _ x9 u14 s4.2.1 hM r16 e17) ?_
   rintro v w a ⟨rfl, hM⟩ hE
   have hM := hM.pull (pre := [_])
   have hM := hM.pull (pre := [_])
   have hM := (hM.close1 noB).toOwn noB
   refine Ze hE Za (dl rfl) rfl ?_; intro a hE
   refine Zj (Yk (Zx (wp_region_lit (Zd hE Za (dl rfl) rfl ?_)))); intro a hE
   refine Zh hE Za (dl rfl) rfl rfl rfl ?_; intro a hE
   refine Ze hE Za (dl rfl) rfl ?_; intro a hE
   refine Zj (Zl ?_)
   exact ⟨_, (Option.some.inj hs5).symm, hE.sub ⟨rfl, rfl, rfl, trivial⟩, hM⟩
  ·intro hb8
   have hs5 := Zz hs5 hb8
   refine wp_exit (Zr (Zr (Yj ?_)))
   have ht18 := hx6 _ (Option.some.inj hs5).symm
   subst ht18
   refine Zl ?_
   exact ⟨hE.sub ⟨rfl, rfl, trivial⟩, hM⟩
 ·skip
  rintro a w ⟨hE, hM⟩
  refine Zx (Zc (Zd hE Za (dl rfl) rfl ?_)); intro a hE
  refine Ze hE Za (dl rfl) rfl ?_; intro a hE
  refine Zf ?_
  have hr := Option.some.inj hF3
  subst hr
  exact wp_ret (Zy hE (by rfl) (Zu hE rfl) ⟨_, rfl, rfl, hM⟩)
noncomputable def X3 (s4 : (List Int) × Int × Int) : Option (Fl ((List Int) × Int × Int) ((List Int) × Int)) :=
 if (decide (s4.2.2 < (s4.1.length : Int))) = true then ((idx s4.1 s4.2.2).bind fun x9 => some (Fl.nx ((s4.1.set (s4.2.2).toNat s4.2.1), wr (s4.2.1 + 1), wr (s4.2.2 + 1)))) else (some (Fl.ex (s4.1, s4.2.1)))
noncomputable def Wp (p0 : (List Int)) (p1 : Int) : Option ((List Int) × Int) :=
 (ZF (X3) (p0, p1, 0) : Option ((List Int) × Int)).bind fun j1 => some (j1.1, j1.2)
theorem c_laws_markInt64S (St : Nat → Prop) (W w0 : World) (its : List Item) (p0 : (List Int)) (v0_1 : Value) (p1 : Int) (hM : M St W w0 (own NoB (p0 : (List Int)) [v0_1] :: its)) (r : (List Int) × Int) (hF : Wp p0 p1 = some r) :
  Calls Try.prog 61 [v0_1, (vI p1)].toArray w0 (fun en w' => ∃ v, en = .returned v ∧ (v = (vI r.2) ∧ M St W w' (own NoB (r.1 : (List Int)) [v0_1] :: its))) := by
 refine ZC (n := 19) Try.func61 rfl rfl (Nat.le_of_ble_eq_true rfl) rfl ?_
 intro a hE
 unfold Wp at hF
 refine Zc (Ze hE Za (dl rfl) rfl ?_); intro a hE
 refine Zf (wp_seq (Zc (Ze hE Za (dl rfl) rfl ?_))); intro a hE
 refine Zf ?_
 obtain ⟨j1, hl2, hF3⟩ := bind_some hF
 refine ZV (fun a w => Env 19 a [(0, v0_1), (1, (vI j1.2))] ∧ M St W w (own NoB (j1.1 : (List Int)) [v0_1] :: its)) ?_ ?_
 ·skip
  refine wp_block ?_
  refine ZN (fun (s4 : (List Int) × Int × Int) a w => Env 19 a [(0, v0_1), (1, (vI s4.2.1)), (5, (vI s4.2.2))] ∧ M St W w (own NoB (s4.1 : (List Int)) [v0_1] :: its)) hl2 ⟨hE.sub ⟨rfl, rfl, rfl, trivial⟩, hM⟩ ?_
  rintro s4 a w ⟨hE, hM⟩ o7 hs5 hx6
  unfold X3 at hs5
  refine wp_seq (Zc (Zd hE Za (dl rfl) rfl ?_)); intro a hE
  refine Zd hE Za (dl rfl) rfl ?_; intro a hE
  refine Z7 hE Za (dl rfl) rfl Try.underlying46 (hM.ro (pre := []) noB) ?_; intro a hE
  refine Zh hE Za (dl rfl) rfl rfl rfl ?_; intro a hE
  refine Zf ?_
  refine Zt hE rfl ?_ ?_
  ·intro hb8
   have hs5 := ZA hs5 hb8
   refine wp_skip (Zx (wp_seq (wp_block (Zc (Zd hE Za (dl rfl) rfl ?_))))); intro a hE
   refine Zd hE Za (dl rfl) rfl ?_; intro a hE
   refine Zd hE Za (dl rfl) rfl ?_; intro a hE
   obtain ⟨x9, e10, hs5⟩ := bind_some hs5
   have hi11 := ZQ e10
   refine ZK hE Za (dl rfl) rfl rfl Try.underlying46 ty2 (hM.ro (pre := []) noB) hi11.1 ?_; intro a hE
   have hM := hM.toOsl (List.getElem?_eq_some_iff.1 hi11.2).1
   refine s_storeS (i := (s4.2.2).toNat) (k0 := 0) (seg := [(vI s4.2.1)]) (xo := x9) (xn := s4.2.1) hE hM Za rfl rfl rfl ty2 rfl (Flat.cell (s4.2.1 : Int)) hi11.2 (fit_num (m := 1) rfl (by decide)) (Zq rfl) ?_; intro w a hM hE
   have hM := hM.toOwn noB
   refine Zf (wp_region_lit (Zd hE Za (dl rfl) rfl ?_)); intro a hE
   refine Zh hE Za (dl rfl) rfl rfl rfl ?_; intro a hE
   refine Ze hE Za (dl rfl) rfl ?_; intro a hE
   refine Zj (Yk (Zx (wp_region_lit (Zd hE Za (dl rfl) rfl ?_)))); intro a hE
   refine Zh hE Za (dl rfl) rfl rfl rfl ?_; intro a hE
   refine Ze hE Za (dl rfl) rfl ?_; intro a hE
   refine Zj (Zl ?_)
   exact ⟨_, (Option.some.inj hs5).symm, hE.sub ⟨rfl, rfl, rfl, trivial⟩, hM⟩
  ·intro hb8
   have hs5 := Zz hs5 hb8
   refine wp_exit (Zr (Zr (Yj ?_)))
   have ht12 := hx6 _ (Option.some.inj hs5).symm
   subst ht12
   refine Zl ?_
   exact ⟨hE.sub ⟨rfl, rfl, trivial⟩, hM⟩
 ·skip
  rintro a w ⟨hE, hM⟩
  refine Zx (Zc (Zd hE Za (dl rfl) rfl ?_)); intro a hE
  refine Ze hE Za (dl rfl) rfl ?_; intro a hE
  refine Zf ?_
  have hr := Option.some.inj hF3
  subst hr
  exact wp_ret (Zy hE (by rfl) (Zu hE rfl) ⟨_, rfl, rfl, hM⟩)
noncomputable def WX (p0 : GBlobs) (p1 : Int) : Option (GBlobs × Int) :=
 (X2 p0.Keys p1).bind fun r3 => (Wo p0.Data r3.2).bind fun r5 => (Wp p0.Counts r5.2).bind fun r7 => some ((⟨r3.1, r5.1, r7.1⟩ : GBlobs), r7.2)
theorem c_laws_markBlobs (St : Nat → Prop) (W w0 : World) (its : List Item) (p0 : GBlobs) (v0_1 : Value) (v0_2 : Value) (v0_3 : Value) (p1 : Int) (hM : M St W w0 (own NoB (p0.Keys : (List (Vector UInt8 32))) [v0_1] :: own NoB (p0.Data : (List (List UInt8))) [v0_2] :: own NoB (p0.Counts : (List Int)) [v0_3] :: its)) (r : GBlobs × Int) (hF : WX p0 p1 = some r) :
  Calls Try.prog 25 [(Value.agg (cat [[v0_1], [v0_2], [v0_3]]).toArray), (vI p1)].toArray w0 (fun en w' => ∃ v, en = .returned v ∧ (v = (vI r.2) ∧ M St W w' (own NoB (r.1.Keys : (List (Vector UInt8 32))) [v0_1] :: own NoB (r.1.Data : (List (List UInt8))) [v0_2] :: own NoB (r.1.Counts : (List Int)) [v0_3] :: its))) := by
 refine ZC (n := 18) Try.func25 rfl rfl (Nat.le_of_ble_eq_true rfl) rfl ?_
 intro a hE
 unfold WX at hF
 refine Zc (Z4 (cs := cat [[v0_1], [v0_2], [v0_3]]) hE hM Za (dl rfl) rfl rfl ?_); intro b1 w a hM hE
 refine Ze hE Za (dl rfl) rfl ?_; intro a hE
 refine Zf (Zc (Zo hE Za (dl rfl) rfl (Vz) ?_)); intro a hE
 refine Zv (v := v0_1) hE Za (dl rfl) rfl ty53 rfl (At.cat (pre := []) (hM.rawAt (pre := [])) cl0) ?_; intro a hE
 refine Zd hE Za (dl rfl) rfl ?_; intro a hE
 have hM := hM.pull (pre := [_])
 obtain ⟨r3, e4, hF⟩ := bind_some hF
 refine Zw (vs := [v0_1, (vI p1)]) hE Za (dl rfl) rfl cb59 (c_laws_markDigestS _ _ _ _ p0.Keys v0_1 p1 hM r3 e4) ?_
 rintro v w a ⟨rfl, hM⟩ hE
 refine Ze hE Za (dl rfl) rfl ?_; intro a hE
 refine Zf (Zc (Zo hE Za (dl rfl) rfl (UE) ?_)); intro a hE
 refine Zv (v := v0_2) hE Za (dl rfl) rfl ty45 rfl (At.cat (pre := [[v0_1]]) (hM.rawAt (pre := [_])) (cl1 (n := 1) (m := 0) rfl cl0)) ?_; intro a hE
 refine Zd hE Za (dl rfl) rfl ?_; intro a hE
 have hM := hM.pull (pre := [_, _])
 obtain ⟨r5, e6, hF⟩ := bind_some hF
 refine Zw (vs := [v0_2, (vI r3.2)]) hE Za (dl rfl) rfl cb60 (c_laws_markByteSS _ _ _ _ p0.Data v0_2 r3.2 hM r5 e6) ?_
 rintro v w a ⟨rfl, hM⟩ hE
 refine Ze hE Za (dl rfl) rfl ?_; intro a hE
 refine Zf (Zc (Zo hE Za (dl rfl) rfl (fd55_2) ?_)); intro a hE
 refine Zv (v := v0_3) hE Za (dl rfl) rfl ty46 rfl (At.cat (pre := [[v0_1], [v0_2]]) (hM.rawAt (pre := [_, _])) (cl1 (n := 1) (m := 1) rfl (cl1 (n := 1) (m := 0) rfl cl0))) ?_; intro a hE
 refine Zd hE Za (dl rfl) rfl ?_; intro a hE
 have hM := hM.pull (pre := [_, _, _])
 obtain ⟨r7, e8, hF⟩ := bind_some hF
 refine Zw (vs := [v0_3, (vI r5.2)]) hE Za (dl rfl) rfl cb61 (c_laws_markInt64S _ _ _ _ p0.Counts v0_3 r5.2 hM r7 e8) ?_
 rintro v w a ⟨rfl, hM⟩ hE
 refine Ze hE Za (dl rfl) rfl ?_; intro a hE
 refine Zf (Zc (Zd hE Za (dl rfl) rfl ?_)); intro a hE
 refine Ze hE Za (dl rfl) rfl ?_; intro a hE
 refine Zf ?_
 have hr := Option.some.inj hF
 subst hr
 have hM := hM.pull (pre := [_])
 have hM := hM.pull (pre := [_, _])
 have hM := (hM.pull (pre := [_, _, _])).drop
 exact wp_ret (Zy hE (by rfl) (Zu hE rfl) ⟨_, rfl, rfl, hM⟩)
noncomputable def Wn (p0 : (List UInt8)) (s5 : Int × Int) : Option (Fl (Int × Int) (Fl Int Int)) :=
 if (decide (s5.2 < (p0.length : Int))) = true then ((idx p0 s5.2).bind fun x10 => if (x10 != (ZG s5.1)) = true then (some (Fl.ex (Fl.ex (-1)))) else (some (Fl.nx (wr (s5.1 + 1), wr (s5.2 + 1))))) else (some (Fl.ex (Fl.nx s5.1)))
noncomputable def XV (p0 : (List UInt8)) (p1 : Int) : Option (Int) :=
 (ZF (Wn p0) (p1, 0) : Option (Fl Int Int)).bind fun j1 => j1.el (fun s4 => some s4) (fun r => some r)
theorem c_laws_heldByteS (w0 : World) (p0 : (List UInt8)) (v0_1 : Value) (hv0_1 : Ro w0 p0 [v0_1]) (p1 : Int) (r : Int) (hF : XV p0 p1 = some r) :
  Calls Try.prog 27 [v0_1, (vI p1)].toArray w0 (fun en w' => ∃ v, en = .returned v ∧ (v = (vI r) ∧ Kept (Old w0) w0 w')) := by
 refine ZC (n := 22) Try.func27 rfl rfl (Nat.le_of_ble_eq_true rfl) rfl ?_
 intro a hE
 have hM := M.start w0
 unfold XV at hF
 refine Zc (Ze hE Za (dl rfl) rfl ?_); intro a hE
 refine Zf (wp_seq (Zc (Ze hE Za (dl rfl) rfl ?_))); intro a hE
 refine Zf ?_
 obtain ⟨j1, hl2, hF3⟩ := bind_some hF
 refine ZV (fun a w => ∃ s4 : Int, j1 = Fl.nx s4 ∧ Env 22 a [(1, (vI s4))] ∧ M (Old w0) w0 w []) ?_ ?_
 ·skip
  refine wp_block ?_
  refine ZN (fun (s5 : Int × Int) a w => Env 22 a [(0, v0_1), (1, (vI s5.1)), (5, (vI s5.2))] ∧ M (Old w0) w0 w []) hl2 ⟨hE.sub ⟨rfl, rfl, rfl, trivial⟩, hM⟩ ?_
  rintro s5 a w ⟨hE, hM⟩ o8 hs6 hx7
  unfold Wn at hs6
  refine wp_seq (Zc (Zd hE Za (dl rfl) rfl ?_)); intro a hE
  refine Zd hE Za (dl rfl) rfl ?_; intro a hE
  refine Z7 hE Za (dl rfl) rfl Try.underlying50 (hM.rd hv0_1) ?_; intro a hE
  refine Zh hE Za (dl rfl) rfl rfl rfl ?_; intro a hE
  refine Zf ?_
  refine Zt hE rfl ?_ ?_
  ·intro hb9
   have hs6 := ZA hs6 hb9
   refine wp_skip (Zx (wp_seq (wp_block (wp_seq (Zc (Zd hE Za (dl rfl) rfl ?_)))))); intro a hE
   refine Zd hE Za (dl rfl) rfl ?_; intro a hE
   obtain ⟨x10, e11, hs6⟩ := bind_some hs6
   have hi12 := ZQ e11
   refine ZK hE Za (dl rfl) rfl rfl Try.underlying50 ty5 (hM.rd hv0_1) hi12.1 ?_; intro a hE
   refine Zv (v := (vB x10)) hE Za (dl rfl) rfl ty5 rfl (Yt (hM.rd hv0_1) hi12.2) ?_; intro a hE
   refine Zd hE Za (dl rfl) rfl ?_; intro a hE
   refine YK hE Za (dl rfl) rfl Try.underlying3 Try.underlying5 ?_; intro a hE
   rw [Yf] at hE
   refine Zh hE Za (dl rfl) rfl rfl (bB_neq x10 (ZG s5.1)) ?_; intro a hE
   refine Zf ?_
   refine Zt hE rfl ?_ ?_
   ·intro hb13
    have hs6 := ZA hs6 hb13
    refine Zc (Ze hE Za (dl rfl) rfl ?_); intro a hE
    refine Zf ?_
    have ht14 := hx7 _ (Option.some.inj hs6).symm
    subst ht14
    have hr := Option.some.inj hF3
    subst hr
    exact wp_ret (ZL (W0 (ZL (ZL (W0 (ZL (ZL (Zy hE rfl (Zu hE rfl) ⟨_, rfl, rfl, hM.kept⟩))))))))
   ·intro hb13
    have hs6 := Zz hs6 hb13
    refine wp_skip (Zx (wp_region_lit (Zd hE Za (dl rfl) rfl ?_))); intro a hE
    refine Zh hE Za (dl rfl) rfl rfl rfl ?_; intro a hE
    refine Ze hE Za (dl rfl) rfl ?_; intro a hE
    refine Zj (Yk (Zx (wp_region_lit (Zd hE Za (dl rfl) rfl ?_)))); intro a hE
    refine Zh hE Za (dl rfl) rfl rfl rfl ?_; intro a hE
    refine Ze hE Za (dl rfl) rfl ?_; intro a hE
    refine Zj (Zl ?_)
    exact ⟨_, (Option.some.inj hs6).symm, hE.sub ⟨rfl, rfl, rfl, trivial⟩, hM⟩
  ·intro hb9
   have hs6 := Zz hs6 hb9
   refine wp_exit (Zr (Zr (Yj ?_)))
   have ht15 := hx7 _ (Option.some.inj hs6).symm
   subst ht15
   refine Zl ?_
   exact ⟨s5.1, rfl, hE.sub ⟨rfl, trivial⟩, hM⟩
 ·skip
  rintro a w ⟨s4, ht, hE, hM⟩
  subst ht
  have hF3 := el_nx hF3
  refine Zx (Zc (Zd hE Za (dl rfl) rfl ?_)); intro a hE
  refine Ze hE Za (dl rfl) rfl ?_; intro a hE
  refine Zf ?_
  have hr := Option.some.inj hF3
  subst hr
  exact wp_ret (Zy hE rfl (Zu hE rfl) ⟨_, rfl, rfl, hM.kept⟩)
noncomputable def Wb (p0 : GBlobs) (p1 : (Vector UInt8 32)) : Option (Bool) :=
 (UD p0 1048576).bind fun r5 => if (decide (r5 < 0)) = true then (some true) else (((Xm p0).bind fun r14 => (YH p1).bind fun r20 => (Vx r14 r20).bind fun r22 => some (r22.1, r22.2) : Option ((List UInt8) × Int)).bind fun j8 => (Xm p0).bind fun r29 => ((YH p1).bind fun r42 => (WT r29 r42).bind fun r44 => some (r44.2, r44.1) : Option (Int × (List UInt8))).bind fun j36 => ((YY j36.2 j8.1).bind fun r51 => if (!r51) = true then (some true) else (some (j36.1 != j8.2)) : Option (Bool)).bind fun j48 => if j48 = true then (some false) else (((Xm p0).bind fun r61 => (VJ r29 r61).bind fun r70 => some (!r70) : Option (Bool)).bind fun j57 => if j57 = true then (some false) else ((WX r29 1).bind fun r74 => (if (decide (r74.2 < 0)) = true then (some true) else ((YY j36.2 j8.1).bind fun r81 => if (!r81) = true then (some true) else (some (j36.1 != j8.2))) : Option (Bool)).bind fun j76 => if j76 = true then (some false) else ((YO j36.2 1).bind fun r87 => (XV r87.1 1).bind fun r89 => if (decide (r89 < 0)) = true then (some false) else (if (r89 != r87.2) = true then (some false) else (((Xm p0).bind fun r99 => (YH p1).bind fun r105 => (WT r99 r105).bind fun r107 => some (r107.1, r107.2) : Option ((List UInt8) × Int)).bind fun j93 => ((YY j93.1 j8.1).bind fun r117 => if (!r117) = true then (some true) else (some (j93.2 != j8.2)) : Option (Bool)).bind fun j114 => if j114 = true then (some false) else ((XV r87.1 1).bind fun r123 => if (decide (r123 < 0)) = true then (some false) else (if (r123 != r87.2) = true then (some false) else (some true)))))))))
theorem c_laws_FnExactGetBlob (w0 : World) (p0 : GBlobs) (v0_1 : Value) (hv0_1 : Ro w0 p0.Keys [v0_1]) (v0_2 : Value) (hv0_2 : Ro w0 p0.Data [v0_2]) (v0_3 : Value) (hv0_3 : Ro w0 p0.Counts [v0_3]) (p1 : (Vector UInt8 32)) (r : Bool) (hF : Wb p0 p1 = some r) :
  Calls Try.prog 5 [(Value.agg (cat [[v0_1], [v0_2], [v0_3]]).toArray), (Value.agg (Flat.enc p1).toArray)].toArray w0 (fun en w' => ∃ v, en = .returned v ∧ (v = (vT r) ∧ Kept (Old w0) w0 w')) := by
 refine ZC (n := 104) Try.func5 rfl rfl (Nat.le_of_ble_eq_true rfl) rfl ?_
 intro a hE
 have hM := M.start w0
 unfold Wb at hF
 refine Zc (Z4 (cs := cat [[v0_1], [v0_2], [v0_3]]) hE hM Za (dl rfl) rfl rfl ?_); intro b1 w a hM hE
 refine Z4 (cs := Flat.enc p1) hE hM Za (dl rfl) rfl rfl ?_; intro b3 w a hM hE
 refine Ze hE Za (dl rfl) rfl ?_; intro a hE
 refine Zf (Zc (Ze hE Za (dl rfl) rfl ?_)); intro a hE
 refine Zf (Zc (Zp (cs := cat [[v0_1], [v0_2], [v0_3]]) hE Za (dl rfl) rfl ty48 rfl (hM.rawAt (pre := [_])) (ZR (cl1 (n := 1) (m := 2) rfl (cl1 (n := 1) (m := 1) rfl (cl1 (n := 1) (m := 0) rfl cl0)))) ?_)); intro a hE
 refine Zd hE Za (dl rfl) rfl ?_; intro a hE
 obtain ⟨r5, e6, hF⟩ := bind_some hF
 refine Zw (vs := [(Value.agg (cat [[v0_1], [v0_2], [v0_3]]).toArray), (vI 1048576)]) hE Za (dl rfl) rfl cb18 (c_laws_szBlobs _ p0 v0_1 (hM.rdo hv0_1) v0_2 (hM.rdo hv0_2) v0_3 (hM.rdo hv0_3) 1048576 r5 e6) ?_
 rintro v w a ⟨rfl, hK⟩ hE
 have hM := hM.keep hK
 refine Ze hE Za (dl rfl) rfl ?_; intro a hE
 refine Zf (wp_seq (Zc (Zd hE Za (dl rfl) rfl ?_))); intro a hE
 refine Zh hE Za (dl rfl) rfl rfl rfl ?_; intro a hE
 refine Zf ?_
 refine Zt hE rfl ?_ ?_
 ·intro hb7
  have hF := ZA hF hb7
  refine Zc (Ze hE Za (dl rfl) rfl ?_); intro a hE
  refine Zf ?_
  have hr := Option.some.inj hF
  subst hr
  have hM := M.fst (l := []) hM
  exact wp_ret (ZL (Zy hE rfl (Zu hE rfl) ⟨_, rfl, rfl, hM.kept⟩))
 ·intro hb7
  have hF := Zz hF hb7
  refine wp_skip (Zx ?_)
  obtain ⟨j8, hl9, hF10⟩ := bind_some hF
  refine ZS (fun a w => ∃ (u11 : Value), Env 104 a [(2, (ptr b1 0)), (3, (ptr b3 0)), (6, u11), (7, (vI j8.2))] ∧ M (Old w0) w0 w [raw b3 (Flat.enc p1), raw b1 (cat [[v0_1], [v0_2], [v0_3]]), osl NoB (j8.1 : List UInt8) u11]) ?_ ?_
  ·skip
   obtain ⟨r14, e15, hl9⟩ := bind_some hl9
   obtain ⟨r20, e21, hl9⟩ := bind_some hl9
   obtain ⟨r22, e23, hl9⟩ := bind_some hl9
   refine WA (n := 104) (hd := [_, _, _, _, _, _, _, _, _]) (tl := [_]) YB rfl rfl [22, 23, 24, 25, 26, 21, 27, 28, 6] (by decide) (fun D u w => M (Old w0) w0 w ([raw b3 (Flat.enc p1), raw b1 (cat [[v0_1], [v0_2], [v0_3]])] ++ qL ([mkO 1 (fun v => own NoB r14 (Value.cells v).toList), mkO 4 (fun v => osl NoB (r22.1 : List UInt8) (Z2 v 0))] : Mk) D u) ∧ GOk ([([], fun us v => v = (Value.agg (cat [[v0_1], [v0_2], [v0_3]]).toArray)), ([], fun us v => ∃ cs, v = .agg cs), ([], fun us v => v = (Value.agg (Flat.enc p1).toArray)), ([], fun us v => v = (Value.agg (Flat.enc r20).toArray)), ([], fun us v => v = (Value.tuple [(Z2 v 0), (vI r22.2)].toArray)), ([4], fun us v => v = (Value.tuple [(Z2 (us.getD 0 undef) 0), (vI r22.2)].toArray)), ([4], fun us v => v = (Z2 (us.getD 0 undef) 0)), ([], fun us v => v = (vI r22.2)), ([4], fun us v => v = (Z2 (us.getD 0 undef) 0))] : Gs) D u) hE (fun u => ⟨M.qE (M.qE (M.q0 hM.drew u) emO) emO, gok0⟩) (ZH (Zb ?_ (Zb ?_ (Zb ?_ (Zb ?_ (Zb ?_ (Zb ?_ (Zb ?_ (Zb ?_ (Zb ?_ ZD)))))))))) ?_
   ·intro a w ux13 D hE hI hD hdc hp
    have hM0 := hI.1
    have hM := hI.1
    exact Zp (cs := cat [[v0_1], [v0_2], [v0_3]]) hE Za (dl rfl) rfl ty48 rfl (hM.rawAt (pre := [_])) (ZR (cl1 (n := 1) (m := 2) rfl (cl1 (n := 1) (m := 1) rfl (cl1 (n := 1) (m := 0) rfl cl0)))) fun a hE => ⟨_, _, rfl, hE, M.qKeep hM0 rfl, hI.2.put hD rfl ZE rfl⟩
   ·intro a w ux13 D hE hI hD hdc hp
    have d0 : D 0 = true := hp 0 _ rfl rfl
    have g0 := hI.2 0 d0 _ rfl
    have f0 : ux13 0 = (Value.agg (cat [[v0_1], [v0_2], [v0_3]]).toArray) := g0.2
    have hM0 := hI.1
    have hM := hI.1
    refine Zw (vs := [(Value.agg (cat [[v0_1], [v0_2], [v0_3]]).toArray)]) hE Za (dl rfl) (Z0 (ZY (lk rfl f0) Xf)) cb20 (Uu _ p0 v0_1 (hM.rdo hv0_1) v0_2 (hM.rdo hv0_2) v0_3 (hM.rdo hv0_3) r14 e15) ?_
    rintro _ w a ⟨u16, u17, u18, rfl, hFr, hK⟩ hE
    have hM := hM0.add hK hFr
    have hM := hM.pull (pre := [_, _])
    have hM := hM.pull (pre := [_, _])
    have hM := hM.pull (pre := [_, _])
    have hM := hM.packL (m := [osl NoB (r14.Keys : List (Vector UInt8 32)) u16, osl NoB (r14.Data : List (List UInt8)) u17, osl NoB (r14.Counts : List Int) u18]) (it := own NoB r14 (cat [[u16], [u17], [u18]])) (Xg noB) (fun fp h => by obtain ⟨_, _, rfl, _, s1, _, _, rfl, _, s2, _, _, rfl, _, s3, rfl⟩ := h; exact pk_GBlobs (XL.sat s1) (XL.sat s2) (XL.sat s3) (by simp))
    exact ⟨_, _, rfl, hE, M.qFill (mk1 := []) (mk2 := [_]) (f := (fun v => own NoB r14 (Value.cells v).toList)) hM rfl hD, hI.2.put hD rfl ZE ⟨_, rfl⟩⟩
   ·intro a w ux13 D hE hI hD hdc hp
    have hM0 := hI.1
    have hM := hI.1
    exact Zp (cs := Flat.enc p1) hE Za (dl rfl) rfl ty24 rfl (hM.rawAt (pre := [])) (Flat.len _) fun a hE => ⟨_, _, rfl, hE, M.qKeep hM0 rfl, hI.2.put hD rfl ZE rfl⟩
   ·intro a w ux13 D hE hI hD hdc hp
    have d2 : D 2 = true := hp 0 _ rfl rfl
    have g2 := hI.2 2 d2 _ rfl
    have f2 : ux13 2 = (Value.agg (Flat.enc p1).toArray) := g2.2
    have hM0 := hI.1
    refine Zw (vs := [(Value.agg (Flat.enc p1).toArray)]) hE Za (dl rfl) (Z0 (ZY (lk rfl f2) Xf)) cb21 (Uf _ p1 r20 e21) ?_
    rintro v w a ⟨rfl, hK⟩ hE
    exact ⟨_, _, rfl, hE, M.qKeep (hM0.keep hK) rfl, hI.2.put hD rfl ZE rfl⟩
   ·intro a w ux13 D hE hI hD hdc hp
    have d1 : D 1 = true := hp 0 _ rfl rfl
    have g1 := hI.2 1 d1 _ rfl
    have d3 : D 3 = true := hp 1 _ rfl rfl
    have g3 := hI.2 3 d3 _ rfl
    have f3 : ux13 3 = (Value.agg (Flat.enc r20).toArray) := g3.2
    have hM0 := hI.1
    have hM : M (Old w0) w0 w [raw b3 (Flat.enc p1), raw b1 (cat [[v0_1], [v0_2], [v0_3]]), opt (D 1) (own NoB r14 (Value.cells (ux13 1)).toList), opt (D 4) (osl NoB (r22.1 : List UInt8) (Z2 (ux13 4) 0))] := hI.1
    have hM := hM.sure (pre := [_, _]) d1
    obtain ⟨q1_0_1, q1_0_2, q1_0_3, hcz, hq1_0_1, hq1_0_2, hq1_0_3⟩ := un_GBlobs (hM.ro (pre := [_, _]) noB)
    obtain ⟨cz, hvz⟩ := (hI.2 1 (by assumption) _ rfl).2
    have qK19 : (ux13 1) = (Value.agg (cat [[q1_0_1], [q1_0_2], [q1_0_3]]).toArray) := by rw [hvz] at hcz ⊢; exact congrArg Value.agg (toList_eq hcz)
    refine Zw (vs := [(Value.agg (cat [[q1_0_1], [q1_0_2], [q1_0_3]]).toArray), (Value.agg (Flat.enc r20).toArray)]) hE Za (dl rfl) (Z0 (ZY (lk rfl qK19) (ZY (lk rfl f3) Xf))) cb19 (c_spec_GetBlob _ r14 q1_0_1 hq1_0_1 q1_0_2 hq1_0_2 q1_0_3 hq1_0_3 r20 r22 e23) ?_
    rintro _ w a ⟨u24, rfl, hFr, hK⟩ hE
    have hM := hM0.add hK hFr
    exact ⟨_, _, rfl, hE, M.qFill (mk1 := [_]) (mk2 := []) (f := (fun v => osl NoB (r22.1 : List UInt8) (Z2 v 0))) hM rfl hD, hI.2.put hD rfl ZE rfl⟩
   ·intro a w ux13 D hE hI hD hdc hp
    have d4 : D 4 = true := hp 0 _ rfl rfl
    have g4 := hI.2 4 d4 _ rfl
    have f4 : ux13 4 = (Value.tuple [(Z2 (ux13 4) 0), (vI r22.2)].toArray) := g4.2
    have hM0 := hI.1
    refine Zd hE Za (dl rfl) (lk rfl f4) ?_; intro a hE
    exact ⟨_, _, rfl, hE, M.qKeep hM0 rfl, hI.2.put hD rfl (allC d4 ZE) rfl⟩
   ·intro a w ux13 D hE hI hD hdc hp
    have d5 : D 5 = true := hp 0 _ rfl rfl
    have g5 := hI.2 5 d5 _ rfl
    have d4 : D 4 = true := g5.1 4 (show 4 ∈ [4] by decide)
    have f5 : ux13 5 = (Value.tuple [(Z2 (ux13 4) 0), (vI r22.2)].toArray) := g5.2
    have hM0 := hI.1
    refine Xy hE Za (dl rfl) (lk rfl f5) rfl ?_; intro a hE
    exact ⟨_, _, rfl, hE, M.qKeep hM0 rfl, hI.2.put hD rfl (allC d4 ZE) rfl⟩
   ·intro a w ux13 D hE hI hD hdc hp
    have d5 : D 5 = true := hp 0 _ rfl rfl
    have g5 := hI.2 5 d5 _ rfl
    have d4 : D 4 = true := g5.1 4 (show 4 ∈ [4] by decide)
    have f5 : ux13 5 = (Value.tuple [(Z2 (ux13 4) 0), (vI r22.2)].toArray) := g5.2
    have hM0 := hI.1
    exact Xy hE Za (dl rfl) (lk rfl f5) rfl fun a hE => ⟨_, _, rfl, hE, M.qKeep hM0 rfl, hI.2.put hD rfl ZE rfl⟩
   ·intro a w ux13 D hE hI hD hdc hp
    have d6 : D 6 = true := hp 0 _ rfl rfl
    have g6 := hI.2 6 d6 _ rfl
    have d4 : D 4 = true := g6.1 4 (show 4 ∈ [4] by decide)
    have f6 : ux13 6 = (Z2 (ux13 4) 0) := g6.2
    have hM0 := hI.1
    refine Ze hE Za (dl rfl) (lk rfl f6) ?_; intro a hE
    exact ⟨_, _, rfl, hE, M.qKeep hM0 rfl, hI.2.put hD rfl (allC d4 ZE) rfl⟩
   ·intro a w ux13 D hE hI hall
    have hM : M (Old w0) w0 w [raw b3 (Flat.enc p1), raw b1 (cat [[v0_1], [v0_2], [v0_3]]), opt (D 1) (own NoB r14 (Value.cells (ux13 1)).toList), opt (D 4) (osl NoB (r22.1 : List UInt8) (Z2 (ux13 4) 0))] := hI.1
    have d0 : D 0 = true := hall 0 (by decide)
    have d1 : D 1 = true := hall 1 (by decide)
    have d2 : D 2 = true := hall 2 (by decide)
    have d3 : D 3 = true := hall 3 (by decide)
    have d4 : D 4 = true := hall 4 (by decide)
    have d5 : D 5 = true := hall 5 (by decide)
    have d6 : D 6 = true := hall 6 (by decide)
    have d7 : D 7 = true := hall 7 (by decide)
    have d8 : D 8 = true := hall 8 (by decide)
    have f0 : ux13 0 = (Value.agg (cat [[v0_1], [v0_2], [v0_3]]).toArray) := (hI.2 0 d0 _ rfl).2
    have f2 : ux13 2 = (Value.agg (Flat.enc p1).toArray) := (hI.2 2 d2 _ rfl).2
    have f3 : ux13 3 = (Value.agg (Flat.enc r20).toArray) := (hI.2 3 d3 _ rfl).2
    have f4 : ux13 4 = (Value.tuple [(Z2 (ux13 4) 0), (vI r22.2)].toArray) := (hI.2 4 d4 _ rfl).2
    have f5 : ux13 5 = (Value.tuple [(Z2 (ux13 4) 0), (vI r22.2)].toArray) := (hI.2 5 d5 _ rfl).2
    have f6 : ux13 6 = (Z2 (ux13 4) 0) := (hI.2 6 d6 _ rfl).2
    have f7 : ux13 7 = (vI r22.2) := (hI.2 7 d7 _ rfl).2
    have f8 : ux13 8 = (Z2 (ux13 4) 0) := (hI.2 8 d8 _ rfl).2
    have hM := hM.sure (pre := [_, _]) d1
    have hM := hM.sure (pre := [_, _, _]) d4
    obtain ⟨q1_0_1, q1_0_2, q1_0_3, hcz, _, _, _⟩ := un_GBlobs (hM.ro (pre := [_, _]) noB)
    obtain ⟨cz, hvz⟩ := (hI.2 1 d1 _ rfl).2
    have qK19 : (ux13 1) = (Value.agg (cat [[q1_0_1], [q1_0_2], [q1_0_3]]).toArray) := by rw [hvz] at hcz ⊢; exact congrArg Value.agg (toList_eq hcz)
    have hM := hM.pull (pre := [_, _])
    rw [qK19] at hM
    have hM := hM.unpackL (m := [own NoB (r14.Keys : (List (Vector UInt8 32))) [q1_0_1], own NoB (r14.Data : (List (List UInt8))) [q1_0_2], own NoB (r14.Counts : (List Int)) [q1_0_3]]) (fun fp h => by obtain ⟨_, _, _, rfl, s1, s2, s3⟩ := unc_GBlobs h; exact (Xa.cons (Xg noB) s1 (Xa.cons (Xg noB) s2 (Xa.one (Xg noB) s3))))
    simp only [List.cons_append, List.nil_append] at hM
    have hE := hE.sub (e' := [(23, (Value.agg (cat [[q1_0_1], [q1_0_2], [q1_0_3]]).toArray)), (28, (vI r22.2)), (6, (Z2 (ux13 4) 0)), (0, (Value.agg (cat [[v0_1], [v0_2], [v0_3]]).toArray)), (1, (Value.agg (Flat.enc p1).toArray)), (2, (ptr b1 0)), (3, (ptr b3 0)), (4, (vT false)), (5, (vI r5)), (16, (Value.agg (cat [[v0_1], [v0_2], [v0_3]]).toArray)), (17, (vI 1048576)), (18, (vI r5)), (19, (vI r5)), (20, (vT (decide (r5 < 0))))]) ⟨lk rfl qK19, lk rfl f7, lk rfl f8, rfl, rfl, rfl, rfl, rfl, rfl, rfl, rfl, rfl, rfl, rfl, trivial⟩
    refine Ze hE Za (dl rfl) rfl ?_; intro a hE
    refine Zj ?_
    have ht28 := Option.some.inj hl9
    subst ht28
    refine Zl ?_
    have hM := hM.pull (pre := [_, _, _, _, _])
    have hM := hM.pull (pre := [_, _, _, _, _])
    have hM := hM.pull (pre := [_, _, _, _, _])
    have hM := M.fst (l := [_, _, _]) hM
    exact ⟨(Z2 (ux13 4) 0), hE.sub ⟨rfl, rfl, rfl, rfl, trivial⟩, hM⟩
  ·skip
   rintro a w ⟨u11, hE, hM⟩
   refine Zc (Zp (cs := cat [[v0_1], [v0_2], [v0_3]]) hE Za (dl rfl) rfl ty48 rfl (hM.rawAt (pre := [_])) (ZR (cl1 (n := 1) (m := 2) rfl (cl1 (n := 1) (m := 1) rfl (cl1 (n := 1) (m := 0) rfl cl0)))) ?_); intro a hE
   obtain ⟨r29, e30, hF10⟩ := bind_some hF10
   refine Zw (vs := [(Value.agg (cat [[v0_1], [v0_2], [v0_3]]).toArray)]) hE Za (dl rfl) rfl cb20 (Uu _ p0 v0_1 (hM.rdo hv0_1) v0_2 (hM.rdo hv0_2) v0_3 (hM.rdo hv0_3) r29 e30) ?_
   rintro v w a ⟨u31, u32, u33, rfl, hFr, hK⟩ hE
   have hM := hM.add hK hFr
   refine ZO hE hM Za (dl rfl) ty55 ?_; intro b34 w a hM hE
   refine Zs (seg := cat [[u31], [u32], [u33]]) (cs' := cat [[u31], [u32], [u33]]) hE hM Za rfl rfl rfl ty55 (ZR (cl1 (n := 1) (m := 2) rfl (cl1 (n := 1) (m := 1) rfl (cl1 (n := 1) (m := 0) rfl cl0)))) (Nat.le_of_eq ((Nat.zero_add _).trans (Eq.trans (ZR (cl1 (n := 1) (m := 2) rfl (cl1 (n := 1) (m := 1) rfl (cl1 (n := 1) (m := 0) rfl cl0)))) (Eq.symm (ZR (cl1 (n := 1) (m := 2) rfl (cl1 (n := 1) (m := 1) rfl (cl1 (n := 1) (m := 0) rfl cl0)))))))) (cat_cell (cc1 (Rep.cell (hM.sl (pre := [_]) noB)) (cc1 (Rep.cell (hM.sl (pre := [_, _]) noB)) (cc1 (Rep.cell (hM.sl (pre := [_, _, _]) noB)) cc0)))) (Zq (Eq.trans (ZR (cl1 (n := 1) (m := 2) rfl (cl1 (n := 1) (m := 1) rfl (cl1 (n := 1) (m := 0) rfl cl0)))) (Eq.symm (ZR (cl1 (n := 1) (m := 2) rfl (cl1 (n := 1) (m := 1) rfl (cl1 (n := 1) (m := 0) rfl cl0))))))) ?_; intro w a hM hE
   refine Zf ?_
   obtain ⟨j36, hl37, hF38⟩ := bind_some hF10
   refine ZS (fun a w => ∃ (u39 : Value), Env 104 a [(2, (ptr b1 0)), (3, (ptr b3 0)), (6, u11), (7, (vI j8.2)), (8, (ptr b34 0)), (9, u39), (10, (vI j36.1))] ∧ M (Old w0) w0 w [raw b34 (cat [[u31], [u32], [u33]]), osl NoB (r29.Keys : List (Vector UInt8 32)) u31, osl NoB (r29.Data : List (List UInt8)) u32, osl NoB (r29.Counts : List Int) u33, raw b3 (Flat.enc p1), raw b1 (cat [[v0_1], [v0_2], [v0_3]]), osl NoB (j8.1 : List UInt8) u11, osl NoB (j36.2 : List UInt8) u39]) ?_ ?_
   ·skip
    obtain ⟨r42, e43, hl37⟩ := bind_some hl37
    obtain ⟨r44, e45, hl37⟩ := bind_some hl37
    refine WA (n := 104) (hd := [_, _, _, _, _, _, _, _]) (tl := [_]) YB rfl rfl [32, 33, 34, 35, 31, 36, 37, 9] (by decide) (fun D u w => M (Old w0) w0 w ([raw b34 (cat [[u31], [u32], [u33]]), osl NoB (r29.Keys : List (Vector UInt8 32)) u31, osl NoB (r29.Data : List (List UInt8)) u32, osl NoB (r29.Counts : List Int) u33, raw b3 (Flat.enc p1), raw b1 (cat [[v0_1], [v0_2], [v0_3]]), osl NoB (j8.1 : List UInt8) u11] ++ qL ([mkO 3 (fun v => osl NoB (r44.1 : List UInt8) (Z2 v 0))] : Mk) D u) ∧ GOk ([([], fun us v => v = (Value.agg (cat [[u31], [u32], [u33]]).toArray)), ([], fun us v => v = (Value.agg (Flat.enc p1).toArray)), ([], fun us v => v = (Value.agg (Flat.enc r42).toArray)), ([], fun us v => v = (Value.tuple [(Z2 v 0), (vI r44.2)].toArray)), ([3], fun us v => v = (Value.tuple [(Z2 (us.getD 0 undef) 0), (vI r44.2)].toArray)), ([3], fun us v => v = (Z2 (us.getD 0 undef) 0)), ([], fun us v => v = (vI r44.2)), ([3], fun us v => v = (Z2 (us.getD 0 undef) 0))] : Gs) D u) hE (fun u => ⟨M.qE (M.q0 hM.drew u) emO, gok0⟩) (ZH (Zb ?_ (Zb ?_ (Zb ?_ (Zb ?_ (Zb ?_ (Zb ?_ (Zb ?_ (Zb ?_ ZD))))))))) ?_
    ·intro a w ux41 D hE hI hD hdc hp
     have hM0 := hI.1
     have hM := hI.1
     exact Zp (cs := cat [[u31], [u32], [u33]]) hE Za (dl rfl) rfl ty55 rfl (hM.rawAt (pre := [])) (ZR (cl1 (n := 1) (m := 2) rfl (cl1 (n := 1) (m := 1) rfl (cl1 (n := 1) (m := 0) rfl cl0)))) fun a hE => ⟨_, _, rfl, hE, M.qKeep hM0 rfl, hI.2.put hD rfl ZE rfl⟩
    ·intro a w ux41 D hE hI hD hdc hp
     have hM0 := hI.1
     have hM := hI.1
     exact Zp (cs := Flat.enc p1) hE Za (dl rfl) rfl ty24 rfl (hM.rawAt (pre := [_, _, _, _])) (Flat.len _) fun a hE => ⟨_, _, rfl, hE, M.qKeep hM0 rfl, hI.2.put hD rfl ZE rfl⟩
    ·intro a w ux41 D hE hI hD hdc hp
     have d1 : D 1 = true := hp 0 _ rfl rfl
     have g1 := hI.2 1 d1 _ rfl
     have f1 : ux41 1 = (Value.agg (Flat.enc p1).toArray) := g1.2
     have hM0 := hI.1
     refine Zw (vs := [(Value.agg (Flat.enc p1).toArray)]) hE Za (dl rfl) (Z0 (ZY (lk rfl f1) Xf)) cb21 (Uf _ p1 r42 e43) ?_
     rintro v w a ⟨rfl, hK⟩ hE
     exact ⟨_, _, rfl, hE, M.qKeep (hM0.keep hK) rfl, hI.2.put hD rfl ZE rfl⟩
    ·intro a w ux41 D hE hI hD hdc hp
     have d0 : D 0 = true := hp 0 _ rfl rfl
     have g0 := hI.2 0 d0 _ rfl
     have f0 : ux41 0 = (Value.agg (cat [[u31], [u32], [u33]]).toArray) := g0.2
     have d2 : D 2 = true := hp 1 _ rfl rfl
     have g2 := hI.2 2 d2 _ rfl
     have f2 : ux41 2 = (Value.agg (Flat.enc r42).toArray) := g2.2
     have hM0 := hI.1
     have hM := hI.1
     refine Zw (vs := [(Value.agg (cat [[u31], [u32], [u33]]).toArray), (Value.agg (Flat.enc r42).toArray)]) hE Za (dl rfl) (Z0 (ZY (lk rfl f0) (ZY (lk rfl f2) Xf))) cb22 (c_impl_GetBlob _ r29 u31 (hM.sl (pre := [_]) noB) u32 (hM.sl (pre := [_, _]) noB) u33 (hM.sl (pre := [_, _, _]) noB) r42 r44 e45) ?_
     rintro _ w a ⟨u46, rfl, hFr, hK⟩ hE
     have hM := hM0.add hK hFr
     exact ⟨_, _, rfl, hE, M.qFill (mk1 := []) (mk2 := []) (f := (fun v => osl NoB (r44.1 : List UInt8) (Z2 v 0))) hM rfl hD, hI.2.put hD rfl ZE rfl⟩
    ·intro a w ux41 D hE hI hD hdc hp
     have d3 : D 3 = true := hp 0 _ rfl rfl
     have g3 := hI.2 3 d3 _ rfl
     have f3 : ux41 3 = (Value.tuple [(Z2 (ux41 3) 0), (vI r44.2)].toArray) := g3.2
     have hM0 := hI.1
     refine Zd hE Za (dl rfl) (lk rfl f3) ?_; intro a hE
     exact ⟨_, _, rfl, hE, M.qKeep hM0 rfl, hI.2.put hD rfl (allC d3 ZE) rfl⟩
    ·intro a w ux41 D hE hI hD hdc hp
     have d4 : D 4 = true := hp 0 _ rfl rfl
     have g4 := hI.2 4 d4 _ rfl
     have d3 : D 3 = true := g4.1 3 (show 3 ∈ [3] by decide)
     have f4 : ux41 4 = (Value.tuple [(Z2 (ux41 3) 0), (vI r44.2)].toArray) := g4.2
     have hM0 := hI.1
     refine Xy hE Za (dl rfl) (lk rfl f4) rfl ?_; intro a hE
     exact ⟨_, _, rfl, hE, M.qKeep hM0 rfl, hI.2.put hD rfl (allC d3 ZE) rfl⟩
    ·intro a w ux41 D hE hI hD hdc hp
     have d4 : D 4 = true := hp 0 _ rfl rfl
     have g4 := hI.2 4 d4 _ rfl
     have d3 : D 3 = true := g4.1 3 (show 3 ∈ [3] by decide)
     have f4 : ux41 4 = (Value.tuple [(Z2 (ux41 3) 0), (vI r44.2)].toArray) := g4.2
     have hM0 := hI.1
     exact Xy hE Za (dl rfl) (lk rfl f4) rfl fun a hE => ⟨_, _, rfl, hE, M.qKeep hM0 rfl, hI.2.put hD rfl ZE rfl⟩
    ·intro a w ux41 D hE hI hD hdc hp
     have d5 : D 5 = true := hp 0 _ rfl rfl
     have g5 := hI.2 5 d5 _ rfl
     have d3 : D 3 = true := g5.1 3 (show 3 ∈ [3] by decide)
     have f5 : ux41 5 = (Z2 (ux41 3) 0) := g5.2
     have hM0 := hI.1
     refine Ze hE Za (dl rfl) (lk rfl f5) ?_; intro a hE
     exact ⟨_, _, rfl, hE, M.qKeep hM0 rfl, hI.2.put hD rfl (allC d3 ZE) rfl⟩
    ·intro a w ux41 D hE hI hall
     have hM := hI.1
     have d0 : D 0 = true := hall 0 (by decide)
     have d1 : D 1 = true := hall 1 (by decide)
     have d2 : D 2 = true := hall 2 (by decide)
     have d3 : D 3 = true := hall 3 (by decide)
     have d4 : D 4 = true := hall 4 (by decide)
     have d5 : D 5 = true := hall 5 (by decide)
     have d6 : D 6 = true := hall 6 (by decide)
     have d7 : D 7 = true := hall 7 (by decide)
     have f0 : ux41 0 = (Value.agg (cat [[u31], [u32], [u33]]).toArray) := (hI.2 0 d0 _ rfl).2
     have f1 : ux41 1 = (Value.agg (Flat.enc p1).toArray) := (hI.2 1 d1 _ rfl).2
     have f2 : ux41 2 = (Value.agg (Flat.enc r42).toArray) := (hI.2 2 d2 _ rfl).2
     have f3 : ux41 3 = (Value.tuple [(Z2 (ux41 3) 0), (vI r44.2)].toArray) := (hI.2 3 d3 _ rfl).2
     have f4 : ux41 4 = (Value.tuple [(Z2 (ux41 3) 0), (vI r44.2)].toArray) := (hI.2 4 d4 _ rfl).2
     have f5 : ux41 5 = (Z2 (ux41 3) 0) := (hI.2 5 d5 _ rfl).2
     have f6 : ux41 6 = (vI r44.2) := (hI.2 6 d6 _ rfl).2
     have f7 : ux41 7 = (Z2 (ux41 3) 0) := (hI.2 7 d7 _ rfl).2
     have hM := hM.sure (pre := [_, _, _, _, _, _, _]) d3
     have hE := hE.sub (e' := [(37, (vI r44.2)), (9, (Z2 (ux41 3) 0)), (2, (ptr b1 0)), (3, (ptr b3 0)), (6, u11), (7, (vI j8.2)), (8, (ptr b34 0)), (29, (Value.agg (cat [[v0_1], [v0_2], [v0_3]]).toArray)), (30, (Value.agg (cat [[u31], [u32], [u33]]).toArray))]) ⟨lk rfl f6, lk rfl f7, rfl, rfl, rfl, rfl, rfl, rfl, rfl, trivial⟩
     refine Ze hE Za (dl rfl) rfl ?_; intro a hE
     refine Zj ?_
     have ht47 := Option.some.inj hl37
     subst ht47
     refine Zl ?_
     exact ⟨(Z2 (ux41 3) 0), hE.sub ⟨rfl, rfl, rfl, rfl, rfl, rfl, rfl, trivial⟩, hM⟩
   ·skip
    rintro a w ⟨u39, hE, hM⟩
    refine wp_seq ?_
    obtain ⟨j48, hl49, hF50⟩ := bind_some hF38
    refine ZS (fun a w => Env 104 a [(2, (ptr b1 0)), (3, (ptr b3 0)), (6, u11), (7, (vI j8.2)), (8, (ptr b34 0)), (9, u39), (10, (vI j36.1)), (46, (vT j48))] ∧ M (Old w0) w0 w [raw b34 (cat [[u31], [u32], [u33]]), osl NoB (r29.Keys : List (Vector UInt8 32)) u31, osl NoB (r29.Data : List (List UInt8)) u32, osl NoB (r29.Counts : List Int) u33, raw b3 (Flat.enc p1), raw b1 (cat [[v0_1], [v0_2], [v0_3]]), osl NoB (j8.1 : List UInt8) u11, osl NoB (j36.2 : List UInt8) u39]) ?_ ?_
    ·skip
     refine wp_region_lit (Zd hE Za (dl rfl) rfl ?_); intro a hE
     refine Zd hE Za (dl rfl) rfl ?_; intro a hE
     obtain ⟨r51, e52, hl49⟩ := bind_some hl49
     refine Zw (vs := [u39, u11]) hE Za (dl rfl) rfl cb23 (UG _ j36.2 u39 (hM.sl (pre := [_, _, _, _, _, _, _]) noB) j8.1 u11 (hM.sl (pre := [_, _, _, _, _, _]) noB) r51 e52) ?_
     rintro v w a ⟨rfl, hK⟩ hE
     have hM := hM.keep hK
     refine Uo hE Za (dl rfl) rfl ?_; intro a hE
     refine Zd hE Za (dl rfl) rfl ?_; intro a hE
     refine WE (!r51) (fun hb53 => ?_) (fun hb53 => ?_)
     ·have hl49 := ZA hl49 hb53
      refine Zn hE rfl (lkb rfl hb53) rfl (by decide) ?_; intro a hE
      refine Zn hE rfl (lkb rfl hb53) rfl (by decide) ?_; intro a hE
      refine Zn hE rfl (lkb rfl hb53) rfl (by decide) ?_; intro a hE
      refine Yn hE Za (dl rfl) (lkb rfl hb53) rfl ?_; intro a hE
      refine Zj ?_
      have ht54 := Option.some.inj hl49
      subst ht54
      refine Zl ?_
      exact ⟨hE.sub ⟨rfl, rfl, rfl, rfl, rfl, rfl, rfl, rfl, trivial⟩, hM⟩
     ·have hl49 := Zz hl49 hb53
      refine Zd hE (Zk hE rfl (lkb rfl hb53)) (by decide) rfl ?_; intro a hE
      refine Zd hE (Zk hE rfl (lkb rfl hb53)) (by decide) rfl ?_; intro a hE
      refine Zh hE (Zk hE rfl (lkb rfl hb53)) (by decide) rfl rfl rfl ?_; intro a hE
      refine YP hE Za (dl rfl) (lkb rfl hb53) rfl ?_; intro a hE
      refine Zj ?_
      have ht55 := Option.some.inj hl49
      subst ht55
      refine Zl ?_
      exact ⟨hE.sub ⟨rfl, rfl, rfl, rfl, rfl, rfl, rfl, rfl, trivial⟩, hM⟩
    ·skip
     rintro a w ⟨hE, hM⟩
     refine Zt hE rfl ?_ ?_
     ·intro hb56
      have hF50 := ZA hF50 hb56
      refine Zc (Ze hE Za (dl rfl) rfl ?_); intro a hE
      refine Zf ?_
      have hr := Option.some.inj hF50
      subst hr
      have hM := M.fst (l := []) hM
      exact wp_ret (ZL (Zy hE rfl (Zu hE rfl) ⟨_, rfl, rfl, hM.kept⟩))
     ·intro hb56
      have hF50 := Zz hF50 hb56
      refine wp_skip (Zx (wp_seq ?_))
      obtain ⟨j57, hl58, hF59⟩ := bind_some hF50
      refine ZS (fun a w => Env 104 a [(2, (ptr b1 0)), (3, (ptr b3 0)), (6, u11), (7, (vI j8.2)), (8, (ptr b34 0)), (9, u39), (10, (vI j36.1)), (51, (vT j57))] ∧ M (Old w0) w0 w [raw b34 (cat [[u31], [u32], [u33]]), osl NoB (r29.Keys : List (Vector UInt8 32)) u31, osl NoB (r29.Data : List (List UInt8)) u32, osl NoB (r29.Counts : List Int) u33, raw b3 (Flat.enc p1), raw b1 (cat [[v0_1], [v0_2], [v0_3]]), osl NoB (j8.1 : List UInt8) u11, osl NoB (j36.2 : List UInt8) u39]) ?_ ?_
      ·skip
       obtain ⟨r61, e62, hl58⟩ := bind_some hl58
       refine c_draw2 (n := 104) (hd := [_, _, _]) (tl := [_, _]) (its := [raw b34 (cat [[u31], [u32], [u33]]), osl NoB (r29.Keys : List (Vector UInt8 32)) u31, osl NoB (r29.Data : List (List UInt8)) u32, osl NoB (r29.Counts : List Int) u33, raw b3 (Flat.enc p1), raw b1 (cat [[v0_1], [v0_2], [v0_3]]), osl NoB (j8.1 : List UInt8) u11, osl NoB (j36.2 : List UInt8) u39]) YB rfl rfl [47, 48, 49] (by decide) [(2, fun v => own NoB r61 (Value.cells v).toList)] rfl (fun j => ([fun v => v = (Value.agg (cat [[u31], [u32], [u33]]).toArray), fun v => v = (Value.agg (cat [[v0_1], [v0_2], [v0_3]]).toArray), fun v => ∃ cs, v = .agg cs] : List (Value → Prop)).getD j (fun _ => True)) hE hM.drew (ZH (Zb ?_ (Zb ?_ (Zb ?_ ZD)))) ?_
       ·intro a w ux60 D hE hM hD hp
        have hM0 := hM
        have hM : M (Old w0) w0 w [raw b34 (cat [[u31], [u32], [u33]]), osl NoB (r29.Keys : List (Vector UInt8 32)) u31, osl NoB (r29.Data : List (List UInt8)) u32, osl NoB (r29.Counts : List Int) u33, raw b3 (Flat.enc p1), raw b1 (cat [[v0_1], [v0_2], [v0_3]]), osl NoB (j8.1 : List UInt8) u11, osl NoB (j36.2 : List UInt8) u39, opt (D 2) (own NoB r61 (Value.cells (ux60 2)).toList)] := hM
        exact Zp (cs := cat [[u31], [u32], [u33]]) hE Za (dl rfl) rfl ty55 rfl (hM.rawAt (pre := [])) (ZR (cl1 (n := 1) (m := 2) rfl (cl1 (n := 1) (m := 1) rfl (cl1 (n := 1) (m := 0) rfl cl0)))) fun a hE => ⟨_, _, rfl, hE, rfl, hM0.optKeep rfl⟩
       ·intro a w ux60 D hE hM hD hp
        have hM0 := hM
        have hM : M (Old w0) w0 w [raw b34 (cat [[u31], [u32], [u33]]), osl NoB (r29.Keys : List (Vector UInt8 32)) u31, osl NoB (r29.Data : List (List UInt8)) u32, osl NoB (r29.Counts : List Int) u33, raw b3 (Flat.enc p1), raw b1 (cat [[v0_1], [v0_2], [v0_3]]), osl NoB (j8.1 : List UInt8) u11, osl NoB (j36.2 : List UInt8) u39, opt (D 2) (own NoB r61 (Value.cells (ux60 2)).toList)] := hM
        exact Zp (cs := cat [[v0_1], [v0_2], [v0_3]]) hE Za (dl rfl) rfl ty48 rfl (hM.rawAt (pre := [_, _, _, _, _])) (ZR (cl1 (n := 1) (m := 2) rfl (cl1 (n := 1) (m := 1) rfl (cl1 (n := 1) (m := 0) rfl cl0)))) fun a hE => ⟨_, _, rfl, hE, rfl, hM0.optKeep rfl⟩
       ·intro a w ux60 D hE hM hD hp
        have f1 : ux60 1 = (Value.agg (cat [[v0_1], [v0_2], [v0_3]]).toArray) := (hp 0 _ rfl rfl).2
        have hM0 := hM
        have hM : M (Old w0) w0 w [raw b34 (cat [[u31], [u32], [u33]]), osl NoB (r29.Keys : List (Vector UInt8 32)) u31, osl NoB (r29.Data : List (List UInt8)) u32, osl NoB (r29.Counts : List Int) u33, raw b3 (Flat.enc p1), raw b1 (cat [[v0_1], [v0_2], [v0_3]]), osl NoB (j8.1 : List UInt8) u11, osl NoB (j36.2 : List UInt8) u39, opt (D 2) (own NoB r61 (Value.cells (ux60 2)).toList)] := hM
        refine Zw (vs := [(Value.agg (cat [[v0_1], [v0_2], [v0_3]]).toArray)]) hE Za (dl rfl) (Z0 (ZY (lk rfl f1) Xf)) cb20 (Uu _ p0 v0_1 (hM.rdo hv0_1) v0_2 (hM.rdo hv0_2) v0_3 (hM.rdo hv0_3) r61 e62) ?_
        rintro _ w a ⟨u63, u64, u65, rfl, hFr, hK⟩ hE
        have hM := hM0.add hK hFr
        have hM := hM.packL (m := [osl NoB (r61.Keys : List (Vector UInt8 32)) u63, osl NoB (r61.Data : List (List UInt8)) u64, osl NoB (r61.Counts : List Int) u65]) (it := own NoB r61 (cat [[u63], [u64], [u65]])) (Xg noB) (fun fp h => by obtain ⟨_, _, rfl, _, s1, _, _, rfl, _, s2, _, _, rfl, _, s3, rfl⟩ := h; exact pk_GBlobs (XL.sat s1) (XL.sat s2) (XL.sat s3) (by simp))
        exact ⟨_, _, rfl, hE, ⟨_, rfl⟩, M.optFill (mk1 := []) (mk2 := []) (f := (fun v => own NoB r61 (Value.cells v).toList)) hM rfl hD⟩
       ·intro a w ux60 hE hM hg
        have hM : M (Old w0) w0 w [raw b34 (cat [[u31], [u32], [u33]]), osl NoB (r29.Keys : List (Vector UInt8 32)) u31, osl NoB (r29.Data : List (List UInt8)) u32, osl NoB (r29.Counts : List Int) u33, raw b3 (Flat.enc p1), raw b1 (cat [[v0_1], [v0_2], [v0_3]]), osl NoB (j8.1 : List UInt8) u11, osl NoB (j36.2 : List UInt8) u39, own NoB r61 (Value.cells (ux60 2)).toList] := hM
        obtain ⟨q2_1, q2_2, q2_3, hcz, hq2_1, hq2_2, hq2_3⟩ := un_GBlobs (hM.ro (pre := [_, _, _, _, _, _, _, _]) noB)
        obtain ⟨cz, hvz⟩ := hg 2 (by decide)
        have f2 : ux60 2 = (Value.agg (cat [[q2_1], [q2_2], [q2_3]]).toArray) := by rw [hvz] at hcz ⊢; exact congrArg Value.agg (toList_eq hcz)
        have hM := hM.pull (pre := [_, _, _, _, _, _, _, _])
        rw [f2] at hM
        have hM := hM.unpackL (m := [own NoB (r61.Keys : (List (Vector UInt8 32))) [q2_1], own NoB (r61.Data : (List (List UInt8))) [q2_2], own NoB (r61.Counts : (List Int)) [q2_3]]) (fun fp h => by obtain ⟨_, _, _, rfl, s1, s2, s3⟩ := unc_GBlobs h; exact (Xa.cons (Xg noB) s1 (Xa.cons (Xg noB) s2 (Xa.one (Xg noB) s3))))
        simp only [List.cons_append, List.nil_append] at hM
        have hE := hE.sub (e' := [(47, (Value.agg (cat [[u31], [u32], [u33]]).toArray)), (49, (Value.agg (cat [[q2_1], [q2_2], [q2_3]]).toArray)), (2, (ptr b1 0)), (3, (ptr b3 0)), (6, u11), (7, (vI j8.2)), (8, (ptr b34 0)), (9, u39), (10, (vI j36.1)), (46, (vT j48))]) ⟨lk rfl (hg 0 (by decide)), lk rfl f2, rfl, rfl, rfl, rfl, rfl, rfl, rfl, rfl, trivial⟩
        obtain ⟨r70, e71, hl58⟩ := bind_some hl58
        refine Zw (vs := [(Value.agg (cat [[u31], [u32], [u33]]).toArray), (Value.agg (cat [[q2_1], [q2_2], [q2_3]]).toArray)]) hE Za (dl rfl) rfl cb24 (c_laws_eqBlobs _ r29 u31 (hM.sl (pre := [_, _, _, _]) noB) u32 (hM.sl (pre := [_, _, _, _, _]) noB) u33 (hM.sl (pre := [_, _, _, _, _, _]) noB) r61 q2_1 (hM.ro (pre := []) noB) q2_2 (hM.ro (pre := [_]) noB) q2_3 (hM.ro (pre := [_, _]) noB) r70 e71) ?_
        rintro v w a ⟨rfl, hK⟩ hE
        have hM := hM.keep hK
        refine Uo hE Za (dl rfl) rfl ?_; intro a hE
        refine Zj ?_
        have ht72 := Option.some.inj hl58
        subst ht72
        refine Zl ?_
        have hM := hM.pull (pre := [_, _, _, _, _, _, _, _, _, _])
        have hM := hM.pull (pre := [_, _, _, _, _, _, _, _, _, _])
        have hM := hM.pull (pre := [_, _, _, _, _, _, _, _, _, _])
        have hM := hM.pull (pre := [_, _, _, _, _, _, _, _, _, _])
        have hM := hM.pull (pre := [_, _, _, _, _, _, _, _, _, _])
        have hM := hM.pull (pre := [_, _, _, _, _, _, _, _, _, _])
        have hM := hM.pull (pre := [_, _, _, _, _, _, _, _, _, _])
        have hM := hM.pull (pre := [_, _, _, _, _, _, _, _, _, _])
        have hM := M.fst (l := [_, _, _, _, _, _, _, _]) hM
        exact ⟨hE.sub ⟨rfl, rfl, rfl, rfl, rfl, rfl, rfl, rfl, trivial⟩, hM⟩
      ·skip
       rintro a w ⟨hE, hM⟩
       refine Zt hE rfl ?_ ?_
       ·intro hb73
        have hF59 := ZA hF59 hb73
        refine Zc (Ze hE Za (dl rfl) rfl ?_); intro a hE
        refine Zf ?_
        have hr := Option.some.inj hF59
        subst hr
        have hM := M.fst (l := []) hM
        exact wp_ret (ZL (Zy hE rfl (Zu hE rfl) ⟨_, rfl, rfl, hM.kept⟩))
       ·intro hb73
        have hF59 := Zz hF59 hb73
        refine wp_skip (Zx (Zc (Ze hE Za (dl rfl) rfl ?_))); intro a hE
        refine Zf (Zc (Zp (cs := cat [[u31], [u32], [u33]]) hE Za (dl rfl) rfl ty55 rfl (hM.rawAt (pre := [])) (ZR (cl1 (n := 1) (m := 2) rfl (cl1 (n := 1) (m := 1) rfl (cl1 (n := 1) (m := 0) rfl cl0)))) ?_)); intro a hE
        refine Zd hE Za (dl rfl) rfl ?_; intro a hE
        have hM := hM.pull (pre := [_])
        have hM := hM.toOwn noB
        have hM := hM.pull (pre := [_, _])
        have hM := hM.toOwn noB
        have hM := hM.pull (pre := [_, _, _])
        have hM := hM.toOwn noB
        have hM := hM.pull (pre := [_])
        have hM := hM.pull (pre := [_, _])
        obtain ⟨r74, e75, hF59⟩ := bind_some hF59
        refine Zw (vs := [(Value.agg (cat [[u31], [u32], [u33]]).toArray), (vI 1)]) hE Za (dl rfl) rfl cb25 (c_laws_markBlobs _ _ _ _ r29 u31 u32 u33 1 hM r74 e75) ?_
        rintro v w a ⟨rfl, hM⟩ hE
        refine Ze hE Za (dl rfl) rfl ?_; intro a hE
        refine Zf (wp_seq ?_)
        obtain ⟨j76, hl77, hF78⟩ := bind_some hF59
        refine ZS (fun a w => Env 104 a [(2, (ptr b1 0)), (3, (ptr b3 0)), (6, u11), (7, (vI j8.2)), (9, u39), (67, (vT j76))] ∧ M (Old w0) w0 w [raw b3 (Flat.enc p1), raw b1 (cat [[v0_1], [v0_2], [v0_3]]), osl NoB (j8.1 : List UInt8) u11, osl NoB (j36.2 : List UInt8) u39]) ?_ ?_
        ·skip
         refine wp_region_lit (Zd hE Za (dl rfl) rfl ?_); intro a hE
         refine Zh hE Za (dl rfl) rfl rfl rfl ?_; intro a hE
         refine Zd hE Za (dl rfl) rfl ?_; intro a hE
         refine WE (decide (r74.2 < 0)) (fun hb79 => ?_) (fun hb79 => ?_)
         ·have hl77 := ZA hl77 hb79
          refine Zn hE rfl (lkb rfl hb79) rfl (by decide) ?_; intro a hE
          refine Zn hE rfl (lkb rfl hb79) rfl (by decide) ?_; intro a hE
          refine Zn hE rfl (lkb rfl hb79) rfl (by decide) ?_; intro a hE
          refine Zn hE rfl (lkb rfl hb79) rfl (by decide) ?_; intro a hE
          refine Yn hE Za (dl rfl) (lkb rfl hb79) rfl ?_; intro a hE
          refine Zd hE Za (dl rfl) rfl ?_; intro a hE
          refine Zn hE rfl rfl rfl (by decide) ?_; intro a hE
          refine Zn hE rfl rfl rfl (by decide) ?_; intro a hE
          refine Zn hE rfl rfl rfl (by decide) ?_; intro a hE
          refine Yn hE Za (dl rfl) rfl rfl ?_; intro a hE
          refine Zj ?_
          have ht80 := Option.some.inj hl77
          subst ht80
          refine Zl ?_
          have hM := hM.pull (pre := [_, _, _, _, _, _, _])
          have hM := hM.pull (pre := [_, _, _, _, _, _, _])
          have hM := hM.pull (pre := [_, _, _, _, _, _, _])
          have hM := hM.pull (pre := [_, _, _, _, _, _, _])
          have hM := M.fst (l := [_, _, _, _]) hM
          exact ⟨hE.sub ⟨rfl, rfl, rfl, rfl, rfl, rfl, trivial⟩, hM⟩
         ·have hl77 := Zz hl77 hb79
          refine Zd hE (Zk hE rfl (lkb rfl hb79)) (by decide) rfl ?_; intro a hE
          refine Zd hE (Zk hE rfl (lkb rfl hb79)) (by decide) rfl ?_; intro a hE
          obtain ⟨r81, e82, hl77⟩ := bind_some hl77
          refine Zw (vs := [u39, u11]) hE (Zk hE rfl (lkb rfl hb79)) (by decide) rfl cb23 (UG _ j36.2 u39 (hM.sl (pre := [_, _, _, _, _, _, _]) noB) j8.1 u11 (hM.sl (pre := [_, _, _, _, _, _]) noB) r81 e82) ?_
          rintro v w a ⟨rfl, hK⟩ hE
          have hM := hM.keep hK
          refine Uo hE (Zk hE rfl (lkb rfl hb79)) (by decide) rfl ?_; intro a hE
          refine YP hE Za (dl rfl) (lkb rfl hb79) rfl ?_; intro a hE
          refine Zd hE Za (dl rfl) rfl ?_; intro a hE
          refine WE (!r81) (fun hb83 => ?_) (fun hb83 => ?_)
          ·have hl77 := ZA hl77 hb83
           refine Zn hE rfl (lkb rfl hb83) rfl (by decide) ?_; intro a hE
           refine Zn hE rfl (lkb rfl hb83) rfl (by decide) ?_; intro a hE
           refine Zn hE rfl (lkb rfl hb83) rfl (by decide) ?_; intro a hE
           refine Yn hE Za (dl rfl) (lkb rfl hb83) rfl ?_; intro a hE
           refine Zj ?_
           have ht84 := Option.some.inj hl77
           subst ht84
           refine Zl ?_
           have hM := hM.pull (pre := [_, _, _, _, _, _, _])
           have hM := hM.pull (pre := [_, _, _, _, _, _, _])
           have hM := hM.pull (pre := [_, _, _, _, _, _, _])
           have hM := hM.pull (pre := [_, _, _, _, _, _, _])
           have hM := M.fst (l := [_, _, _, _]) hM
           exact ⟨hE.sub ⟨rfl, rfl, rfl, rfl, rfl, rfl, trivial⟩, hM⟩
          ·have hl77 := Zz hl77 hb83
           refine Zd hE (Zk hE rfl (lkb rfl hb83)) (by decide) rfl ?_; intro a hE
           refine Zd hE (Zk hE rfl (lkb rfl hb83)) (by decide) rfl ?_; intro a hE
           refine Zh hE (Zk hE rfl (lkb rfl hb83)) (by decide) rfl rfl rfl ?_; intro a hE
           refine YP hE Za (dl rfl) (lkb rfl hb83) rfl ?_; intro a hE
           refine Zj ?_
           have ht85 := Option.some.inj hl77
           subst ht85
           refine Zl ?_
           have hM := hM.pull (pre := [_, _, _, _, _, _, _])
           have hM := hM.pull (pre := [_, _, _, _, _, _, _])
           have hM := hM.pull (pre := [_, _, _, _, _, _, _])
           have hM := hM.pull (pre := [_, _, _, _, _, _, _])
           have hM := M.fst (l := [_, _, _, _]) hM
           exact ⟨hE.sub ⟨rfl, rfl, rfl, rfl, rfl, rfl, trivial⟩, hM⟩
        ·skip
         rintro a w ⟨hE, hM⟩
         refine Zt hE rfl ?_ ?_
         ·intro hb86
          have hF78 := ZA hF78 hb86
          refine Zc (Ze hE Za (dl rfl) rfl ?_); intro a hE
          refine Zf ?_
          have hr := Option.some.inj hF78
          subst hr
          have hM := M.fst (l := []) hM
          exact wp_ret (ZL (Zy hE rfl (Zu hE rfl) ⟨_, rfl, rfl, hM.kept⟩))
         ·intro hb86
          have hF78 := Zz hF78 hb86
          refine wp_skip (Zx (Zc (Ze hE Za (dl rfl) rfl ?_))); intro a hE
          refine Zf (Zc (Zd hE Za (dl rfl) rfl ?_)); intro a hE
          refine Zd hE Za (dl rfl) rfl ?_; intro a hE
          have hM := hM.pull (pre := [_, _, _])
          have hM := hM.toOwn noB
          obtain ⟨r87, e88, hF78⟩ := bind_some hF78
          refine Zw (vs := [u39, (vI 1)]) hE Za (dl rfl) rfl cb26 (c_laws_markByteS _ _ _ _ j36.2 u39 1 hM r87 e88) ?_
          rintro v w a ⟨rfl, hM⟩ hE
          refine Ze hE Za (dl rfl) rfl ?_; intro a hE
          refine Zf (Zc (Ze hE Za (dl rfl) rfl ?_)); intro a hE
          refine Zf (Zc (Zd hE Za (dl rfl) rfl ?_)); intro a hE
          refine Zd hE Za (dl rfl) rfl ?_; intro a hE
          obtain ⟨r89, e90, hF78⟩ := bind_some hF78
          refine Zw (vs := [u39, (vI 1)]) hE Za (dl rfl) rfl cb27 (c_laws_heldByteS _ r87.1 u39 (hM.ro (pre := []) noB) 1 r89 e90) ?_
          rintro v w a ⟨rfl, hK⟩ hE
          have hM := hM.keep hK
          refine Ze hE Za (dl rfl) rfl ?_; intro a hE
          refine Zf (wp_seq (Zc (Zd hE Za (dl rfl) rfl ?_))); intro a hE
          refine Zh hE Za (dl rfl) rfl rfl rfl ?_; intro a hE
          refine Zf ?_
          refine Zt hE rfl ?_ ?_
          ·intro hb91
           have hF78 := ZA hF78 hb91
           refine Zc (Ze hE Za (dl rfl) rfl ?_); intro a hE
           refine Zf ?_
           have hr := Option.some.inj hF78
           subst hr
           have hM := M.fst (l := []) hM
           exact wp_ret (ZL (Zy hE rfl (Zu hE rfl) ⟨_, rfl, rfl, hM.kept⟩))
          ·intro hb91
           have hF78 := Zz hF78 hb91
           refine wp_skip (Zx (wp_seq (Zc (Zd hE Za (dl rfl) rfl ?_)))); intro a hE
           refine Zd hE Za (dl rfl) rfl ?_; intro a hE
           refine Zh hE Za (dl rfl) rfl rfl rfl ?_; intro a hE
           refine Zf ?_
           refine Zt hE rfl ?_ ?_
           ·intro hb92
            have hF78 := ZA hF78 hb92
            refine Zc (Ze hE Za (dl rfl) rfl ?_); intro a hE
            refine Zf ?_
            have hr := Option.some.inj hF78
            subst hr
            have hM := M.fst (l := []) hM
            exact wp_ret (ZL (Zy hE rfl (Zu hE rfl) ⟨_, rfl, rfl, hM.kept⟩))
           ·intro hb92
            have hF78 := Zz hF78 hb92
            refine wp_skip (Zx ?_)
            obtain ⟨j93, hl94, hF95⟩ := bind_some hF78
            refine ZS (fun a w => ∃ (u96 : Value), Env 104 a [(6, u11), (7, (vI j8.2)), (9, u39), (12, (vI r87.2)), (14, u96), (15, (vI j93.2))] ∧ M (Old w0) w0 w [own NoB (r87.1 : (List UInt8)) [u39], osl NoB (j8.1 : List UInt8) u11, osl NoB (j93.1 : List UInt8) u96]) ?_ ?_
            ·skip
             obtain ⟨r99, e100, hl94⟩ := bind_some hl94
             obtain ⟨r105, e106, hl94⟩ := bind_some hl94
             obtain ⟨r107, e108, hl94⟩ := bind_some hl94
             refine WA (n := 104) (hd := [_, _, _, _, _, _, _, _, _]) (tl := [_]) YB rfl rfl [80, 81, 82, 83, 84, 79, 85, 86, 14] (by decide) (fun D u w => M (Old w0) w0 w ([own NoB (r87.1 : (List UInt8)) [u39], raw b3 (Flat.enc p1), raw b1 (cat [[v0_1], [v0_2], [v0_3]]), osl NoB (j8.1 : List UInt8) u11] ++ qL ([mkO 1 (fun v => own NoB r99 (Value.cells v).toList), mkO 4 (fun v => osl NoB (r107.1 : List UInt8) (Z2 v 0))] : Mk) D u) ∧ GOk ([([], fun us v => v = (Value.agg (cat [[v0_1], [v0_2], [v0_3]]).toArray)), ([], fun us v => ∃ cs, v = .agg cs), ([], fun us v => v = (Value.agg (Flat.enc p1).toArray)), ([], fun us v => v = (Value.agg (Flat.enc r105).toArray)), ([], fun us v => v = (Value.tuple [(Z2 v 0), (vI r107.2)].toArray)), ([4], fun us v => v = (Value.tuple [(Z2 (us.getD 0 undef) 0), (vI r107.2)].toArray)), ([4], fun us v => v = (Z2 (us.getD 0 undef) 0)), ([], fun us v => v = (vI r107.2)), ([4], fun us v => v = (Z2 (us.getD 0 undef) 0))] : Gs) D u) hE (fun u => ⟨M.qE (M.qE (M.q0 hM.drew u) emO) emO, gok0⟩) (ZH (Zb ?_ (Zb ?_ (Zb ?_ (Zb ?_ (Zb ?_ (Zb ?_ (Zb ?_ (Zb ?_ (Zb ?_ ZD)))))))))) ?_
             ·intro a w ux98 D hE hI hD hdc hp
              have hM0 := hI.1
              have hM := hI.1
              exact Zp (cs := cat [[v0_1], [v0_2], [v0_3]]) hE Za (dl rfl) rfl ty48 rfl (hM.rawAt (pre := [_, _])) (ZR (cl1 (n := 1) (m := 2) rfl (cl1 (n := 1) (m := 1) rfl (cl1 (n := 1) (m := 0) rfl cl0)))) fun a hE => ⟨_, _, rfl, hE, M.qKeep hM0 rfl, hI.2.put hD rfl ZE rfl⟩
             ·intro a w ux98 D hE hI hD hdc hp
              have d0 : D 0 = true := hp 0 _ rfl rfl
              have g0 := hI.2 0 d0 _ rfl
              have f0 : ux98 0 = (Value.agg (cat [[v0_1], [v0_2], [v0_3]]).toArray) := g0.2
              have hM0 := hI.1
              have hM := hI.1
              refine Zw (vs := [(Value.agg (cat [[v0_1], [v0_2], [v0_3]]).toArray)]) hE Za (dl rfl) (Z0 (ZY (lk rfl f0) Xf)) cb20 (Uu _ p0 v0_1 (hM.rdo hv0_1) v0_2 (hM.rdo hv0_2) v0_3 (hM.rdo hv0_3) r99 e100) ?_
              rintro _ w a ⟨u101, u102, u103, rfl, hFr, hK⟩ hE
              have hM := hM0.add hK hFr
              have hM := hM.pull (pre := [_, _])
              have hM := hM.pull (pre := [_, _])
              have hM := hM.pull (pre := [_, _])
              have hM := hM.packL (m := [osl NoB (r99.Keys : List (Vector UInt8 32)) u101, osl NoB (r99.Data : List (List UInt8)) u102, osl NoB (r99.Counts : List Int) u103]) (it := own NoB r99 (cat [[u101], [u102], [u103]])) (Xg noB) (fun fp h => by obtain ⟨_, _, rfl, _, s1, _, _, rfl, _, s2, _, _, rfl, _, s3, rfl⟩ := h; exact pk_GBlobs (XL.sat s1) (XL.sat s2) (XL.sat s3) (by simp))
              exact ⟨_, _, rfl, hE, M.qFill (mk1 := []) (mk2 := [_]) (f := (fun v => own NoB r99 (Value.cells v).toList)) hM rfl hD, hI.2.put hD rfl ZE ⟨_, rfl⟩⟩
             ·intro a w ux98 D hE hI hD hdc hp
              have hM0 := hI.1
              have hM := hI.1
              exact Zp (cs := Flat.enc p1) hE Za (dl rfl) rfl ty24 rfl (hM.rawAt (pre := [_])) (Flat.len _) fun a hE => ⟨_, _, rfl, hE, M.qKeep hM0 rfl, hI.2.put hD rfl ZE rfl⟩
             ·intro a w ux98 D hE hI hD hdc hp
              have d2 : D 2 = true := hp 0 _ rfl rfl
              have g2 := hI.2 2 d2 _ rfl
              have f2 : ux98 2 = (Value.agg (Flat.enc p1).toArray) := g2.2
              have hM0 := hI.1
              refine Zw (vs := [(Value.agg (Flat.enc p1).toArray)]) hE Za (dl rfl) (Z0 (ZY (lk rfl f2) Xf)) cb21 (Uf _ p1 r105 e106) ?_
              rintro v w a ⟨rfl, hK⟩ hE
              exact ⟨_, _, rfl, hE, M.qKeep (hM0.keep hK) rfl, hI.2.put hD rfl ZE rfl⟩
             ·intro a w ux98 D hE hI hD hdc hp
              have d1 : D 1 = true := hp 0 _ rfl rfl
              have g1 := hI.2 1 d1 _ rfl
              have d3 : D 3 = true := hp 1 _ rfl rfl
              have g3 := hI.2 3 d3 _ rfl
              have f3 : ux98 3 = (Value.agg (Flat.enc r105).toArray) := g3.2
              have hM0 := hI.1
              have hM : M (Old w0) w0 w [own NoB (r87.1 : (List UInt8)) [u39], raw b3 (Flat.enc p1), raw b1 (cat [[v0_1], [v0_2], [v0_3]]), osl NoB (j8.1 : List UInt8) u11, opt (D 1) (own NoB r99 (Value.cells (ux98 1)).toList), opt (D 4) (osl NoB (r107.1 : List UInt8) (Z2 (ux98 4) 0))] := hI.1
              have hM := hM.sure (pre := [_, _, _, _]) d1
              obtain ⟨q1_0_1, q1_0_2, q1_0_3, hcz, hq1_0_1, hq1_0_2, hq1_0_3⟩ := un_GBlobs (hM.ro (pre := [_, _, _, _]) noB)
              obtain ⟨cz, hvz⟩ := (hI.2 1 (by assumption) _ rfl).2
              have qK104 : (ux98 1) = (Value.agg (cat [[q1_0_1], [q1_0_2], [q1_0_3]]).toArray) := by rw [hvz] at hcz ⊢; exact congrArg Value.agg (toList_eq hcz)
              refine Zw (vs := [(Value.agg (cat [[q1_0_1], [q1_0_2], [q1_0_3]]).toArray), (Value.agg (Flat.enc r105).toArray)]) hE Za (dl rfl) (Z0 (ZY (lk rfl qK104) (ZY (lk rfl f3) Xf))) cb22 (c_impl_GetBlob _ r99 q1_0_1 hq1_0_1 q1_0_2 hq1_0_2 q1_0_3 hq1_0_3 r105 r107 e108) ?_
              rintro _ w a ⟨u109, rfl, hFr, hK⟩ hE
              have hM := hM0.add hK hFr
              exact ⟨_, _, rfl, hE, M.qFill (mk1 := [_]) (mk2 := []) (f := (fun v => osl NoB (r107.1 : List UInt8) (Z2 v 0))) hM rfl hD, hI.2.put hD rfl ZE rfl⟩
             ·intro a w ux98 D hE hI hD hdc hp
              have d4 : D 4 = true := hp 0 _ rfl rfl
              have g4 := hI.2 4 d4 _ rfl
              have f4 : ux98 4 = (Value.tuple [(Z2 (ux98 4) 0), (vI r107.2)].toArray) := g4.2
              have hM0 := hI.1
              refine Zd hE Za (dl rfl) (lk rfl f4) ?_; intro a hE
              exact ⟨_, _, rfl, hE, M.qKeep hM0 rfl, hI.2.put hD rfl (allC d4 ZE) rfl⟩
             ·intro a w ux98 D hE hI hD hdc hp
              have d5 : D 5 = true := hp 0 _ rfl rfl
              have g5 := hI.2 5 d5 _ rfl
              have d4 : D 4 = true := g5.1 4 (show 4 ∈ [4] by decide)
              have f5 : ux98 5 = (Value.tuple [(Z2 (ux98 4) 0), (vI r107.2)].toArray) := g5.2
              have hM0 := hI.1
              refine Xy hE Za (dl rfl) (lk rfl f5) rfl ?_; intro a hE
              exact ⟨_, _, rfl, hE, M.qKeep hM0 rfl, hI.2.put hD rfl (allC d4 ZE) rfl⟩
             ·intro a w ux98 D hE hI hD hdc hp
              have d5 : D 5 = true := hp 0 _ rfl rfl
              have g5 := hI.2 5 d5 _ rfl
              have d4 : D 4 = true := g5.1 4 (show 4 ∈ [4] by decide)
              have f5 : ux98 5 = (Value.tuple [(Z2 (ux98 4) 0), (vI r107.2)].toArray) := g5.2
              have hM0 := hI.1
              exact Xy hE Za (dl rfl) (lk rfl f5) rfl fun a hE => ⟨_, _, rfl, hE, M.qKeep hM0 rfl, hI.2.put hD rfl ZE rfl⟩
             ·intro a w ux98 D hE hI hD hdc hp
              have d6 : D 6 = true := hp 0 _ rfl rfl
              have g6 := hI.2 6 d6 _ rfl
              have d4 : D 4 = true := g6.1 4 (show 4 ∈ [4] by decide)
              have f6 : ux98 6 = (Z2 (ux98 4) 0) := g6.2
              have hM0 := hI.1
              refine Ze hE Za (dl rfl) (lk rfl f6) ?_; intro a hE
              exact ⟨_, _, rfl, hE, M.qKeep hM0 rfl, hI.2.put hD rfl (allC d4 ZE) rfl⟩
             ·intro a w ux98 D hE hI hall
              have hM : M (Old w0) w0 w [own NoB (r87.1 : (List UInt8)) [u39], raw b3 (Flat.enc p1), raw b1 (cat [[v0_1], [v0_2], [v0_3]]), osl NoB (j8.1 : List UInt8) u11, opt (D 1) (own NoB r99 (Value.cells (ux98 1)).toList), opt (D 4) (osl NoB (r107.1 : List UInt8) (Z2 (ux98 4) 0))] := hI.1
              have d0 : D 0 = true := hall 0 (by decide)
              have d1 : D 1 = true := hall 1 (by decide)
              have d2 : D 2 = true := hall 2 (by decide)
              have d3 : D 3 = true := hall 3 (by decide)
              have d4 : D 4 = true := hall 4 (by decide)
              have d5 : D 5 = true := hall 5 (by decide)
              have d6 : D 6 = true := hall 6 (by decide)
              have d7 : D 7 = true := hall 7 (by decide)
              have d8 : D 8 = true := hall 8 (by decide)
              have f0 : ux98 0 = (Value.agg (cat [[v0_1], [v0_2], [v0_3]]).toArray) := (hI.2 0 d0 _ rfl).2
              have f2 : ux98 2 = (Value.agg (Flat.enc p1).toArray) := (hI.2 2 d2 _ rfl).2
              have f3 : ux98 3 = (Value.agg (Flat.enc r105).toArray) := (hI.2 3 d3 _ rfl).2
              have f4 : ux98 4 = (Value.tuple [(Z2 (ux98 4) 0), (vI r107.2)].toArray) := (hI.2 4 d4 _ rfl).2
              have f5 : ux98 5 = (Value.tuple [(Z2 (ux98 4) 0), (vI r107.2)].toArray) := (hI.2 5 d5 _ rfl).2
              have f6 : ux98 6 = (Z2 (ux98 4) 0) := (hI.2 6 d6 _ rfl).2
              have f7 : ux98 7 = (vI r107.2) := (hI.2 7 d7 _ rfl).2
              have f8 : ux98 8 = (Z2 (ux98 4) 0) := (hI.2 8 d8 _ rfl).2
              have hM := hM.sure (pre := [_, _, _, _]) d1
              have hM := hM.sure (pre := [_, _, _, _, _]) d4
              obtain ⟨q1_0_1, q1_0_2, q1_0_3, hcz, _, _, _⟩ := un_GBlobs (hM.ro (pre := [_, _, _, _]) noB)
              obtain ⟨cz, hvz⟩ := (hI.2 1 d1 _ rfl).2
              have qK104 : (ux98 1) = (Value.agg (cat [[q1_0_1], [q1_0_2], [q1_0_3]]).toArray) := by rw [hvz] at hcz ⊢; exact congrArg Value.agg (toList_eq hcz)
              have hM := hM.pull (pre := [_, _, _, _])
              rw [qK104] at hM
              have hM := hM.unpackL (m := [own NoB (r99.Keys : (List (Vector UInt8 32))) [q1_0_1], own NoB (r99.Data : (List (List UInt8))) [q1_0_2], own NoB (r99.Counts : (List Int)) [q1_0_3]]) (fun fp h => by obtain ⟨_, _, _, rfl, s1, s2, s3⟩ := unc_GBlobs h; exact (Xa.cons (Xg noB) s1 (Xa.cons (Xg noB) s2 (Xa.one (Xg noB) s3))))
              simp only [List.cons_append, List.nil_append] at hM
              have hE := hE.sub (e' := [(81, (Value.agg (cat [[q1_0_1], [q1_0_2], [q1_0_3]]).toArray)), (86, (vI r107.2)), (14, (Z2 (ux98 4) 0)), (2, (ptr b1 0)), (3, (ptr b3 0)), (6, u11), (7, (vI j8.2)), (9, u39), (12, (vI r87.2)), (13, (vI r89)), (67, (vT j76)), (68, u39), (69, (vI 1)), (70, (vI r87.2)), (71, u39), (72, (vI 1)), (73, (vI r89)), (74, (vI r89)), (75, (vT (decide (r89 < 0)))), (76, (vI r89)), (77, (vI r87.2)), (78, (vT (r89 != r87.2)))]) ⟨lk rfl qK104, lk rfl f7, lk rfl f8, rfl, rfl, rfl, rfl, rfl, rfl, rfl, rfl, rfl, rfl, rfl, rfl, rfl, rfl, rfl, rfl, rfl, rfl, rfl, trivial⟩
              refine Ze hE Za (dl rfl) rfl ?_; intro a hE
              refine Zj ?_
              have ht113 := Option.some.inj hl94
              subst ht113
              refine Zl ?_
              have hM := hM.pull (pre := [_, _, _, _, _, _, _])
              have hM := hM.pull (pre := [_, _, _, _, _, _, _])
              have hM := hM.pull (pre := [_, _, _, _, _])
              have hM := M.fst (l := [_, _, _]) hM
              exact ⟨(Z2 (ux98 4) 0), hE.sub ⟨rfl, rfl, rfl, rfl, rfl, rfl, trivial⟩, hM⟩
            ·skip
             rintro a w ⟨u96, hE, hM⟩
             refine wp_seq ?_
             obtain ⟨j114, hl115, hF116⟩ := bind_some hF95
             refine ZS (fun a w => Env 104 a [(9, u39), (12, (vI r87.2)), (95, (vT j114))] ∧ M (Old w0) w0 w [own NoB (r87.1 : (List UInt8)) [u39]]) ?_ ?_
             ·skip
              refine wp_region_lit (Zd hE Za (dl rfl) rfl ?_); intro a hE
              refine Zd hE Za (dl rfl) rfl ?_; intro a hE
              obtain ⟨r117, e118, hl115⟩ := bind_some hl115
              refine Zw (vs := [u96, u11]) hE Za (dl rfl) rfl cb23 (UG _ j93.1 u96 (hM.sl (pre := [_, _]) noB) j8.1 u11 (hM.sl (pre := [_]) noB) r117 e118) ?_
              rintro v w a ⟨rfl, hK⟩ hE
              have hM := hM.keep hK
              refine Uo hE Za (dl rfl) rfl ?_; intro a hE
              refine Zd hE Za (dl rfl) rfl ?_; intro a hE
              refine WE (!r117) (fun hb119 => ?_) (fun hb119 => ?_)
              ·have hl115 := ZA hl115 hb119
               refine Zn hE rfl (lkb rfl hb119) rfl (by decide) ?_; intro a hE
               refine Zn hE rfl (lkb rfl hb119) rfl (by decide) ?_; intro a hE
               refine Zn hE rfl (lkb rfl hb119) rfl (by decide) ?_; intro a hE
               refine Yn hE Za (dl rfl) (lkb rfl hb119) rfl ?_; intro a hE
               refine Zj ?_
               have ht120 := Option.some.inj hl115
               subst ht120
               refine Zl ?_
               have hM := M.fst (l := [_]) hM
               exact ⟨hE.sub ⟨rfl, rfl, rfl, trivial⟩, hM⟩
              ·have hl115 := Zz hl115 hb119
               refine Zd hE (Zk hE rfl (lkb rfl hb119)) (by decide) rfl ?_; intro a hE
               refine Zd hE (Zk hE rfl (lkb rfl hb119)) (by decide) rfl ?_; intro a hE
               refine Zh hE (Zk hE rfl (lkb rfl hb119)) (by decide) rfl rfl rfl ?_; intro a hE
               refine YP hE Za (dl rfl) (lkb rfl hb119) rfl ?_; intro a hE
               refine Zj ?_
               have ht121 := Option.some.inj hl115
               subst ht121
               refine Zl ?_
               have hM := M.fst (l := [_]) hM
               exact ⟨hE.sub ⟨rfl, rfl, rfl, trivial⟩, hM⟩
             ·skip
              rintro a w ⟨hE, hM⟩
              refine Zt hE rfl ?_ ?_
              ·intro hb122
               have hF116 := ZA hF116 hb122
               refine Zc (Ze hE Za (dl rfl) rfl ?_); intro a hE
               refine Zf ?_
               have hr := Option.some.inj hF116
               subst hr
               have hM := M.fst (l := []) hM
               exact wp_ret (ZL (Zy hE rfl (Zu hE rfl) ⟨_, rfl, rfl, hM.kept⟩))
              ·intro hb122
               have hF116 := Zz hF116 hb122
               refine wp_skip (Zx (Zc (Ze hE Za (dl rfl) rfl ?_))); intro a hE
               refine Zf (Zc (Zd hE Za (dl rfl) rfl ?_)); intro a hE
               refine Zd hE Za (dl rfl) rfl ?_; intro a hE
               obtain ⟨r123, e124, hF116⟩ := bind_some hF116
               refine Zw (vs := [u39, (vI 1)]) hE Za (dl rfl) rfl cb27 (c_laws_heldByteS _ r87.1 u39 (hM.ro (pre := []) noB) 1 r123 e124) ?_
               rintro v w a ⟨rfl, hK⟩ hE
               have hM := hM.keep hK
               refine Ze hE Za (dl rfl) rfl ?_; intro a hE
               refine Zf (wp_seq (Zc (Zd hE Za (dl rfl) rfl ?_))); intro a hE
               refine Zh hE Za (dl rfl) rfl rfl rfl ?_; intro a hE
               refine Zf ?_
               refine Zt hE rfl ?_ ?_
               ·intro hb125
                have hF116 := ZA hF116 hb125
                refine Zc (Ze hE Za (dl rfl) rfl ?_); intro a hE
                refine Zf ?_
                have hr := Option.some.inj hF116
                subst hr
                have hM := M.fst (l := []) hM
                exact wp_ret (ZL (Zy hE rfl (Zu hE rfl) ⟨_, rfl, rfl, hM.kept⟩))
               ·intro hb125
                have hF116 := Zz hF116 hb125
                refine wp_skip (Zx (wp_seq (Zc (Zd hE Za (dl rfl) rfl ?_)))); intro a hE
                refine Zd hE Za (dl rfl) rfl ?_; intro a hE
                refine Zh hE Za (dl rfl) rfl rfl rfl ?_; intro a hE
                refine Zf ?_
                refine Zt hE rfl ?_ ?_
                ·intro hb126
                 have hF116 := ZA hF116 hb126
                 refine Zc (Ze hE Za (dl rfl) rfl ?_); intro a hE
                 refine Zf ?_
                 have hr := Option.some.inj hF116
                 subst hr
                 have hM := M.fst (l := []) hM
                 exact wp_ret (ZL (Zy hE rfl (Zu hE rfl) ⟨_, rfl, rfl, hM.kept⟩))
                ·intro hb126
                 have hF116 := Zz hF116 hb126
                 refine wp_skip (Zx (Zc (Ze hE Za (dl rfl) rfl ?_))); intro a hE
                 refine Zf ?_
                 have hr := Option.some.inj hF116
                 subst hr
                 have hM := M.fst (l := []) hM
                 exact wp_ret (Zy hE rfl (Zu hE rfl) ⟨_, rfl, rfl, hM.kept⟩)
end Go.Proofs.Ytifdeoikcebbjaa
