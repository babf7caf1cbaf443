/- The walk of what the law reaches: contracts of functions. -/
import Derived.Test.YtifdeoikcebbjaaC3
set_option linter.unusedVariables false
set_option linter.unusedSimpArgs false
set_option maxRecDepth 20000
set_option maxHeartbeats 400000
namespace Go.Proofs.Ytifdeoikcebbjaa
open Go
theorem c_impl_engine_encipherWith (w0 : World) (p0 : (Ref Gengine)) (v0_1 : Value) (hv0_1 : Ro w0 p0 [v0_1]) (p1 : (List (Vector UInt8 16))) (v1_1 : Value) (hv1_1 : Ro w0 p1 [v1_1]) (p2 : (Vector UInt8 16)) (r : (Vector UInt8 16)) (hF : Yu p0 p1 p2 = some r) :
  Calls Try.prog 129 [v0_1, v1_1, (Value.agg (Flat.enc p2).toArray)].toArray w0 (fun en w' => ∃ v, en = .returned v ∧ (v = (Value.agg (Flat.enc r).toArray) ∧ Kept (Old w0) w0 w')) := by
 refine ZC (n := 59) Try.func129 rfl rfl (Nat.le_of_ble_eq_true rfl) rfl ?_
 intro a hE
 have hM := M.start w0
 unfold Yu at hF
 refine Zc (Z5 (cs := Flat.enc p2) hE hM Za (dl rfl) rfl rfl ?_); intro b1 w a hM hE
 refine ZO hE hM Za (dl rfl) ZP ?_; intro b3 w a hM hE
 refine Zf ?_
 obtain ⟨j5, hl6, hF7⟩ := bind_some hF
 refine ZS (fun a w => Env 59 a [(0, v0_1), (1, v1_1), (5, (ptr b1 0)), (6, (ptr b3 0))] ∧ M (Old w0) w0 w [raw b3 (Flat.enc (Vector.replicate 16 (0 : UInt8))), raw b1 (Flat.enc j5)]) ?_ ?_
 ·skip
  obtain ⟨x9, e10, hl6⟩ := bind_some hl6
  have hi11 := ZQ e10
  obtain ⟨r12, e13, hl6⟩ := bind_some hl6
  refine Ye (n := 59) (hd := [_, _, _, _, _]) (tl := [_]) YB rfl rfl [10, 11, 12, 13, 14] (by decide) (fun w => M (Old w0) w0 w [raw b3 (Flat.enc (Vector.replicate 16 (0 : UInt8))), raw b1 (Flat.enc p2)]) (fun j => ([fun v _ => v = (Value.agg (Flat.enc p2).toArray), fun v _ => v = v1_1, fun v _ => v = (ptr (sb v1_1) (so v1_1 + ((0 : Int)).toNat * 16)), fun v _ => v = (Value.agg (Flat.enc x9).toArray), fun v _ => v = (Value.agg (Flat.enc r12).toArray)] : List (Value → World → Prop)).getD j (fun _ _ => True)) (fun _ _ h hk => h.keep hk) (gup (Zg (Zg (Zg (Zg (Zg Ww)))))) hE hM.drew (ZH (Zb ?_ (Zb ?_ (Zb ?_ (Zb ?_ (Zb ?_ ZD)))))) ?_
  ·intro a w ux8 hE hM hp
   refine Zp (cs := Flat.enc p2) hE Za (dl rfl) rfl ZP rfl (hM.rawAt (pre := [_])) (Flat.len _) ?_; intro a hE
   exact ⟨Kept.refl _ _, _, _, rfl, hE, rfl⟩
  ·intro a w ux8 hE hM hp
   refine Zd hE Za (dl rfl) rfl ?_; intro a hE
   exact ⟨Kept.refl _ _, _, _, rfl, hE, rfl⟩
  ·intro a w ux8 hE hM hp
   have f1 : ux8 1 = v1_1 := hp 0 _ rfl rfl
   refine ZK hE Za (dl rfl) (lk rfl f1) rfl Try.underlying34 ZP (hM.rd hv1_1) hi11.1 ?_; intro a hE
   exact ⟨Kept.refl _ _, _, _, rfl, hE, rfl⟩
  ·intro a w ux8 hE hM hp
   have f2 : ux8 2 = (ptr (sb v1_1) (so v1_1 + ((0 : Int)).toNat * 16)) := hp 0 _ rfl rfl
   refine Zp (cs := Flat.enc x9) hE Za (dl rfl) (lk rfl f2) ZP rfl (Yr (hM.rd hv1_1) hi11.2) (Flat.len _) ?_; intro a hE
   exact ⟨Kept.refl _ _, _, _, rfl, hE, rfl⟩
  ·intro a w ux8 hE hM hp
   have f0 : ux8 0 = (Value.agg (Flat.enc p2).toArray) := hp 0 _ rfl rfl
   have f3 : ux8 3 = (Value.agg (Flat.enc x9).toArray) := hp 1 _ rfl rfl
   refine Zw (vs := [(Value.agg (Flat.enc p2).toArray), (Value.agg (Flat.enc x9).toArray)]) hE Za (dl rfl) (Z0 (ZZ (lk rfl f0) (ZZ (lk rfl f3) Xh))) cb114 (XX _ p2 x9 r12 e13) ?_
   rintro v w a ⟨rfl, hK⟩ hE
   exact ⟨hK, _, _, rfl, hE, rfl⟩
  ·intro a w ux8 hE hM hg
   have f0 : ux8 0 = (Value.agg (Flat.enc p2).toArray) := hg 0 (by decide)
   have f1 : ux8 1 = v1_1 := hg 1 (by decide)
   have f2 : ux8 2 = (ptr (sb v1_1) (so v1_1 + ((0 : Int)).toNat * 16)) := hg 2 (by decide)
   have f3 : ux8 3 = (Value.agg (Flat.enc x9).toArray) := hg 3 (by decide)
   have f4 : ux8 4 = (Value.agg (Flat.enc r12).toArray) := hg 4 (by decide)
   have hE := hE.sub (e' := [(10, (Value.agg (Flat.enc p2).toArray)), (11, v1_1), (12, (ptr (sb v1_1) (so v1_1 + ((0 : Int)).toNat * 16))), (13, (Value.agg (Flat.enc x9).toArray)), (14, (Value.agg (Flat.enc r12).toArray)), (0, v0_1), (1, v1_1), (2, (Value.agg (Flat.enc p2).toArray)), (5, (ptr b1 0)), (6, (ptr b3 0))]) ⟨lk rfl f0, lk rfl f1, lk rfl f2, lk rfl f3, lk rfl f4, rfl, rfl, rfl, rfl, rfl, trivial⟩
   have hM := hM.pull (pre := [_])
   refine Zs (seg := Flat.enc r12) (cs' := Flat.enc r12) hE hM Za rfl rfl rfl ZP (Flat.len _) (zle flq) (Flat.cell _) (Zq flq) ?_; intro w a hM hE
   refine Zj ?_
   have ht14 := Option.some.inj hl6
   subst ht14
   refine Zl ?_
   have hM := hM.pull (pre := [_])
   exact ⟨hE.sub ⟨rfl, rfl, rfl, rfl, trivial⟩, hM⟩
 ·skip
  rintro a w ⟨hE, hM⟩
  refine wp_seq (Zc (Ze hE Za (dl rfl) rfl ?_)); intro a hE
  refine Zf ?_
  obtain ⟨j15, hl16, hF17⟩ := bind_some hF7
  refine ZW (fun a w => Env 59 a [(5, (ptr b1 0)), (6, (ptr b3 0))] ∧ M (Old w0) w0 w [raw b3 (Flat.enc (Vector.replicate 16 (0 : UInt8))), raw b1 (Flat.enc j15)]) ?_ ?_
  ·skip
   refine wp_block ?_
   refine ZM (fun (s18 : (Vector UInt8 16) × Int) a w => Env 59 a [(0, v0_1), (1, v1_1), (5, (ptr b1 0)), (6, (ptr b3 0)), (7, (vI s18.2))] ∧ M (Old w0) w0 w [raw b3 (Flat.enc (Vector.replicate 16 (0 : UInt8))), raw b1 (Flat.enc s18.1)]) hl16 ⟨hE.sub ⟨rfl, rfl, rfl, rfl, rfl, trivial⟩, hM⟩ ?_
   rintro s18 a w ⟨hE, hM⟩ o21 hs19 hx20
   unfold Yg at hs19
   refine wp_seq (Zc (Zd hE Za (dl rfl) rfl ?_)); intro a hE
   refine Zd hE Za (dl rfl) rfl ?_; intro a hE
   refine Z8 hE Za (dl rfl) rfl Try.underlying34 (hM.rd hv1_1) ?_; intro a hE
   refine Zh hE Za (dl rfl) rfl rfl rfl ?_; intro a hE
   refine Zf ?_
   refine Zt hE rfl ?_ ?_
   ·intro hb22
    have hs19 := Zz hs19 hb22
    refine wp_skip (Zx ?_)
    obtain ⟨j23, hl24, hF25⟩ := bind_some hs19
    refine ZS (fun a w => Env 59 a [(0, v0_1), (1, v1_1), (5, (ptr b1 0)), (6, (ptr b3 0)), (7, (vI s18.2))] ∧ M (Old w0) w0 w [raw b3 (Flat.enc (Vector.replicate 16 (0 : UInt8))), raw b1 (Flat.enc j23)]) ?_ ?_
    ·skip
     refine wp_block (wp_seq (Zc (Zp (cs := Flat.enc s18.1) hE Za (dl rfl) rfl ZP rfl (hM.rawAt (pre := [_])) (Flat.len _) ?_))); intro a hE
     refine Zd hE Za (dl rfl) rfl ?_; intro a hE
     refine Zf ?_
     obtain ⟨j26, hl27, hF28⟩ := bind_some hl24
     refine ZW (fun a w => Env 59 a [(0, v0_1), (1, v1_1), (5, (ptr b1 0)), (6, (ptr b3 0)), (7, (vI s18.2))] ∧ M (Old w0) w0 w [raw b3 (Flat.enc (Vector.replicate 16 (0 : UInt8))), raw b1 (Flat.enc j26)]) ?_ ?_
     ·skip
      refine wp_block ?_
      refine ZM (fun (s29 : (Vector UInt8 16) × Int) a w => Env 59 a [(0, v0_1), (1, v1_1), (5, (ptr b1 0)), (6, (ptr b3 0)), (7, (vI s18.2)), (21, (Value.agg (Flat.enc s18.1).toArray)), (22, (vI s29.2))] ∧ M (Old w0) w0 w [raw b3 (Flat.enc (Vector.replicate 16 (0 : UInt8))), raw b1 (Flat.enc s29.1)]) hl27 ⟨hE.sub ⟨rfl, rfl, rfl, rfl, rfl, rfl, rfl, trivial⟩, hM⟩ ?_
      rintro s29 a w ⟨hE, hM⟩ o32 hs30 hx31
      unfold Yf at hs30
      refine Zc (Zh hE Za (dl rfl) rfl rfl rfl ?_); intro a hE
      refine Zf (wp_seq ?_)
      refine Zt hE rfl ?_ ?_
      ·intro hb33
       have hs30 := Zz hs30 hb33
       refine wp_skip (Zx (wp_seq (wp_block (Zc (Zd hE Za (dl rfl) rfl ?_))))); intro a hE
       obtain ⟨x34, e35, hs30⟩ := bind_some hs30
       have hi36 := Zi e35
       refine s_indexV hE Za (dl rfl) rfl rfl Try.underlying39 ty5 rfl rfl hi36 rfl ?_; intro a hE
       refine Ze hE Za (dl rfl) rfl ?_; intro a hE
       refine Ze hE Za (dl rfl) rfl ?_; intro a hE
       refine Zf (wp_region_lit (Zd hE Za (dl rfl) rfl ?_)); intro a hE
       refine Zd hE Za (dl rfl) rfl ?_; intro a hE
       refine Zd hE Za (dl rfl) rfl ?_; intro a hE
       obtain ⟨pb37, ds38, hv39, hx40, hA41, hB42⟩ := Uc hv0_1 -- ^
       obtain ⟨u43, u45, rfl, h44, h46⟩ := un_Gengine hx40 -- ^
       refine XF hE Za (dl rfl) (lk rfl hv39) ?_; intro a hE
       refine Zo hE Za (dl rfl) rfl (fd152_0) ?_; intro a hE
       obtain ⟨x48, e49, hs30⟩ := bind_some hs30
       have hi47 := Zi e49
       refine Zm hE Za (dl rfl) rfl rfl Try.underlying97 ty5 hi47.1 ?_; intro a hE
       refine Zv (v := (vB x48)) hE Za (dl rfl) rfl ty5 rfl (At.vec (At.cat (pre := []) (hM.atk hA41 hB42) cl0) hi47.2) ?_; intro a hE
       obtain ⟨x51, e52, hs30⟩ := bind_some hs30
       have hi50 := Zi e52
       refine Zm hE Za (dl rfl) rfl rfl Try.underlying39 ty5 hi50.1 ?_; intro a hE
       have hM := hM.pull (pre := [_])
       refine Zs (seg := [(vB x48)]) (cs' := Flat.enc (s29.1.setIfInBounds (s29.2).toNat x48)) hE hM Za rfl rfl rfl ty5 rfl (ZT (v := s29.1) (x := x48) hi50.1) (Flat.cell (x48 : UInt8)) (ZI (v := s29.1) (x := x48) hi50.1) ?_; intro w a hM hE
       refine Zj (Yj (Zx (wp_region_lit (Zh hE Za (dl rfl) rfl rfl rfl ?_)))); intro a hE
       refine Zd hE Za (dl rfl) rfl ?_; intro a hE
       refine Zj (Zl ?_)
       have hM := hM.pull (pre := [_])
       exact ⟨_, (Option.some.inj hs30).symm, hE.sub ⟨rfl, rfl, rfl, rfl, rfl, rfl, rfl, trivial⟩, hM⟩
      ·intro hb33
       have hs30 := ZA hs30 hb33
       refine wp_exit (Zr (Zr (Yk ?_)))
       have ht53 := hx31 _ (Option.some.inj hs30).symm
       subst ht53
       refine Zl ?_
       exact ⟨hE.sub ⟨rfl, rfl, rfl, rfl, rfl, trivial⟩, hM⟩
     ·skip
      rintro a w ⟨hE, hM⟩
      refine Zx ?_
      obtain ⟨j54, hl55, hF56⟩ := bind_some hF28
      refine ZS (fun a w => Env 59 a [(0, v0_1), (1, v1_1), (5, (ptr b1 0)), (6, (ptr b3 0)), (7, (vI s18.2))] ∧ M (Old w0) w0 w [raw b3 (Flat.enc (Vector.replicate 16 (0 : UInt8))), raw b1 (Flat.enc j54)]) ?_ ?_
      ·skip
       obtain ⟨pb58, ds59, hv60, hx61, hA62, hB63⟩ := Uc hv0_1 -- ^
       obtain ⟨u64, u66, rfl, h65, h67⟩ := un_Gengine hx61 -- ^
       obtain ⟨r68, e69, hl55⟩ := bind_some hl55
       refine Ye (n := 59) (hd := [_, _, _, _, _, _]) (tl := [_]) YB rfl rfl [35, 36, 37, 38, 39, 40] (by decide) (fun w => M (Old w0) w0 w [raw b3 (Flat.enc (Vector.replicate 16 (0 : UInt8))), raw b1 (Flat.enc j26)]) (fun j => ([fun v _ => v = v0_1, fun v _ => v = (ptr pb58 0), fun v _ => v = (ptr pb58 (0 + 512)), fun v _ => v = (Value.agg (Flat.enc p0.v.places).toArray), fun v _ => v = (Value.agg (Flat.enc j26).toArray), fun v _ => v = (Value.agg (Flat.enc r68).toArray)] : List (Value → World → Prop)).getD j (fun _ _ => True)) (fun _ _ h hk => h.keep hk) (gup (Zg (Zg (Zg (Zg (Zg (Zg Ww))))))) hE hM.drew (ZH (Zb ?_ (Zb ?_ (Zb ?_ (Zb ?_ (Zb ?_ (Zb ?_ ZD))))))) ?_
       ·intro a w ux57 hE hM hp
        refine Zd hE Za (dl rfl) rfl ?_; intro a hE
        exact ⟨Kept.refl _ _, _, _, rfl, hE, rfl⟩
       ·intro a w ux57 hE hM hp
        have f0 : ux57 0 = v0_1 := hp 0 _ rfl rfl
        refine XF hE Za (dl rfl) (lk (lk rfl f0) hv60) ?_; intro a hE
        exact ⟨Kept.refl _ _, _, _, rfl, hE, rfl⟩
       ·intro a w ux57 hE hM hp
        have f1 : ux57 1 = (ptr pb58 0) := hp 0 _ rfl rfl
        refine Zo hE Za (dl rfl) (lk rfl f1) (fd152_2) ?_; intro a hE
        exact ⟨Kept.refl _ _, _, _, rfl, hE, rfl⟩
       ·intro a w ux57 hE hM hp
        have f2 : ux57 2 = (ptr pb58 (0 + 512)) := hp 0 _ rfl rfl
        refine Zp (cs := Flat.enc p0.v.places) hE Za (dl rfl) (lk rfl f2) ty101 rfl (At.cat (pre := [Flat.enc p0.v.box, Flat.enc p0.v.backBox]) (hM.atk hA62 hB63) (cl1 (n := 256) (m := 256) (Flat.len _) (cl1 (n := 256) (m := 0) (Flat.len _) cl0))) (Flat.len _) ?_; intro a hE
        exact ⟨Kept.refl _ _, _, _, rfl, hE, rfl⟩
       ·intro a w ux57 hE hM hp
        refine Zp (cs := Flat.enc j26) hE Za (dl rfl) rfl ZP rfl (hM.rawAt (pre := [_])) (Flat.len _) ?_; intro a hE
        exact ⟨Kept.refl _ _, _, _, rfl, hE, rfl⟩
       ·intro a w ux57 hE hM hp
        have f3 : ux57 3 = (Value.agg (Flat.enc p0.v.places).toArray) := hp 0 _ rfl rfl
        have f4 : ux57 4 = (Value.agg (Flat.enc j26).toArray) := hp 1 _ rfl rfl
        refine Zw (vs := [(Value.agg (Flat.enc p0.v.places).toArray), (Value.agg (Flat.enc j26).toArray)]) hE Za (dl rfl) (Z0 (ZZ (lk rfl f3) (ZZ (lk rfl f4) Xh))) cb133 (c_impl_Places_move _ p0.v.places j26 r68 e69) ?_
        rintro v w a ⟨rfl, hK⟩ hE
        exact ⟨hK, _, _, rfl, hE, rfl⟩
       ·intro a w ux57 hE hM hg
        have f0 : ux57 0 = v0_1 := hg 0 (by decide)
        have f1 : ux57 1 = (ptr pb58 0) := hg 1 (by decide)
        have f2 : ux57 2 = (ptr pb58 (0 + 512)) := hg 2 (by decide)
        have f3 : ux57 3 = (Value.agg (Flat.enc p0.v.places).toArray) := hg 3 (by decide)
        have f4 : ux57 4 = (Value.agg (Flat.enc j26).toArray) := hg 4 (by decide)
        have f5 : ux57 5 = (Value.agg (Flat.enc r68).toArray) := hg 5 (by decide)
        have hE := hE.sub (e' := [(35, v0_1), (36, (ptr pb58 0)), (37, (ptr pb58 (0 + 512))), (38, (Value.agg (Flat.enc p0.v.places).toArray)), (39, (Value.agg (Flat.enc j26).toArray)), (40, (Value.agg (Flat.enc r68).toArray)), (0, v0_1), (1, v1_1), (5, (ptr b1 0)), (6, (ptr b3 0)), (7, (vI s18.2))]) ⟨lk rfl f0, lk rfl f1, lk rfl f2, lk rfl f3, lk rfl f4, lk rfl f5, rfl, rfl, rfl, rfl, rfl, trivial⟩
        have hM := hM.pull (pre := [_])
        refine Zs (seg := Flat.enc r68) (cs' := Flat.enc r68) hE hM Za rfl rfl rfl ZP (Flat.len _) (zle flq) (Flat.cell _) (Zq flq) ?_; intro w a hM hE
        refine Zj ?_
        have ht70 := Option.some.inj hl55
        subst ht70
        refine Zl ?_
        have hM := hM.pull (pre := [_])
        exact ⟨hE.sub ⟨rfl, rfl, rfl, rfl, rfl, trivial⟩, hM⟩
      ·skip
       rintro a w ⟨hE, hM⟩
       obtain ⟨j71, hl72, hF73⟩ := bind_some hF56
       refine ZS (fun a w => Env 59 a [(0, v0_1), (1, v1_1), (5, (ptr b1 0)), (6, (ptr b3 0)), (7, (vI s18.2))] ∧ M (Old w0) w0 w [raw b3 (Flat.enc (Vector.replicate 16 (0 : UInt8))), raw b1 (Flat.enc j71)]) ?_ ?_
       ·skip
        refine Zc (Zd hE Za (dl rfl) rfl ?_); intro a hE
        refine Zd hE Za (dl rfl) rfl ?_; intro a hE
        refine Z8 hE Za (dl rfl) rfl Try.underlying34 (hM.rd hv1_1) ?_; intro a hE
        refine Zh hE Za (dl rfl) rfl rfl rfl ?_; intro a hE
        refine Zh hE Za (dl rfl) rfl rfl rfl ?_; intro a hE
        refine Zf ?_
        refine Zt hE rfl ?_ ?_
        ·intro hb74
         have hl72 := Zz hl72 hb74
         obtain ⟨pb76, ds77, hv78, hx79, hA80, hB81⟩ := Uc hv0_1 -- ^
         obtain ⟨u82, u84, rfl, h83, h85⟩ := un_Gengine hx79 -- ^
         obtain ⟨l86, e87, hl72⟩ := bind_some hl72
         have hb88 := slc_arr e87 -- ^
         refine Ye (n := 59) (hd := [_, _, _, _, _]) (tl := [_]) YB rfl rfl [46, 47, 48, 49, 50] (by decide) (fun w => M (Old w0) w0 w [raw b3 (Flat.enc (Vector.replicate 16 (0 : UInt8))), raw b1 (Flat.enc j54)]) (fun j => ([fun v _ => v = v0_1, fun v _ => v = (ptr pb76 0), fun v _ => v = (ptr pb76 (0 + 544)), fun v _ => v = u82, fun v _ => v = (ZU (.slice (some ⟨b1, 0, none⟩) 16 16) ((0 : Int)).toNat ((16 : Int)).toNat 1)] : List (Value → World → Prop)).getD j (fun _ _ => True)) (fun _ _ h hk => h.keep hk) (gup (Zg (Zg (Zg (Zg (Zg Ww)))))) hE hM.drew (ZH (Zb ?_ (Zb ?_ (Zb ?_ (Zb ?_ (Zb ?_ ZD)))))) ?_
         ·intro a w ux75 hE hM hp
          refine Zd hE Za (dl rfl) rfl ?_; intro a hE
          exact ⟨Kept.refl _ _, _, _, rfl, hE, rfl⟩
         ·intro a w ux75 hE hM hp
          have f0 : ux75 0 = v0_1 := hp 0 _ rfl rfl
          refine XF hE Za (dl rfl) (lk (lk rfl f0) hv78) ?_; intro a hE
          exact ⟨Kept.refl _ _, _, _, rfl, hE, rfl⟩
         ·intro a w ux75 hE hM hp
          have f1 : ux75 1 = (ptr pb76 0) := hp 0 _ rfl rfl
          refine Zo hE Za (dl rfl) (lk rfl f1) (fd152_4) ?_; intro a hE
          exact ⟨Kept.refl _ _, _, _, rfl, hE, rfl⟩
         ·intro a w ux75 hE hM hp
          have f2 : ux75 2 = (ptr pb76 (0 + 544)) := hp 0 _ rfl rfl
          refine Zv (v := u82) hE Za (dl rfl) (lk rfl f2) ty149 rfl (At.cat (pre := [Flat.enc p0.v.box, Flat.enc p0.v.backBox, Flat.enc p0.v.places, Flat.enc p0.v.backPlaces]) (hM.atk hA80 hB81) (cl1 (n := 256) (m := 288) (Flat.len _) (cl1 (n := 256) (m := 32) (Flat.len _) (cl1 (n := 16) (m := 16) (Flat.len _) (cl1 (n := 16) (m := 0) (Flat.len _) cl0))))) ?_; intro a hE
          exact ⟨Kept.refl _ _, _, _, rfl, hE, rfl⟩
         ·intro a w ux75 hE hM hp
          refine Uk (N := 16) hE Za (dl rfl) rfl rfl rfl rfl rfl Try.underlying39 ty5 hb88 ?_; intro a hE
          exact ⟨Kept.refl _ _, _, _, rfl, hE, rfl⟩
         ·intro a w ux75 hE hM hg
          have f0 : ux75 0 = v0_1 := hg 0 (by decide)
          have f1 : ux75 1 = (ptr pb76 0) := hg 1 (by decide)
          have f2 : ux75 2 = (ptr pb76 (0 + 544)) := hg 2 (by decide)
          have f3 : ux75 3 = u82 := hg 3 (by decide)
          have f4 : ux75 4 = (ZU (.slice (some ⟨b1, 0, none⟩) 16 16) ((0 : Int)).toNat ((16 : Int)).toNat 1) := hg 4 (by decide)
          have hE := hE.sub (e' := [(46, v0_1), (47, (ptr pb76 0)), (48, (ptr pb76 (0 + 544))), (49, u82), (50, (ZU (.slice (some ⟨b1, 0, none⟩) 16 16) ((0 : Int)).toNat ((16 : Int)).toNat 1)), (0, v0_1), (1, v1_1), (5, (ptr b1 0)), (6, (ptr b3 0)), (7, (vI s18.2)), (41, (vI s18.2)), (42, v1_1), (43, (vI (p1.length : Int))), (44, (vI (wr ((p1.length : Int) - 1)))), (45, (vT (decide (s18.2 < (wr ((p1.length : Int) - 1))))))]) ⟨lk rfl f0, lk rfl f1, lk rfl f2, lk rfl f3, lk rfl f4, rfl, rfl, rfl, rfl, rfl, rfl, rfl, rfl, rfl, rfl, trivial⟩
          have hM := hM.pull (pre := [_])
          obtain ⟨r89, e90, hl72⟩ := bind_some hl72
          refine Zw (vs := [u82, (ZU (.slice (some ⟨b1, 0, none⟩) 16 16) ((0 : Int)).toNat ((16 : Int)).toNat 1)]) hE Za (dl rfl) rfl cb134 (c_impl_mixer_mix _ _ _ _ p0.v.mixer u82 h83 b1 j54 hM r89 e90) ?_
          rintro v w a ⟨rfl, hM⟩ hE
          refine Zj ?_
          have ht91 := Option.some.inj hl72
          subst ht91
          refine Zl ?_
          have hM := hM.pull (pre := [_])
          exact ⟨hE.sub ⟨rfl, rfl, rfl, rfl, rfl, trivial⟩, hM⟩
        ·intro hb74
         have hl72 := ZA hl72 hb74
         refine wp_skip ?_
         have ht92 := Option.some.inj hl72
         subst ht92
         refine Zl ?_
         exact ⟨hE.sub ⟨rfl, rfl, rfl, rfl, rfl, trivial⟩, hM⟩
       ·skip
        rintro a w ⟨hE, hM⟩
        obtain ⟨x94, e95, hF73⟩ := bind_some hF73
        have hi96 := ZQ e95
        obtain ⟨r97, e98, hF73⟩ := bind_some hF73
        refine Ye (n := 59) (hd := [_, _, _, _, _, _]) (tl := [_]) YB rfl rfl [52, 53, 54, 55, 56, 57] (by decide) (fun w => M (Old w0) w0 w [raw b3 (Flat.enc (Vector.replicate 16 (0 : UInt8))), raw b1 (Flat.enc j71)]) (fun j => ([fun v _ => v = (Value.agg (Flat.enc j71).toArray), fun v _ => v = v1_1, fun v _ => v = (vI s18.2), fun v _ => v = (ptr (sb v1_1) (so v1_1 + (s18.2).toNat * 16)), fun v _ => v = (Value.agg (Flat.enc x94).toArray), fun v _ => v = (Value.agg (Flat.enc r97).toArray)] : List (Value → World → Prop)).getD j (fun _ _ => True)) (fun _ _ h hk => h.keep hk) (gup (Zg (Zg (Zg (Zg (Zg (Zg Ww))))))) hE hM.drew (ZH (Zb ?_ (Zb ?_ (Zb ?_ (Zb ?_ (Zb ?_ (Zb ?_ ZD))))))) ?_
        ·intro a w ux93 hE hM hp
         refine Zp (cs := Flat.enc j71) hE Za (dl rfl) rfl ZP rfl (hM.rawAt (pre := [_])) (Flat.len _) ?_; intro a hE
         exact ⟨Kept.refl _ _, _, _, rfl, hE, rfl⟩
        ·intro a w ux93 hE hM hp
         refine Zd hE Za (dl rfl) rfl ?_; intro a hE
         exact ⟨Kept.refl _ _, _, _, rfl, hE, rfl⟩
        ·intro a w ux93 hE hM hp
         refine Zd hE Za (dl rfl) rfl ?_; intro a hE
         exact ⟨Kept.refl _ _, _, _, rfl, hE, rfl⟩
        ·intro a w ux93 hE hM hp
         have f1 : ux93 1 = v1_1 := hp 0 _ rfl rfl
         have f2 : ux93 2 = (vI s18.2) := hp 1 _ rfl rfl
         refine ZK hE Za (dl rfl) (lk rfl f1) (lk rfl f2) Try.underlying34 ZP (hM.rd hv1_1) hi96.1 ?_; intro a hE
         exact ⟨Kept.refl _ _, _, _, rfl, hE, rfl⟩
        ·intro a w ux93 hE hM hp
         have f3 : ux93 3 = (ptr (sb v1_1) (so v1_1 + (s18.2).toNat * 16)) := hp 0 _ rfl rfl
         refine Zp (cs := Flat.enc x94) hE Za (dl rfl) (lk rfl f3) ZP rfl (Yr (hM.rd hv1_1) hi96.2) (Flat.len _) ?_; intro a hE
         exact ⟨Kept.refl _ _, _, _, rfl, hE, rfl⟩
        ·intro a w ux93 hE hM hp
         have f0 : ux93 0 = (Value.agg (Flat.enc j71).toArray) := hp 0 _ rfl rfl
         have f4 : ux93 4 = (Value.agg (Flat.enc x94).toArray) := hp 1 _ rfl rfl
         refine Zw (vs := [(Value.agg (Flat.enc j71).toArray), (Value.agg (Flat.enc x94).toArray)]) hE Za (dl rfl) (Z0 (ZZ (lk rfl f0) (ZZ (lk rfl f4) Xh))) cb114 (XX _ j71 x94 r97 e98) ?_
         rintro v w a ⟨rfl, hK⟩ hE
         exact ⟨hK, _, _, rfl, hE, rfl⟩
        ·intro a w ux93 hE hM hg
         have f0 : ux93 0 = (Value.agg (Flat.enc j71).toArray) := hg 0 (by decide)
         have f1 : ux93 1 = v1_1 := hg 1 (by decide)
         have f2 : ux93 2 = (vI s18.2) := hg 2 (by decide)
         have f3 : ux93 3 = (ptr (sb v1_1) (so v1_1 + (s18.2).toNat * 16)) := hg 3 (by decide)
         have f4 : ux93 4 = (Value.agg (Flat.enc x94).toArray) := hg 4 (by decide)
         have f5 : ux93 5 = (Value.agg (Flat.enc r97).toArray) := hg 5 (by decide)
         have hE := hE.sub (e' := [(52, (Value.agg (Flat.enc j71).toArray)), (53, v1_1), (54, (vI s18.2)), (55, (ptr (sb v1_1) (so v1_1 + (s18.2).toNat * 16))), (56, (Value.agg (Flat.enc x94).toArray)), (57, (Value.agg (Flat.enc r97).toArray)), (0, v0_1), (1, v1_1), (5, (ptr b1 0)), (6, (ptr b3 0)), (7, (vI s18.2))]) ⟨lk rfl f0, lk rfl f1, lk rfl f2, lk rfl f3, lk rfl f4, lk rfl f5, rfl, rfl, rfl, rfl, rfl, trivial⟩
         have hM := hM.pull (pre := [_])
         refine Zs (seg := Flat.enc r97) (cs' := Flat.enc r97) hE hM Za rfl rfl rfl ZP (Flat.len _) (zle flq) (Flat.cell _) (Zq flq) ?_; intro w a hM hE
         refine Zj (Yj ?_)
         have ht99 := Option.some.inj hF73
         subst ht99
         refine Zl ?_
         have hM := hM.pull (pre := [_])
         exact ⟨hE.sub ⟨rfl, rfl, rfl, rfl, rfl, trivial⟩, hM⟩
    ·skip
     rintro a w ⟨hE, hM⟩
     refine wp_region_lit (Zd hE Za (dl rfl) rfl ?_); intro a hE
     refine Zh hE Za (dl rfl) rfl rfl rfl ?_; intro a hE
     refine Ze hE Za (dl rfl) rfl ?_; intro a hE
     refine Zj (Zl ?_)
     exact ⟨_, (Option.some.inj hF25).symm, hE.sub ⟨rfl, rfl, rfl, rfl, rfl, trivial⟩, hM⟩
   ·intro hb22
    have hs19 := ZA hs19 hb22
    refine wp_exit (Zr (Zr (Yk ?_)))
    have ht100 := hx20 _ (Option.some.inj hs19).symm
    subst ht100
    refine Zl ?_
    exact ⟨hE.sub ⟨rfl, rfl, trivial⟩, hM⟩
  ·skip
   rintro a w ⟨hE, hM⟩
   refine Zx (Zc (Zp (cs := Flat.enc j15) hE Za (dl rfl) rfl ZP rfl (hM.rawAt (pre := [_])) (Flat.len _) ?_)); intro a hE
   refine Zs (seg := Flat.enc j15) (cs' := Flat.enc j15) hE hM Za rfl rfl rfl ZP (Flat.len _) (zle flq) (Flat.cell _) (Zq flq) ?_; intro w a hM hE
   refine Zf ?_
   have hr := Option.some.inj hF17
   subst hr
   have hq101 : YR Try.prog _ _ (.cell 6 39) _ := Z7 hE rfl ZP rfl (hM.rawAt (pre := [])) (Flat.len _) rfl
   have hM := M.fst (l := []) hM
   exact wp_ret (Zy hE rfl hq101 ⟨_, rfl, rfl, hM.kept⟩)
noncomputable def Ym (p0 : (Ref Gengine)) (p1 : (Vector UInt8 16)) (p2 : (Vector UInt8 16)) : Option ((Vector UInt8 16)) :=
 ((X3 p0 p1 p0.v.rounds).bind fun r21 => (Yu p0 r21 p2).bind fun r24 => some r24 : Option ((Vector UInt8 16))).bind fun j7 => some j7
theorem UC (w0 : World) (p0 : (Ref Gengine)) (v0_1 : Value) (hv0_1 : Ro w0 p0 [v0_1]) (p1 : (Vector UInt8 16)) (p2 : (Vector UInt8 16)) (r : (Vector UInt8 16)) (hF : Ym p0 p1 p2 = some r) :
  Calls Try.prog 115 [v0_1, (Value.agg (Flat.enc p1).toArray), (Value.agg (Flat.enc p2).toArray)].toArray w0 (fun en w' => ∃ v, en = .returned v ∧ (v = (Value.agg (Flat.enc r).toArray) ∧ Kept (Old w0) w0 w')) := by
 refine ZC (n := 17) Try.func115 rfl rfl (Nat.le_of_ble_eq_true rfl) rfl ?_
 intro a hE
 have hM := M.start w0
 unfold Ym at hF
 refine Zc (Z5 (cs := Flat.enc p1) hE hM Za (dl rfl) rfl rfl ?_); intro b1 w a hM hE
 refine Z5 (cs := Flat.enc p2) hE hM Za (dl rfl) rfl rfl ?_; intro b3 w a hM hE
 refine ZO hE hM Za (dl rfl) ZP ?_; intro b5 w a hM hE
 refine Zf ?_
 obtain ⟨j7, hl8, hF9⟩ := bind_some hF
 refine ZS (fun a w => Env 17 a [(6, (ptr b5 0))] ∧ M (Old w0) w0 w [raw b5 (Flat.enc j7)]) ?_ ?_
 ·skip
  obtain ⟨pb11, ds12, hv13, hx14, hA15, hB16⟩ := Uc hv0_1 -- ^
  obtain ⟨u17, u19, rfl, h18, h20⟩ := un_Gengine hx14 -- ^
  obtain ⟨r21, e22, hl8⟩ := bind_some hl8
  refine c_draw2 (n := 17) (hd := [_, _, _, _, _, _, _, _, _]) (tl := [_, _]) (its := [raw b5 (Flat.enc (Vector.replicate 16 (0 : UInt8))), raw b3 (Flat.enc p2), raw b1 (Flat.enc p1)]) YB rfl rfl [7, 8, 9, 10, 11, 12, 13, 14, 15] (by decide) [(7, fun v => osl NoB (r21 : List (Vector UInt8 16)) v)] rfl (fun j => ([fun v => v = v0_1, fun v => v = v0_1, fun v => v = (Value.agg (Flat.enc p1).toArray), fun v => v = v0_1, fun v => v = (ptr pb11 0), fun v => v = (ptr pb11 (0 + 546)), fun v => v = (vI p0.v.rounds), fun v => True, fun v => v = (Value.agg (Flat.enc p2).toArray)] : List (Value → Prop)).getD j (fun _ => True)) hE hM.drew (ZH (Zb ?_ (Zb ?_ (Zb ?_ (Zb ?_ (Zb ?_ (Zb ?_ (Zb ?_ (Zb ?_ (Zb ?_ ZD)))))))))) ?_
  ·intro a w ux10 D hE hM hD hp
   have hM0 := hM
   refine Zd hE Za (dl rfl) rfl ?_; intro a hE
   exact ⟨_, _, rfl, hE, rfl, hM0.optKeep rfl⟩
  ·intro a w ux10 D hE hM hD hp
   have hM0 := hM
   refine Zd hE Za (dl rfl) rfl ?_; intro a hE
   exact ⟨_, _, rfl, hE, rfl, hM0.optKeep rfl⟩
  ·intro a w ux10 D hE hM hD hp
   have hM0 := hM
   have hM : M (Old w0) w0 w [raw b5 (Flat.enc (Vector.replicate 16 (0 : UInt8))), raw b3 (Flat.enc p2), raw b1 (Flat.enc p1), opt (D 7) (osl NoB (r21 : List (Vector UInt8 16)) (ux10 7))] := hM
   refine Zp (cs := Flat.enc p1) hE Za (dl rfl) rfl ZP rfl (hM.rawAt (pre := [_, _])) (Flat.len _) ?_; intro a hE
   exact ⟨_, _, rfl, hE, rfl, hM0.optKeep rfl⟩
  ·intro a w ux10 D hE hM hD hp
   have hM0 := hM
   refine Zd hE Za (dl rfl) rfl ?_; intro a hE
   exact ⟨_, _, rfl, hE, rfl, hM0.optKeep rfl⟩
  ·intro a w ux10 D hE hM hD hp
   have f3 : ux10 3 = v0_1 := (hp 0 _ rfl rfl).2
   have hM0 := hM
   refine XF hE Za (dl rfl) (lk (lk rfl f3) hv13) ?_; intro a hE
   exact ⟨_, _, rfl, hE, rfl, hM0.optKeep rfl⟩
  ·intro a w ux10 D hE hM hD hp
   have f4 : ux10 4 = (ptr pb11 0) := (hp 0 _ rfl rfl).2
   have hM0 := hM
   refine Zo hE Za (dl rfl) (lk rfl f4) (fd152_6) ?_; intro a hE
   exact ⟨_, _, rfl, hE, rfl, hM0.optKeep rfl⟩
  ·intro a w ux10 D hE hM hD hp
   have f5 : ux10 5 = (ptr pb11 (0 + 546)) := (hp 0 _ rfl rfl).2
   have hM0 := hM
   have hM : M (Old w0) w0 w [raw b5 (Flat.enc (Vector.replicate 16 (0 : UInt8))), raw b3 (Flat.enc p2), raw b1 (Flat.enc p1), opt (D 7) (osl NoB (r21 : List (Vector UInt8 16)) (ux10 7))] := hM
   refine Zv (v := (vI p0.v.rounds)) hE Za (dl rfl) (lk rfl f5) ty2 rfl (At.cat (pre := [Flat.enc p0.v.box, Flat.enc p0.v.backBox, Flat.enc p0.v.places, Flat.enc p0.v.backPlaces, [u17], [u19]]) (hM.atk hA15 hB16) (cl1 (n := 256) (m := 290) (Flat.len _) (cl1 (n := 256) (m := 34) (Flat.len _) (cl1 (n := 16) (m := 18) (Flat.len _) (cl1 (n := 16) (m := 2) (Flat.len _) (cl1 (n := 1) (m := 1) rfl (cl1 (n := 1) (m := 0) rfl cl0))))))) ?_; intro a hE
   exact ⟨_, _, rfl, hE, rfl, hM0.optKeep rfl⟩
  ·intro a w ux10 D hE hM hD hp
   have f1 : ux10 1 = v0_1 := (hp 0 _ rfl rfl).2
   have f2 : ux10 2 = (Value.agg (Flat.enc p1).toArray) := (hp 1 _ rfl rfl).2
   have f6 : ux10 6 = (vI p0.v.rounds) := (hp 2 _ rfl rfl).2
   have hM0 := hM
   have hM : M (Old w0) w0 w [raw b5 (Flat.enc (Vector.replicate 16 (0 : UInt8))), raw b3 (Flat.enc p2), raw b1 (Flat.enc p1), opt (D 7) (osl NoB (r21 : List (Vector UInt8 16)) (ux10 7))] := hM
   refine Zw (vs := [v0_1, (Value.agg (Flat.enc p1).toArray), (vI p0.v.rounds)]) hE Za (dl rfl) (Z0 (ZZ (lk rfl f1) (ZZ (lk rfl f2) (ZZ (lk rfl f6) Xh)))) cb130 (c_impl_engine_keys _ p0 v0_1 (hM.rdo hv0_1) p1 p0.v.rounds r21 e22) ?_
   rintro _ w a ⟨_, rfl, hFr, hK⟩ hE
   have hM := hM0.add hK hFr
   exact ⟨_, _, rfl, hE, trivial, M.optFill (mk1 := []) (mk2 := []) (f := (fun v => osl NoB (r21 : List (Vector UInt8 16)) v)) hM rfl hD⟩
  ·intro a w ux10 D hE hM hD hp
   have hM0 := hM
   have hM : M (Old w0) w0 w [raw b5 (Flat.enc (Vector.replicate 16 (0 : UInt8))), raw b3 (Flat.enc p2), raw b1 (Flat.enc p1), opt (D 7) (osl NoB (r21 : List (Vector UInt8 16)) (ux10 7))] := hM
   refine Zp (cs := Flat.enc p2) hE Za (dl rfl) rfl ZP rfl (hM.rawAt (pre := [_])) (Flat.len _) ?_; intro a hE
   exact ⟨_, _, rfl, hE, rfl, hM0.optKeep rfl⟩
  ·intro a w ux10 hE hM hg
   have f0 : ux10 0 = v0_1 := hg 0 (by decide)
   have f1 : ux10 1 = v0_1 := hg 1 (by decide)
   have f2 : ux10 2 = (Value.agg (Flat.enc p1).toArray) := hg 2 (by decide)
   have f3 : ux10 3 = v0_1 := hg 3 (by decide)
   have f4 : ux10 4 = (ptr pb11 0) := hg 4 (by decide)
   have f5 : ux10 5 = (ptr pb11 (0 + 546)) := hg 5 (by decide)
   have f6 : ux10 6 = (vI p0.v.rounds) := hg 6 (by decide)
   have f8 : ux10 8 = (Value.agg (Flat.enc p2).toArray) := hg 8 (by decide)
   have hM : M (Old w0) w0 w [raw b5 (Flat.enc (Vector.replicate 16 (0 : UInt8))), raw b3 (Flat.enc p2), raw b1 (Flat.enc p1), osl NoB (r21 : List (Vector UInt8 16)) (ux10 7)] := hM
   have hE := hE.sub (e' := [(7, v0_1), (8, v0_1), (9, (Value.agg (Flat.enc p1).toArray)), (10, v0_1), (11, (ptr pb11 0)), (12, (ptr pb11 (0 + 546))), (13, (vI p0.v.rounds)), (14, (ux10 7)), (15, (Value.agg (Flat.enc p2).toArray)), (0, v0_1), (1, (Value.agg (Flat.enc p1).toArray)), (2, (Value.agg (Flat.enc p2).toArray)), (4, (ptr b1 0)), (5, (ptr b3 0)), (6, (ptr b5 0))]) ⟨lk rfl f0, lk rfl f1, lk rfl f2, lk rfl f3, lk rfl f4, lk rfl f5, lk rfl f6, rfl, lk rfl f8, rfl, rfl, rfl, rfl, rfl, rfl, trivial⟩
   obtain ⟨r24, e25, hl8⟩ := bind_some hl8
   refine Zw (vs := [v0_1, (ux10 7), (Value.agg (Flat.enc p2).toArray)]) hE Za (dl rfl) rfl cb129 (c_impl_engine_encipherWith _ p0 v0_1 (hM.rdo hv0_1) r21 (ux10 7) (hM.sl (pre := [_, _, _]) noB) p2 r24 e25) ?_
   rintro v w a ⟨rfl, hK⟩ hE
   have hM := hM.keep hK
   refine Zs (seg := Flat.enc r24) (cs' := Flat.enc r24) hE hM Za rfl rfl rfl ZP (Flat.len _) (zle flq) (Flat.cell _) (Zq flq) ?_; intro w a hM hE
   refine Zj ?_
   have ht26 := Option.some.inj hl8
   subst ht26
   refine Zl ?_
   have hM := M.fst (l := [_]) hM
   exact ⟨hE.sub ⟨rfl, trivial⟩, hM⟩
 ·skip
  rintro a w ⟨hE, hM⟩
  have hr := Option.some.inj hF9
  subst hr
  have hq27 : YR Try.prog _ _ (.cell 6 39) _ := Z7 hE rfl ZP rfl (hM.rawAt (pre := [])) (Flat.len _) rfl
  have hM := M.fst (l := []) hM
  exact wp_ret (Zy hE rfl hq27 ⟨_, rfl, rfl, hM.kept⟩)
noncomputable def YL (p0 : (Ref Gengine)) (p1 : (Vector UInt8 32)) (p2 : (Vector UInt8 16)) : Option ((Vector UInt8 32)) :=
 (slc p1.toList (0 : Int) (16 : Int)).bind fun l8 => (toArr 16 l8).bind fun x11 => (slc p1.toList (16 : Int) (32 : Int)).bind fun l13 => (toArr 16 l13).bind fun x16 => (Yl x11 p2).bind fun r26 => ((Ym p0 x16 r26).bind fun r34 => (Yl r34 r26).bind fun r36 => some r36 : Option ((Vector UInt8 16))).bind fun j30 => (Yl x16 p2).bind fun r39 => ((Ym p0 j30 r39).bind fun r47 => (Yl r47 r39).bind fun r49 => some r49 : Option ((Vector UInt8 16))).bind fun j43 => ((slc j30.toList (0 : Int) (16 : Int)).bind fun l56 => (slc j43.toList (0 : Int) (16 : Int)).bind fun l59 => (Z6 ([l56, l59] : (List (List UInt8)))).bind fun r64 => (toArr 32 r64).bind fun x67 => some x67 : Option ((Vector UInt8 32))).bind fun j52 => some j52
theorem c_impl_engine_absorb (w0 : World) (p0 : (Ref Gengine)) (v0_1 : Value) (hv0_1 : Ro w0 p0 [v0_1]) (p1 : (Vector UInt8 32)) (p2 : (Vector UInt8 16)) (r : (Vector UInt8 32)) (hF : YL p0 p1 p2 = some r) :
  Calls Try.prog 95 [v0_1, (Value.agg (Flat.enc p1).toArray), (Value.agg (Flat.enc p2).toArray)].toArray w0 (fun en w' => ∃ v, en = .returned v ∧ (v = (Value.agg (Flat.enc r).toArray) ∧ Kept (Old w0) w0 w')) := by
 refine ZC (n := 41) Try.func95 rfl rfl (Nat.le_of_ble_eq_true rfl) rfl ?_
 intro a hE
 have hM := M.start w0
 unfold YL at hF
 refine Zc (Z5 (cs := Flat.enc p1) hE hM Za (dl rfl) rfl rfl ?_); intro b1 w a hM hE
 refine Z5 (cs := Flat.enc p2) hE hM Za (dl rfl) rfl rfl ?_; intro b3 w a hM hE
 refine ZO hE hM Za (dl rfl) Yi ?_; intro b5 w a hM hE
 refine Zf (wp_seq ?_)
 obtain ⟨l8, e9, hF⟩ := bind_some hF
 have hb10 := slc_arr e9 -- ^
 obtain ⟨x11, e12, hF⟩ := bind_some hF
 obtain ⟨l13, e14, hF⟩ := bind_some hF
 have hb15 := slc_arr e14 -- ^
 obtain ⟨x16, e17, hF⟩ := bind_some hF
 refine Wz (n := 41) (hd := [_, _, _, _, _, _, _, _]) (tl := [_, _]) YB rfl rfl [11, 12, 13, 14, 15, 16, 7, 8] (by decide) (fun D u w => M (Old w0) w0 w ([raw b5 (Flat.enc (Vector.replicate 32 (0 : UInt8))), raw b3 (Flat.enc p2), raw b1 (Flat.enc p1)] ++ qL ([mkO 6 (fun v => rawP v (Flat.enc (Vector.replicate 16 (0 : UInt8)))), mkO 7 (fun v => rawP v (Flat.enc (Vector.replicate 16 (0 : UInt8))))] : Mk) D u) ∧ GOk ([([], fun us v => v = (ZU (.slice (some ⟨b1, 0, none⟩) 32 32) ((0 : Int)).toNat ((16 : Int)).toNat 1)), ([], fun us v => v = (ptr (sb (ZU (.slice (some ⟨b1, 0, none⟩) 32 32) ((0 : Int)).toNat ((16 : Int)).toNat 1)) (so (ZU (.slice (some ⟨b1, 0, none⟩) 32 32) ((0 : Int)).toNat ((16 : Int)).toNat 1)))), ([], fun us v => v = (Value.agg (Flat.enc x11).toArray)), ([], fun us v => v = (ZU (.slice (some ⟨b1, 0, none⟩) 32 32) ((16 : Int)).toNat ((32 : Int)).toNat 1)), ([], fun us v => v = (ptr (sb (ZU (.slice (some ⟨b1, 0, none⟩) 32 32) ((16 : Int)).toNat ((32 : Int)).toNat 1)) (so (ZU (.slice (some ⟨b1, 0, none⟩) 32 32) ((16 : Int)).toNat ((32 : Int)).toNat 1)))), ([], fun us v => v = (Value.agg (Flat.enc x16).toArray)), ([], fun us v => True), ([], fun us v => True)] : Gs) D u) hE (fun u => ⟨M.qE (M.qE (M.q0 hM.drew u) emO) emO, gok0⟩) (ZH (Zb ?_ (Zb ?_ (Zb ?_ (Zb ?_ (Zb ?_ (Zb ?_ (Zb ?_ (Zb ?_ ZD))))))))) ?_
 ·intro a w ux7 D hE hI hD hdc hp
  have hM0 := hI.1
  refine Uk (N := 32) hE Za (dl rfl) rfl rfl rfl rfl rfl Try.underlying25 ty5 hb10 ?_; intro a hE
  exact ⟨_, _, rfl, hE, M.qKeep hM0 rfl, hI.2.put hD rfl ZF rfl⟩
 ·intro a w ux7 D hE hI hD hdc hp
  have d0 : D 0 = true := hp 0 _ rfl rfl
  have g0 := hI.2 0 d0 _ rfl
  have f0 : ux7 0 = (ZU (.slice (some ⟨b1, 0, none⟩) 32 32) ((0 : Int)).toNat ((16 : Int)).toNat 1) := g0.2
  have hM0 := hI.1
  have hM := hI.1
  refine s_toArr hE Za (dl rfl) (lk rfl f0) Try.underlying39 (VP (At.sat (hM.rawAt (pre := [_, _])) (by simp) (by decide)) e9) (toArr_some e12).1 (by decide) ?_; intro a hE
  exact ⟨_, _, rfl, hE, M.qKeep hM0 rfl, hI.2.put hD rfl ZF rfl⟩
 ·intro a w ux7 D hE hI hD hdc hp
  have d1 : D 1 = true := hp 0 _ rfl rfl
  have g1 := hI.2 1 d1 _ rfl
  have f1 : ux7 1 = (ptr (sb (ZU (.slice (some ⟨b1, 0, none⟩) 32 32) ((0 : Int)).toNat ((16 : Int)).toNat 1)) (so (ZU (.slice (some ⟨b1, 0, none⟩) 32 32) ((0 : Int)).toNat ((16 : Int)).toNat 1))) := g1.2
  have hM0 := hI.1
  have hM := hI.1
  refine Zp (cs := Flat.enc x11) hE Za (dl rfl) (lk rfl f1) ZP rfl (sl_arr (VP (At.sat (hM.rawAt (pre := [_, _])) (by simp) (by decide)) e9) e12 (by decide)) (Flat.len _) ?_; intro a hE
  exact ⟨_, _, rfl, hE, M.qKeep hM0 rfl, hI.2.put hD rfl ZF rfl⟩
 ·intro a w ux7 D hE hI hD hdc hp
  have hM0 := hI.1
  refine Uk (N := 32) hE Za (dl rfl) rfl rfl rfl rfl rfl Try.underlying25 ty5 hb15 ?_; intro a hE
  exact ⟨_, _, rfl, hE, M.qKeep hM0 rfl, hI.2.put hD rfl ZF rfl⟩
 ·intro a w ux7 D hE hI hD hdc hp
  have d3 : D 3 = true := hp 0 _ rfl rfl
  have g3 := hI.2 3 d3 _ rfl
  have f3 : ux7 3 = (ZU (.slice (some ⟨b1, 0, none⟩) 32 32) ((16 : Int)).toNat ((32 : Int)).toNat 1) := g3.2
  have hM0 := hI.1
  have hM := hI.1
  refine s_toArr hE Za (dl rfl) (lk rfl f3) Try.underlying39 (VP (At.sat (hM.rawAt (pre := [_, _])) (by simp) (by decide)) e14) (toArr_some e17).1 (by decide) ?_; intro a hE
  exact ⟨_, _, rfl, hE, M.qKeep hM0 rfl, hI.2.put hD rfl ZF rfl⟩
 ·intro a w ux7 D hE hI hD hdc hp
  have d4 : D 4 = true := hp 0 _ rfl rfl
  have g4 := hI.2 4 d4 _ rfl
  have f4 : ux7 4 = (ptr (sb (ZU (.slice (some ⟨b1, 0, none⟩) 32 32) ((16 : Int)).toNat ((32 : Int)).toNat 1)) (so (ZU (.slice (some ⟨b1, 0, none⟩) 32 32) ((16 : Int)).toNat ((32 : Int)).toNat 1))) := g4.2
  have hM0 := hI.1
  have hM := hI.1
  refine Zp (cs := Flat.enc x16) hE Za (dl rfl) (lk rfl f4) ZP rfl (sl_arr (VP (At.sat (hM.rawAt (pre := [_, _])) (by simp) (by decide)) e14) e17 (by decide)) (Flat.len _) ?_; intro a hE
  exact ⟨_, _, rfl, hE, M.qKeep hM0 rfl, hI.2.put hD rfl ZF rfl⟩
 ·intro a w ux7 D hE hI hD hdc hp
  have hM0 := hI.1
  have hM := hI.1
  refine ZO hE hM Za (dl rfl) ZP ?_; intro b18 w a hM hE
  have hM := hM.pack1 (it := rawP _ (Flat.enc (Vector.replicate 16 (0 : UInt8)))) (fun w w' fp ⟨b', e, k⟩ hb => ⟨b', e, WC w w' fp k hb⟩) (fun fp k => ⟨_, rfl, k⟩)
  exact ⟨_, _, rfl, hE, M.qFill (mk1 := []) (mk2 := [_]) (f := fun v => rawP v (Flat.enc (Vector.replicate 16 (0 : UInt8)))) hM rfl hD, hI.2.put hD rfl ZF trivial⟩
 ·intro a w ux7 D hE hI hD hdc hp
  have hM0 := hI.1
  have hM := hI.1
  refine ZO hE hM Za (dl rfl) ZP ?_; intro b20 w a hM hE
  have hM := hM.pack1 (it := rawP _ (Flat.enc (Vector.replicate 16 (0 : UInt8)))) (fun w w' fp ⟨b', e, k⟩ hb => ⟨b', e, WC w w' fp k hb⟩) (fun fp k => ⟨_, rfl, k⟩)
  exact ⟨_, _, rfl, hE, M.qFill (mk1 := [_]) (mk2 := []) (f := fun v => rawP v (Flat.enc (Vector.replicate 16 (0 : UInt8)))) hM rfl hD, hI.2.put hD rfl ZF trivial⟩
 ·intro a w ux7 D hE hI hall
  have hM := hI.1
  have d0 : D 0 = true := hall 0 (by decide)
  have d1 : D 1 = true := hall 1 (by decide)
  have d2 : D 2 = true := hall 2 (by decide)
  have d3 : D 3 = true := hall 3 (by decide)
  have d4 : D 4 = true := hall 4 (by decide)
  have d5 : D 5 = true := hall 5 (by decide)
  have d6 : D 6 = true := hall 6 (by decide)
  have d7 : D 7 = true := hall 7 (by decide)
  have f0 : ux7 0 = (ZU (.slice (some ⟨b1, 0, none⟩) 32 32) ((0 : Int)).toNat ((16 : Int)).toNat 1) := (hI.2 0 d0 _ rfl).2
  have f1 : ux7 1 = (ptr (sb (ZU (.slice (some ⟨b1, 0, none⟩) 32 32) ((0 : Int)).toNat ((16 : Int)).toNat 1)) (so (ZU (.slice (some ⟨b1, 0, none⟩) 32 32) ((0 : Int)).toNat ((16 : Int)).toNat 1))) := (hI.2 1 d1 _ rfl).2
  have f2 : ux7 2 = (Value.agg (Flat.enc x11).toArray) := (hI.2 2 d2 _ rfl).2
  have f3 : ux7 3 = (ZU (.slice (some ⟨b1, 0, none⟩) 32 32) ((16 : Int)).toNat ((32 : Int)).toNat 1) := (hI.2 3 d3 _ rfl).2
  have f4 : ux7 4 = (ptr (sb (ZU (.slice (some ⟨b1, 0, none⟩) 32 32) ((16 : Int)).toNat ((32 : Int)).toNat 1)) (so (ZU (.slice (some ⟨b1, 0, none⟩) 32 32) ((16 : Int)).toNat ((32 : Int)).toNat 1))) := (hI.2 4 d4 _ rfl).2
  have f5 : ux7 5 = (Value.agg (Flat.enc x16).toArray) := (hI.2 5 d5 _ rfl).2
  have hM := (hM.sure (pre := [_, _, _]) d6).pull
  obtain ⟨_, ⟨b22, f23, _⟩, _⟩ := hM.head
  have hM := hM.pack1 WC (it := raw b22 (Flat.enc (Vector.replicate 16 (0 : UInt8)))) (fun fp ⟨b2, e2, k2⟩ => by rw [f23] at e2; simp [ptr] at e2; subst e2; exact k2)
  have hM := (hM.sure (pre := [_, _, _, _]) d7).pull
  obtain ⟨_, ⟨b24, f25, _⟩, _⟩ := hM.head
  have hM := hM.pack1 WC (it := raw b24 (Flat.enc (Vector.replicate 16 (0 : UInt8)))) (fun fp ⟨b2, e2, k2⟩ => by rw [f25] at e2; simp [ptr] at e2; subst e2; exact k2)
  have hE := hE.sub (e' := [(11, (ZU (.slice (some ⟨b1, 0, none⟩) 32 32) ((0 : Int)).toNat ((16 : Int)).toNat 1)), (12, (ptr (sb (ZU (.slice (some ⟨b1, 0, none⟩) 32 32) ((0 : Int)).toNat ((16 : Int)).toNat 1)) (so (ZU (.slice (some ⟨b1, 0, none⟩) 32 32) ((0 : Int)).toNat ((16 : Int)).toNat 1)))), (13, (Value.agg (Flat.enc x11).toArray)), (14, (ZU (.slice (some ⟨b1, 0, none⟩) 32 32) ((16 : Int)).toNat ((32 : Int)).toNat 1)), (15, (ptr (sb (ZU (.slice (some ⟨b1, 0, none⟩) 32 32) ((16 : Int)).toNat ((32 : Int)).toNat 1)) (so (ZU (.slice (some ⟨b1, 0, none⟩) 32 32) ((16 : Int)).toNat ((32 : Int)).toNat 1)))), (16, (Value.agg (Flat.enc x16).toArray)), (7, (ptr b22 0)), (8, (ptr b24 0)), (0, v0_1), (1, (Value.agg (Flat.enc p1).toArray)), (2, (Value.agg (Flat.enc p2).toArray)), (4, (ptr b1 0)), (5, (ptr b3 0)), (6, (ptr b5 0))]) ⟨lk rfl f0, lk rfl f1, lk rfl f2, lk rfl f3, lk rfl f4, lk rfl f5, lk rfl f23, lk rfl f25, rfl, rfl, rfl, rfl, rfl, rfl, trivial⟩
  have hM := hM.pull (pre := [_])
  refine Zs (seg := Flat.enc x11) (cs' := Flat.enc x11) hE hM Za rfl rfl rfl ZP (Flat.len _) (zle flq) (Flat.cell _) (Zq flq) ?_; intro w a hM hE
  have hM := hM.pull (pre := [_])
  refine Zs (seg := Flat.enc x16) (cs' := Flat.enc x16) hE hM Za rfl rfl rfl ZP (Flat.len _) (zle flq) (Flat.cell _) (Zq flq) ?_; intro w a hM hE
  refine Zj (Zx (Zc (Zp (cs := Flat.enc x11) hE Za (dl rfl) rfl ZP rfl (hM.rawAt (pre := [_])) (Flat.len _) ?_))); intro a hE
  refine Zp (cs := Flat.enc p2) hE Za (dl rfl) rfl ZP rfl (hM.rawAt (pre := [_, _, _])) (Flat.len _) ?_; intro a hE
  obtain ⟨r26, e27, hF⟩ := bind_some hF
  refine Zw (vs := [(Value.agg (Flat.enc x11).toArray), (Value.agg (Flat.enc p2).toArray)]) hE Za (dl rfl) rfl cb114 (XX _ x11 p2 r26 e27) ?_
  rintro v w a ⟨rfl, hK⟩ hE
  have hM := hM.keep hK
  refine ZO hE hM Za (dl rfl) ZP ?_; intro b28 w a hM hE
  refine Zs (seg := Flat.enc r26) (cs' := Flat.enc r26) hE hM Za rfl rfl rfl ZP (Flat.len _) (zle flq) (Flat.cell _) (Zq flq) ?_; intro w a hM hE
  refine Zf ?_
  obtain ⟨j30, hl31, hF32⟩ := bind_some hF
  refine ZS (fun a w => Env 41 a [(0, v0_1), (5, (ptr b3 0)), (6, (ptr b5 0)), (7, (ptr b22 0)), (8, (ptr b24 0))] ∧ M (Old w0) w0 w [raw b24 (Flat.enc x16), raw b22 (Flat.enc j30), raw b5 (Flat.enc (Vector.replicate 32 (0 : UInt8))), raw b3 (Flat.enc p2)]) ?_ ?_
  ·skip
   obtain ⟨r34, e35, hl31⟩ := bind_some hl31
   obtain ⟨r36, e37, hl31⟩ := bind_some hl31
   refine Ye (n := 41) (hd := [_, _, _, _, _, _]) (tl := [_]) YB rfl rfl [20, 21, 22, 23, 24, 25] (by decide) (fun w => M (Old w0) w0 w [raw b28 (Flat.enc r26), raw b24 (Flat.enc x16), raw b22 (Flat.enc x11), raw b5 (Flat.enc (Vector.replicate 32 (0 : UInt8))), raw b3 (Flat.enc p2), raw b1 (Flat.enc p1)]) (fun j => ([fun v _ => v = v0_1, fun v _ => v = (Value.agg (Flat.enc x16).toArray), fun v _ => v = (Value.agg (Flat.enc r26).toArray), fun v _ => v = (Value.agg (Flat.enc r34).toArray), fun v _ => v = (Value.agg (Flat.enc r26).toArray), fun v _ => v = (Value.agg (Flat.enc r36).toArray)] : List (Value → World → Prop)).getD j (fun _ _ => True)) (fun _ _ h hk => h.keep hk) (gup (Zg (Zg (Zg (Zg (Zg (Zg Ww))))))) hE hM.drew (ZH (Zb ?_ (Zb ?_ (Zb ?_ (Zb ?_ (Zb ?_ (Zb ?_ ZD))))))) ?_
   ·intro a w ux33 hE hM hp
    refine Zd hE Za (dl rfl) rfl ?_; intro a hE
    exact ⟨Kept.refl _ _, _, _, rfl, hE, rfl⟩
   ·intro a w ux33 hE hM hp
    refine Zp (cs := Flat.enc x16) hE Za (dl rfl) rfl ZP rfl (hM.rawAt (pre := [_])) (Flat.len _) ?_; intro a hE
    exact ⟨Kept.refl _ _, _, _, rfl, hE, rfl⟩
   ·intro a w ux33 hE hM hp
    refine Zp (cs := Flat.enc r26) hE Za (dl rfl) rfl ZP rfl (hM.rawAt (pre := [])) (Flat.len _) ?_; intro a hE
    exact ⟨Kept.refl _ _, _, _, rfl, hE, rfl⟩
   ·intro a w ux33 hE hM hp
    have f0 : ux33 0 = v0_1 := hp 0 _ rfl rfl
    have f1 : ux33 1 = (Value.agg (Flat.enc x16).toArray) := hp 1 _ rfl rfl
    have f2 : ux33 2 = (Value.agg (Flat.enc r26).toArray) := hp 2 _ rfl rfl
    refine Zw (vs := [v0_1, (Value.agg (Flat.enc x16).toArray), (Value.agg (Flat.enc r26).toArray)]) hE Za (dl rfl) (Z0 (ZZ (lk rfl f0) (ZZ (lk rfl f1) (ZZ (lk rfl f2) Xh)))) cb115 (UC _ p0 v0_1 (hM.rdo hv0_1) x16 r26 r34 e35) ?_
    rintro v w a ⟨rfl, hK⟩ hE
    exact ⟨hK, _, _, rfl, hE, rfl⟩
   ·intro a w ux33 hE hM hp
    refine Zp (cs := Flat.enc r26) hE Za (dl rfl) rfl ZP rfl (hM.rawAt (pre := [])) (Flat.len _) ?_; intro a hE
    exact ⟨Kept.refl _ _, _, _, rfl, hE, rfl⟩
   ·intro a w ux33 hE hM hp
    have f3 : ux33 3 = (Value.agg (Flat.enc r34).toArray) := hp 0 _ rfl rfl
    have f4 : ux33 4 = (Value.agg (Flat.enc r26).toArray) := hp 1 _ rfl rfl
    refine Zw (vs := [(Value.agg (Flat.enc r34).toArray), (Value.agg (Flat.enc r26).toArray)]) hE Za (dl rfl) (Z0 (ZZ (lk rfl f3) (ZZ (lk rfl f4) Xh))) cb114 (XX _ r34 r26 r36 e37) ?_
    rintro v w a ⟨rfl, hK⟩ hE
    exact ⟨hK, _, _, rfl, hE, rfl⟩
   ·intro a w ux33 hE hM hg
    have f0 : ux33 0 = v0_1 := hg 0 (by decide)
    have f1 : ux33 1 = (Value.agg (Flat.enc x16).toArray) := hg 1 (by decide)
    have f2 : ux33 2 = (Value.agg (Flat.enc r26).toArray) := hg 2 (by decide)
    have f3 : ux33 3 = (Value.agg (Flat.enc r34).toArray) := hg 3 (by decide)
    have f4 : ux33 4 = (Value.agg (Flat.enc r26).toArray) := hg 4 (by decide)
    have f5 : ux33 5 = (Value.agg (Flat.enc r36).toArray) := hg 5 (by decide)
    have hE := hE.sub (e' := [(20, v0_1), (21, (Value.agg (Flat.enc x16).toArray)), (22, (Value.agg (Flat.enc r26).toArray)), (23, (Value.agg (Flat.enc r34).toArray)), (24, (Value.agg (Flat.enc r26).toArray)), (25, (Value.agg (Flat.enc r36).toArray)), (0, v0_1), (1, (Value.agg (Flat.enc p1).toArray)), (2, (Value.agg (Flat.enc p2).toArray)), (4, (ptr b1 0)), (5, (ptr b3 0)), (6, (ptr b5 0)), (7, (ptr b22 0)), (8, (ptr b24 0)), (9, (ptr b28 0)), (11, (ZU (.slice (some ⟨b1, 0, none⟩) 32 32) ((0 : Int)).toNat ((16 : Int)).toNat 1)), (12, (ptr (sb (ZU (.slice (some ⟨b1, 0, none⟩) 32 32) ((0 : Int)).toNat ((16 : Int)).toNat 1)) (so (ZU (.slice (some ⟨b1, 0, none⟩) 32 32) ((0 : Int)).toNat ((16 : Int)).toNat 1)))), (13, (Value.agg (Flat.enc x11).toArray)), (14, (ZU (.slice (some ⟨b1, 0, none⟩) 32 32) ((16 : Int)).toNat ((32 : Int)).toNat 1)), (15, (ptr (sb (ZU (.slice (some ⟨b1, 0, none⟩) 32 32) ((16 : Int)).toNat ((32 : Int)).toNat 1)) (so (ZU (.slice (some ⟨b1, 0, none⟩) 32 32) ((16 : Int)).toNat ((32 : Int)).toNat 1)))), (16, (Value.agg (Flat.enc x16).toArray)), (17, (Value.agg (Flat.enc x11).toArray)), (18, (Value.agg (Flat.enc p2).toArray)), (19, (Value.agg (Flat.enc r26).toArray))]) ⟨lk rfl f0, lk rfl f1, lk rfl f2, lk rfl f3, lk rfl f4, lk rfl f5, rfl, rfl, rfl, rfl, rfl, rfl, rfl, rfl, rfl, rfl, rfl, rfl, rfl, rfl, rfl, rfl, rfl, rfl, trivial⟩
    have hM := hM.pull (pre := [_, _])
    refine Zs (seg := Flat.enc r36) (cs' := Flat.enc r36) hE hM Za rfl rfl rfl ZP (Flat.len _) (zle flq) (Flat.cell _) (Zq flq) ?_; intro w a hM hE
    refine Zj ?_
    have ht38 := Option.some.inj hl31
    subst ht38
    refine Zl ?_
    have hM := hM.pull (pre := [_, _, _, _])
    have hM := hM.pull (pre := [_, _, _, _])
    have hM := hM.pull (pre := [_, _])
    have hM := hM.pull (pre := [_, _, _, _])
    have hM := M.fst (l := [_, _, _, _]) hM
    exact ⟨hE.sub ⟨rfl, rfl, rfl, rfl, rfl, trivial⟩, hM⟩
  ·skip
   rintro a w ⟨hE, hM⟩
   refine Zc (Zp (cs := Flat.enc x16) hE Za (dl rfl) rfl ZP rfl (hM.rawAt (pre := [])) (Flat.len _) ?_); intro a hE
   refine Zp (cs := Flat.enc p2) hE Za (dl rfl) rfl ZP rfl (hM.rawAt (pre := [_, _, _])) (Flat.len _) ?_; intro a hE
   obtain ⟨r39, e40, hF32⟩ := bind_some hF32
   refine Zw (vs := [(Value.agg (Flat.enc x16).toArray), (Value.agg (Flat.enc p2).toArray)]) hE Za (dl rfl) rfl cb114 (XX _ x16 p2 r39 e40) ?_
   rintro v w a ⟨rfl, hK⟩ hE
   have hM := hM.keep hK
   refine ZO hE hM Za (dl rfl) ZP ?_; intro b41 w a hM hE
   refine Zs (seg := Flat.enc r39) (cs' := Flat.enc r39) hE hM Za rfl rfl rfl ZP (Flat.len _) (zle flq) (Flat.cell _) (Zq flq) ?_; intro w a hM hE
   refine Zf ?_
   obtain ⟨j43, hl44, hF45⟩ := bind_some hF32
   refine ZS (fun a w => Env 41 a [(6, (ptr b5 0)), (7, (ptr b22 0)), (8, (ptr b24 0))] ∧ M (Old w0) w0 w [raw b24 (Flat.enc j43), raw b22 (Flat.enc j30), raw b5 (Flat.enc (Vector.replicate 32 (0 : UInt8)))]) ?_ ?_
   ·skip
    obtain ⟨r47, e48, hl44⟩ := bind_some hl44
    obtain ⟨r49, e50, hl44⟩ := bind_some hl44
    refine Ye (n := 41) (hd := [_, _, _, _, _, _]) (tl := [_]) YB rfl rfl [29, 30, 31, 32, 33, 34] (by decide) (fun w => M (Old w0) w0 w [raw b41 (Flat.enc r39), raw b24 (Flat.enc x16), raw b22 (Flat.enc j30), raw b5 (Flat.enc (Vector.replicate 32 (0 : UInt8))), raw b3 (Flat.enc p2)]) (fun j => ([fun v _ => v = v0_1, fun v _ => v = (Value.agg (Flat.enc j30).toArray), fun v _ => v = (Value.agg (Flat.enc r39).toArray), fun v _ => v = (Value.agg (Flat.enc r47).toArray), fun v _ => v = (Value.agg (Flat.enc r39).toArray), fun v _ => v = (Value.agg (Flat.enc r49).toArray)] : List (Value → World → Prop)).getD j (fun _ _ => True)) (fun _ _ h hk => h.keep hk) (gup (Zg (Zg (Zg (Zg (Zg (Zg Ww))))))) hE hM.drew (ZH (Zb ?_ (Zb ?_ (Zb ?_ (Zb ?_ (Zb ?_ (Zb ?_ ZD))))))) ?_
    ·intro a w ux46 hE hM hp
     refine Zd hE Za (dl rfl) rfl ?_; intro a hE
     exact ⟨Kept.refl _ _, _, _, rfl, hE, rfl⟩
    ·intro a w ux46 hE hM hp
     refine Zp (cs := Flat.enc j30) hE Za (dl rfl) rfl ZP rfl (hM.rawAt (pre := [_, _])) (Flat.len _) ?_; intro a hE
     exact ⟨Kept.refl _ _, _, _, rfl, hE, rfl⟩
    ·intro a w ux46 hE hM hp
     refine Zp (cs := Flat.enc r39) hE Za (dl rfl) rfl ZP rfl (hM.rawAt (pre := [])) (Flat.len _) ?_; intro a hE
     exact ⟨Kept.refl _ _, _, _, rfl, hE, rfl⟩
    ·intro a w ux46 hE hM hp
     have f0 : ux46 0 = v0_1 := hp 0 _ rfl rfl
     have f1 : ux46 1 = (Value.agg (Flat.enc j30).toArray) := hp 1 _ rfl rfl
     have f2 : ux46 2 = (Value.agg (Flat.enc r39).toArray) := hp 2 _ rfl rfl
     refine Zw (vs := [v0_1, (Value.agg (Flat.enc j30).toArray), (Value.agg (Flat.enc r39).toArray)]) hE Za (dl rfl) (Z0 (ZZ (lk rfl f0) (ZZ (lk rfl f1) (ZZ (lk rfl f2) Xh)))) cb115 (UC _ p0 v0_1 (hM.rdo hv0_1) j30 r39 r47 e48) ?_
     rintro v w a ⟨rfl, hK⟩ hE
     exact ⟨hK, _, _, rfl, hE, rfl⟩
    ·intro a w ux46 hE hM hp
     refine Zp (cs := Flat.enc r39) hE Za (dl rfl) rfl ZP rfl (hM.rawAt (pre := [])) (Flat.len _) ?_; intro a hE
     exact ⟨Kept.refl _ _, _, _, rfl, hE, rfl⟩
    ·intro a w ux46 hE hM hp
     have f3 : ux46 3 = (Value.agg (Flat.enc r47).toArray) := hp 0 _ rfl rfl
     have f4 : ux46 4 = (Value.agg (Flat.enc r39).toArray) := hp 1 _ rfl rfl
     refine Zw (vs := [(Value.agg (Flat.enc r47).toArray), (Value.agg (Flat.enc r39).toArray)]) hE Za (dl rfl) (Z0 (ZZ (lk rfl f3) (ZZ (lk rfl f4) Xh))) cb114 (XX _ r47 r39 r49 e50) ?_
     rintro v w a ⟨rfl, hK⟩ hE
     exact ⟨hK, _, _, rfl, hE, rfl⟩
    ·intro a w ux46 hE hM hg
     have f0 : ux46 0 = v0_1 := hg 0 (by decide)
     have f1 : ux46 1 = (Value.agg (Flat.enc j30).toArray) := hg 1 (by decide)
     have f2 : ux46 2 = (Value.agg (Flat.enc r39).toArray) := hg 2 (by decide)
     have f3 : ux46 3 = (Value.agg (Flat.enc r47).toArray) := hg 3 (by decide)
     have f4 : ux46 4 = (Value.agg (Flat.enc r39).toArray) := hg 4 (by decide)
     have f5 : ux46 5 = (Value.agg (Flat.enc r49).toArray) := hg 5 (by decide)
     have hE := hE.sub (e' := [(29, v0_1), (30, (Value.agg (Flat.enc j30).toArray)), (31, (Value.agg (Flat.enc r39).toArray)), (32, (Value.agg (Flat.enc r47).toArray)), (33, (Value.agg (Flat.enc r39).toArray)), (34, (Value.agg (Flat.enc r49).toArray)), (0, v0_1), (5, (ptr b3 0)), (6, (ptr b5 0)), (7, (ptr b22 0)), (8, (ptr b24 0)), (10, (ptr b41 0)), (26, (Value.agg (Flat.enc x16).toArray)), (27, (Value.agg (Flat.enc p2).toArray)), (28, (Value.agg (Flat.enc r39).toArray))]) ⟨lk rfl f0, lk rfl f1, lk rfl f2, lk rfl f3, lk rfl f4, lk rfl f5, rfl, rfl, rfl, rfl, rfl, rfl, rfl, rfl, rfl, trivial⟩
     have hM := hM.pull (pre := [_])
     refine Zs (seg := Flat.enc r49) (cs' := Flat.enc r49) hE hM Za rfl rfl rfl ZP (Flat.len _) (zle flq) (Flat.cell _) (Zq flq) ?_; intro w a hM hE
     refine Zj ?_
     have ht51 := Option.some.inj hl44
     subst ht51
     refine Zl ?_
     have hM := hM.pull (pre := [_, _, _])
     have hM := hM.pull (pre := [_, _, _])
     have hM := hM.pull (pre := [_, _])
     have hM := M.fst (l := [_, _, _]) hM
     exact ⟨hE.sub ⟨rfl, rfl, rfl, trivial⟩, hM⟩
   ·skip
    rintro a w ⟨hE, hM⟩
    obtain ⟨j52, hl53, hF54⟩ := bind_some hF45
    refine ZS (fun a w => Env 41 a [(6, (ptr b5 0))] ∧ M (Old w0) w0 w [raw b5 (Flat.enc j52)]) ?_ ?_
    ·skip
     obtain ⟨l56, e57, hl53⟩ := bind_some hl53
     have hb58 := slc_arr e57 -- ^
     obtain ⟨l59, e60, hl53⟩ := bind_some hl53
     have hb61 := slc_arr e60 -- ^
     refine Ye (n := 41) (hd := [_, _]) (tl := [_, _, _, _, _]) YB rfl rfl [35, 36] (by decide) (fun w => M (Old w0) w0 w [raw b24 (Flat.enc j43), raw b22 (Flat.enc j30), raw b5 (Flat.enc (Vector.replicate 32 (0 : UInt8)))]) (fun j => ([fun v _ => v = (ZU (.slice (some ⟨b22, 0, none⟩) 16 16) ((0 : Int)).toNat ((16 : Int)).toNat 1), fun v _ => v = (ZU (.slice (some ⟨b24, 0, none⟩) 16 16) ((0 : Int)).toNat ((16 : Int)).toNat 1)] : List (Value → World → Prop)).getD j (fun _ _ => True)) (fun _ _ h hk => h.keep hk) (gup (Zg (Zg Ww))) hE hM.drew (ZH (Zb ?_ (Zb ?_ ZD))) ?_
     ·intro a w ux55 hE hM hp
      refine Uk (N := 16) hE Za (dl rfl) rfl rfl rfl rfl rfl Try.underlying39 ty5 hb58 ?_; intro a hE
      exact ⟨Kept.refl _ _, _, _, rfl, hE, rfl⟩
     ·intro a w ux55 hE hM hp
      refine Uk (N := 16) hE Za (dl rfl) rfl rfl rfl rfl rfl Try.underlying39 ty5 hb61 ?_; intro a hE
      exact ⟨Kept.refl _ _, _, _, rfl, hE, rfl⟩
     ·intro a w ux55 hE hM hg
      have f0 : ux55 0 = (ZU (.slice (some ⟨b22, 0, none⟩) 16 16) ((0 : Int)).toNat ((16 : Int)).toNat 1) := hg 0 (by decide)
      have f1 : ux55 1 = (ZU (.slice (some ⟨b24, 0, none⟩) 16 16) ((0 : Int)).toNat ((16 : Int)).toNat 1) := hg 1 (by decide)
      have hE := hE.sub (e' := [(35, (ZU (.slice (some ⟨b22, 0, none⟩) 16 16) ((0 : Int)).toNat ((16 : Int)).toNat 1)), (36, (ZU (.slice (some ⟨b24, 0, none⟩) 16 16) ((0 : Int)).toNat ((16 : Int)).toNat 1)), (6, (ptr b5 0)), (7, (ptr b22 0)), (8, (ptr b24 0))]) ⟨lk rfl f0, lk rfl f1, rfl, rfl, rfl, trivial⟩
      refine s_buildLit (xs := [.tmp 35, .tmp 36]) (vs := [(ZU (.slice (some ⟨b22, 0, none⟩) 16 16) ((0 : Int)).toNat ((16 : Int)).toNat 1), (ZU (.slice (some ⟨b24, 0, none⟩) 16 16) ((0 : Int)).toNat ((16 : Int)).toNat 1)]) hE hM Za (dl rfl) rfl rfl Try.underlying45 Vz (by decide) (fa_cons (sl_cells (VP (At.sat (hM.rawAt (pre := [_])) (by simp) (by decide)) e57)) (fa_cons (sl_cells (VP (At.sat (hM.rawAt (pre := [])) (by simp) (by decide)) e60)) fa_nil)) ?_; intro b62 w a hM hE
      obtain ⟨r64, e65, hl53⟩ := bind_some hl53
      refine Zw (vs := [(Value.slice (some ⟨b62, 0, none⟩) 2 2)]) hE Za (dl rfl) rfl cb94 (V6 _ ([l56, l59] : (List (List UInt8))) (Value.slice (some ⟨b62, 0, none⟩) 2 2) (ro_lit (hM.rawAt (pre := [])) (hM.rawLt (pre := [])) ⟨(VP (At.sat (hM.rawAt (pre := [_, _])) (by simp) (by decide)) e57), (VP (At.sat (hM.rawAt (pre := [_])) (by simp) (by decide)) e60), trivial⟩ rfl) r64 e65) ?_
      rintro u66 w a ⟨_, rfl, hFr, hK⟩ hE
      have hM := hM.add hK hFr
      obtain ⟨x67, e68, hl53⟩ := bind_some hl53
      refine s_toArr hE Za (dl rfl) rfl Try.underlying25 (hM.sl (pre := []) noB) (toArr_some e68).1 (by decide) ?_; intro a hE
      refine Zp (cs := Flat.enc x67) hE Za (dl rfl) rfl Yi rfl (sl_arr (hM.sl (pre := []) noB) e68 (by decide)) (Flat.len _) ?_; intro a hE
      have hM := hM.pull (pre := [_, _, _, _])
      refine Zs (seg := Flat.enc x67) (cs' := Flat.enc x67) hE hM Za rfl rfl rfl Yi (Flat.len _) (zle flq) (Flat.cell _) (Zq flq) ?_; intro w a hM hE
      refine Zj ?_
      have ht69 := Option.some.inj hl53
      subst ht69
      refine Zl ?_
      have hM := M.fst (l := [_]) hM
      exact ⟨hE.sub ⟨rfl, trivial⟩, hM⟩
    ·skip
     rintro a w ⟨hE, hM⟩
     have hr := Option.some.inj hF54
     subst hr
     have hq70 : YR Try.prog _ _ (.cell 6 25) _ := Z7 hE rfl Yi rfl (hM.rawAt (pre := [])) (Flat.len _) rfl
     have hM := M.fst (l := []) hM
     exact wp_ret (Zy hE rfl hq70 ⟨_, rfl, rfl, hM.kept⟩)
noncomputable def YE (p0 : (Ref Gengine)) (r13 : (List (Vector UInt8 16))) (s19 : (Vector UInt8 32) × Int) : Option (Fl ((Vector UInt8 32) × Int) (Vector UInt8 32)) :=
 if (decide (s19.2 < (r13.length : Int))) = true then ((idx r13 s19.2).bind fun x24 => (YL p0 s19.1 x24).bind fun r29 => some (Fl.nx (r29, wr (s19.2 + 1)))) else (some (Fl.ex s19.1))
noncomputable def Xk (p0 : (Ref Gengine)) (p1 : (List (List UInt8))) : Option ((Vector UInt8 32)) :=
 (Xr).bind fun r3 => (Z6 p1).bind fun r7 => (Wn r7).bind fun r10 => (Va r10).bind fun r13 => (ZG (YE p0 r13) (r3, 0) : Option ((Vector UInt8 32))).bind fun j16 => some j16
theorem c_impl_engine_digest (w0 : World) (p0 : (Ref Gengine)) (v0_1 : Value) (hv0_1 : Ro w0 p0 [v0_1]) (p1 : (List (List UInt8))) (v1_1 : Value) (hv1_1 : Ro w0 p1 [v1_1]) (r : (Vector UInt8 32)) (hF : Xk p0 p1 = some r) :
  Calls Try.prog 70 [v0_1, v1_1].toArray w0 (fun en w' => ∃ v, en = .returned v ∧ (v = (Value.agg (Flat.enc r).toArray) ∧ Kept (Old w0) w0 w')) := by
 refine ZC (n := 24) Try.func70 rfl rfl (Nat.le_of_ble_eq_true rfl) rfl ?_
 intro a hE
 have hM := M.start w0
 unfold Xk at hF
 refine Zc (ZO hE hM Za (dl rfl) Yi ?_); intro b1 w a hM hE
 refine Zf (Zc ?_)
 obtain ⟨r3, e4, hF⟩ := bind_some hF
 refine Zw (vs := []) hE Za (dl rfl) rfl cb91 (c_impl_StartOfDigest _  r3 e4) ?_
 rintro v w a ⟨rfl, hK⟩ hE
 have hM := hM.keep hK
 refine ZO hE hM Za (dl rfl) Yi ?_; intro b5 w a hM hE
 refine Zs (seg := Flat.enc r3) (cs' := Flat.enc r3) hE hM Za rfl rfl rfl Yi (Flat.len _) (zle flq) (Flat.cell _) (Zq flq) ?_; intro w a hM hE
 refine Zf (wp_seq (Zc (Zd hE Za (dl rfl) rfl ?_))); intro a hE
 obtain ⟨r7, e8, hF⟩ := bind_some hF
 refine Zw (vs := [v1_1]) hE Za (dl rfl) rfl cb94 (V6 _ p1 v1_1 (hM.rdo hv1_1) r7 e8) ?_
 rintro u9 w a ⟨_, rfl, hFr, hK⟩ hE
 have hM := hM.add hK hFr
 obtain ⟨r10, e11, hF⟩ := bind_some hF
 refine Zw (vs := [u9]) hE Za (dl rfl) rfl cb93 (c_impl_padMessage _ r7 u9 (hM.sl (pre := []) noB) r10 e11) ?_
 rintro u12 w a ⟨_, rfl, hFr, hK⟩ hE
 have hM := hM.add hK hFr
 obtain ⟨r13, e14, hF⟩ := bind_some hF
 refine Zw (vs := [u12]) hE Za (dl rfl) rfl cb92 (c_impl_blocksOf _ r10 u12 (hM.sl (pre := []) noB) r13 e14) ?_
 rintro u15 w a ⟨_, rfl, hFr, hK⟩ hE
 have hM := hM.add hK hFr
 refine Z8 hE Za (dl rfl) rfl Try.underlying34 (hM.sl (pre := []) noB) ?_; intro a hE
 refine Zd hE Za (dl rfl) rfl ?_; intro a hE
 refine Zf ?_
 obtain ⟨j16, hl17, hF18⟩ := bind_some hF
 refine ZW (fun a w => Env 24 a [(4, (ptr b1 0)), (5, (ptr b5 0))] ∧ M (Old w0) w0 w [raw b5 (Flat.enc j16), raw b1 (Flat.enc (Vector.replicate 32 (0 : UInt8)))]) ?_ ?_
 ·skip
  refine wp_block ?_
  have hM := hM.pull (pre := [_, _, _, _])
  have hM := hM.pull (pre := [_, _, _, _])
  have hM := hM.pull (pre := [_, _])
  have hM := M.fst (l := [_, _, _]) hM
  refine ZM (fun (s19 : (Vector UInt8 32) × Int) a w => Env 24 a [(0, v0_1), (4, (ptr b1 0)), (5, (ptr b5 0)), (12, u15), (13, (vI (r13.length : Int))), (14, (vI s19.2))] ∧ M (Old w0) w0 w [osl NoB (r13 : List (Vector UInt8 16)) u15, raw b5 (Flat.enc s19.1), raw b1 (Flat.enc (Vector.replicate 32 (0 : UInt8)))]) hl17 ⟨hE.sub ⟨rfl, rfl, rfl, rfl, rfl, rfl, trivial⟩, hM⟩ ?_
  rintro s19 a w ⟨hE, hM⟩ o22 hs20 hx21
  unfold YE at hs20
  refine Zc (Zh hE Za (dl rfl) rfl rfl rfl ?_); intro a hE
  refine Zf (wp_seq ?_)
  refine Zt hE rfl ?_ ?_
  ·intro hb23
   have hs20 := Zz hs20 hb23
   refine wp_skip (Zx (wp_seq (wp_block (Zc ?_))))
   obtain ⟨x24, e25, hs20⟩ := bind_some hs20
   have hi26 := ZQ e25
   refine ZK hE Za (dl rfl) rfl rfl Try.underlying34 ZP (hM.sl (pre := []) noB) hi26.1 ?_; intro a hE
   refine Zp (cs := Flat.enc x24) hE Za (dl rfl) rfl ZP rfl (Yr (hM.sl (pre := []) noB) hi26.2) (Flat.len _) ?_; intro a hE
   refine ZO hE hM Za (dl rfl) ZP ?_; intro b27 w a hM hE
   refine Zs (seg := Flat.enc x24) (cs' := Flat.enc x24) hE hM Za rfl rfl rfl ZP (Flat.len _) (zle flq) (Flat.cell _) (Zq flq) ?_; intro w a hM hE
   refine Zf (wp_region_lit (Zd hE Za (dl rfl) rfl ?_)); intro a hE
   refine Zp (cs := Flat.enc s19.1) hE Za (dl rfl) rfl Yi rfl (hM.rawAt (pre := [_, _])) (Flat.len _) ?_; intro a hE
   refine Zp (cs := Flat.enc x24) hE Za (dl rfl) rfl ZP rfl (hM.rawAt (pre := [])) (Flat.len _) ?_; intro a hE
   obtain ⟨r29, e30, hs20⟩ := bind_some hs20
   refine Zw (vs := [v0_1, (Value.agg (Flat.enc s19.1).toArray), (Value.agg (Flat.enc x24).toArray)]) hE Za (dl rfl) rfl cb95 (c_impl_engine_absorb _ p0 v0_1 (hM.rdo hv0_1) s19.1 x24 r29 e30) ?_
   rintro v w a ⟨rfl, hK⟩ hE
   have hM := hM.keep hK
   have hM := hM.pull (pre := [_, _])
   refine Zs (seg := Flat.enc r29) (cs' := Flat.enc r29) hE hM Za rfl rfl rfl Yi (Flat.len _) (zle flq) (Flat.cell _) (Zq flq) ?_; intro w a hM hE
   refine Zj (Yj (Zx (wp_region_lit (Zh hE Za (dl rfl) rfl rfl rfl ?_)))); intro a hE
   refine Zd hE Za (dl rfl) rfl ?_; intro a hE
   refine Zj (Zl ?_)
   have hM := hM.pull (pre := [_, _, _])
   have hM := hM.pull (pre := [_])
   have hM := hM.pull (pre := [_, _, _])
   have hM := M.fst (l := [_, _, _]) hM
   exact ⟨_, (Option.some.inj hs20).symm, hE.sub ⟨rfl, rfl, rfl, rfl, rfl, rfl, trivial⟩, hM⟩
  ·intro hb23
   have hs20 := ZA hs20 hb23
   refine wp_exit (Zr (Zr (Yk ?_)))
   have ht31 := hx21 _ (Option.some.inj hs20).symm
   subst ht31
   refine Zl ?_
   have hM := hM.pull (pre := [_, _])
   have hM := hM.pull (pre := [_, _])
   have hM := M.fst (l := [_, _]) hM
   exact ⟨hE.sub ⟨rfl, rfl, trivial⟩, hM⟩
 ·skip
  rintro a w ⟨hE, hM⟩
  refine Zx (Zc (Zp (cs := Flat.enc j16) hE Za (dl rfl) rfl Yi rfl (hM.rawAt (pre := [])) (Flat.len _) ?_)); intro a hE
  have hM := hM.pull (pre := [_])
  refine Zs (seg := Flat.enc j16) (cs' := Flat.enc j16) hE hM Za rfl rfl rfl Yi (Flat.len _) (zle flq) (Flat.cell _) (Zq flq) ?_; intro w a hM hE
  refine Zf ?_
  have hr := Option.some.inj hF18
  subst hr
  have hq32 : YR Try.prog _ _ (.cell 4 25) _ := Z7 hE rfl Yi rfl (hM.rawAt (pre := [])) (Flat.len _) rfl
  have hM := M.fst (l := []) hM
  exact wp_ret (Zy hE rfl hq32 ⟨_, rfl, rfl, hM.kept⟩)
noncomputable def Yw (p0 : Ghasher) (p1 : GBlobs) (s22 : Int) : Option (Fl Int (Fl Unit Bool)) :=
 if (decide (s22 < (p1.Data.length : Int))) = true then ((idx p1.Data s22).bind fun x27 => ((F_impl_isData x27).bind fun r39 => if (!r39) = true then (some true) else ((idx p1.Counts s22).bind fun x43 => (VD x43 1 1000000).bind fun r46 => if (!r46) = true then (some true) else ((Xk p0.engine ([x27] : (List (List UInt8)))).bind fun r54 => (idx p1.Keys s22).bind fun x56 => some (!decide (r54 = x56)))) : Option (Bool)).bind fun j35 => if j35 = true then (some (Fl.ex (Fl.ex false))) else (some (Fl.nx (wr (s22 + 1))))) else (some (Fl.ex (Fl.nx ())))
noncomputable def Y7 (p0 : Ghasher) (p1 : GBlobs) : Option (Bool) :=
 (if (decide ((p1.Keys.length : Int) > 32)) = true then (some true) else (if ((p1.Data.length : Int) != (p1.Keys.length : Int)) = true then (some true) else (if ((p1.Counts.length : Int) != (p1.Keys.length : Int)) = true then (some true) else ((VK p1.Keys).bind fun r14 => some (!r14)))) : Option (Bool)).bind fun j5 => if j5 = true then (some false) else ((ZG (Yw p0 p1) 0 : Option (Fl Unit Bool)).bind fun j18 => j18.el (fun s21 => some true) (fun r => some r))
theorem c_impl_hasher_isBlobs (w0 : World) (p0 : Ghasher) (v0_1 : Value) (hv0_1 : Ro w0 p0.engine [v0_1]) (p1 : GBlobs) (v1_1 : Value) (hv1_1 : Ro w0 p1.Keys [v1_1]) (v1_2 : Value) (hv1_2 : Ro w0 p1.Data [v1_2]) (v1_3 : Value) (hv1_3 : Ro w0 p1.Counts [v1_3]) (r : Bool) (hF : Y7 p0 p1 = some r) :
  Calls Try.prog 98 [(Value.agg (cat [[v0_1]]).toArray), (Value.agg (cat [[v1_1], [v1_2], [v1_3]]).toArray)].toArray w0 (fun en w' => ∃ v, en = .returned v ∧ (v = (vT r) ∧ Kept (Old w0) w0 w')) := by
 refine ZC (n := 69) Try.func98 rfl rfl (Nat.le_of_ble_eq_true rfl) rfl ?_
 intro a hE
 have hM := M.start w0
 unfold Y7 at hF
 refine Zc (Z5 (cs := cat [[v0_1]]) hE hM Za (dl rfl) rfl rfl ?_); intro b1 w a hM hE
 refine Z5 (cs := cat [[v1_1], [v1_2], [v1_3]]) hE hM Za (dl rfl) rfl rfl ?_; intro b3 w a hM hE
 refine Ze hE Za (dl rfl) rfl ?_; intro a hE
 refine Zf (wp_seq ?_)
 obtain ⟨j5, hl6, hF7⟩ := bind_some hF
 refine ZS (fun a w => Env 69 a [(2, (ptr b1 0)), (3, (ptr b3 0)), (34, (vT j5))] ∧ M (Old w0) w0 w [raw b3 (cat [[v1_1], [v1_2], [v1_3]]), raw b1 (cat [[v0_1]])]) ?_ ?_
 ·skip
  refine wp_region_lit (Zo hE Za (dl rfl) rfl (VH) ?_); intro a hE
  refine Zv (v := v1_1) hE Za (dl rfl) rfl ty53 rfl (At.cat (pre := []) (hM.rawAt (pre := [])) cl0) ?_; intro a hE
  refine Z8 hE Za (dl rfl) rfl Try.underlying53 (hM.rd hv1_1) ?_; intro a hE
  refine Zh hE Za (dl rfl) rfl rfl rfl ?_; intro a hE
  refine Zd hE Za (dl rfl) rfl ?_; intro a hE
  refine WV (decide ((p1.Keys.length : Int) > 32)) (fun hb8 => ?_) (fun hb8 => ?_)
  ·have hl6 := Zz hl6 hb8
   refine Zn hE rfl (lkb rfl hb8) rfl (by decide) ?_; intro a hE
   refine Zn hE rfl (lkb rfl hb8) rfl (by decide) ?_; intro a hE
   refine Zn hE rfl (lkb rfl hb8) rfl (by decide) ?_; intro a hE
   refine Zn hE rfl (lkb rfl hb8) rfl (by decide) ?_; intro a hE
   refine Zn hE rfl (lkb rfl hb8) rfl (by decide) ?_; intro a hE
   refine Zn hE rfl (lkb rfl hb8) rfl (by decide) ?_; intro a hE
   refine Zn hE rfl (lkb rfl hb8) rfl (by decide) ?_; intro a hE
   refine Yn hE Za (dl rfl) (lkb rfl hb8) rfl ?_; intro a hE
   refine Zd hE Za (dl rfl) rfl ?_; intro a hE
   refine Zn hE rfl rfl rfl (by decide) ?_; intro a hE
   refine Zn hE rfl rfl rfl (by decide) ?_; intro a hE
   refine Zn hE rfl rfl rfl (by decide) ?_; intro a hE
   refine Zn hE rfl rfl rfl (by decide) ?_; intro a hE
   refine Zn hE rfl rfl rfl (by decide) ?_; intro a hE
   refine Zn hE rfl rfl rfl (by decide) ?_; intro a hE
   refine Zn hE rfl rfl rfl (by decide) ?_; intro a hE
   refine Yn hE Za (dl rfl) rfl rfl ?_; intro a hE
   refine Zd hE Za (dl rfl) rfl ?_; intro a hE
   refine Zn hE rfl rfl rfl (by decide) ?_; intro a hE
   refine Zn hE rfl rfl rfl (by decide) ?_; intro a hE
   refine Zn hE rfl rfl rfl (by decide) ?_; intro a hE
   refine Zn hE rfl rfl rfl (by decide) ?_; intro a hE
   refine Yn hE Za (dl rfl) rfl rfl ?_; intro a hE
   refine Zj ?_
   have ht9 := Option.some.inj hl6
   subst ht9
   refine Zl ?_
   exact ⟨hE.sub ⟨rfl, rfl, rfl, trivial⟩, hM⟩
  ·have hl6 := ZA hl6 hb8
   refine Zo hE (Zk hE rfl (lkb rfl hb8)) (by decide) rfl (UE) ?_; intro a hE
   refine Zv (v := v1_2) hE (Zk hE rfl (lkb rfl hb8)) (by decide) rfl ty45 rfl (At.cat (pre := [[v1_1]]) (hM.rawAt (pre := [])) (cl1 (n := 1) (m := 0) rfl cl0)) ?_; intro a hE
   refine Z8 hE (Zk hE rfl (lkb rfl hb8)) (by decide) rfl Try.underlying45 (hM.rd hv1_2) ?_; intro a hE
   refine Zo hE (Zk hE rfl (lkb rfl hb8)) (by decide) rfl (VH) ?_; intro a hE
   refine Zv (v := v1_1) hE (Zk hE rfl (lkb rfl hb8)) (by decide) rfl ty53 rfl (At.cat (pre := []) (hM.rawAt (pre := [])) cl0) ?_; intro a hE
   refine Z8 hE (Zk hE rfl (lkb rfl hb8)) (by decide) rfl Try.underlying53 (hM.rd hv1_1) ?_; intro a hE
   refine Zh hE (Zk hE rfl (lkb rfl hb8)) (by decide) rfl rfl rfl ?_; intro a hE
   refine YQ hE Za (dl rfl) (lkb rfl hb8) rfl ?_; intro a hE
   refine Zd hE Za (dl rfl) rfl ?_; intro a hE
   refine WV ((p1.Data.length : Int) != (p1.Keys.length : Int)) (fun hb10 => ?_) (fun hb10 => ?_)
   ·have hl6 := Zz hl6 hb10
    refine Zn hE rfl (lkb rfl hb10) rfl (by decide) ?_; intro a hE
    refine Zn hE rfl (lkb rfl hb10) rfl (by decide) ?_; intro a hE
    refine Zn hE rfl (lkb rfl hb10) rfl (by decide) ?_; intro a hE
    refine Zn hE rfl (lkb rfl hb10) rfl (by decide) ?_; intro a hE
    refine Zn hE rfl (lkb rfl hb10) rfl (by decide) ?_; intro a hE
    refine Zn hE rfl (lkb rfl hb10) rfl (by decide) ?_; intro a hE
    refine Zn hE rfl (lkb rfl hb10) rfl (by decide) ?_; intro a hE
    refine Yn hE Za (dl rfl) (lkb rfl hb10) rfl ?_; intro a hE
    refine Zd hE Za (dl rfl) rfl ?_; intro a hE
    refine Zn hE rfl rfl rfl (by decide) ?_; intro a hE
    refine Zn hE rfl rfl rfl (by decide) ?_; intro a hE
    refine Zn hE rfl rfl rfl (by decide) ?_; intro a hE
    refine Zn hE rfl rfl rfl (by decide) ?_; intro a hE
    refine Yn hE Za (dl rfl) rfl rfl ?_; intro a hE
    refine Zj ?_
    have ht11 := Option.some.inj hl6
    subst ht11
    refine Zl ?_
    exact ⟨hE.sub ⟨rfl, rfl, rfl, trivial⟩, hM⟩
   ·have hl6 := ZA hl6 hb10
    refine Zo hE (Zk hE rfl (lkb rfl hb10)) (by decide) rfl (fd55_2) ?_; intro a hE
    refine Zv (v := v1_3) hE (Zk hE rfl (lkb rfl hb10)) (by decide) rfl ty46 rfl (At.cat (pre := [[v1_1], [v1_2]]) (hM.rawAt (pre := [])) (cl1 (n := 1) (m := 1) rfl (cl1 (n := 1) (m := 0) rfl cl0))) ?_; intro a hE
    refine Z8 hE (Zk hE rfl (lkb rfl hb10)) (by decide) rfl Try.underlying46 (hM.rd hv1_3) ?_; intro a hE
    refine Zo hE (Zk hE rfl (lkb rfl hb10)) (by decide) rfl (VH) ?_; intro a hE
    refine Zv (v := v1_1) hE (Zk hE rfl (lkb rfl hb10)) (by decide) rfl ty53 rfl (At.cat (pre := []) (hM.rawAt (pre := [])) cl0) ?_; intro a hE
    refine Z8 hE (Zk hE rfl (lkb rfl hb10)) (by decide) rfl Try.underlying53 (hM.rd hv1_1) ?_; intro a hE
    refine Zh hE (Zk hE rfl (lkb rfl hb10)) (by decide) rfl rfl rfl ?_; intro a hE
    refine YQ hE Za (dl rfl) (lkb rfl hb10) rfl ?_; intro a hE
    refine Zd hE Za (dl rfl) rfl ?_; intro a hE
    refine WV ((p1.Counts.length : Int) != (p1.Keys.length : Int)) (fun hb12 => ?_) (fun hb12 => ?_)
    ·have hl6 := Zz hl6 hb12
     refine Zn hE rfl (lkb rfl hb12) rfl (by decide) ?_; intro a hE
     refine Zn hE rfl (lkb rfl hb12) rfl (by decide) ?_; intro a hE
     refine Zn hE rfl (lkb rfl hb12) rfl (by decide) ?_; intro a hE
     refine Zn hE rfl (lkb rfl hb12) rfl (by decide) ?_; intro a hE
     refine Yn hE Za (dl rfl) (lkb rfl hb12) rfl ?_; intro a hE
     refine Zj ?_
     have ht13 := Option.some.inj hl6
     subst ht13
     refine Zl ?_
     exact ⟨hE.sub ⟨rfl, rfl, rfl, trivial⟩, hM⟩
    ·have hl6 := ZA hl6 hb12
     refine Zo hE (Zk hE rfl (lkb rfl hb12)) (by decide) rfl (VH) ?_; intro a hE
     refine Zv (v := v1_1) hE (Zk hE rfl (lkb rfl hb12)) (by decide) rfl ty53 rfl (At.cat (pre := []) (hM.rawAt (pre := [])) cl0) ?_; intro a hE
     obtain ⟨r14, e15, hl6⟩ := bind_some hl6
     refine Zw (vs := [v1_1]) hE (Zk hE rfl (lkb rfl hb12)) (by decide) rfl cb116 (c_impl_ascends _ p1.Keys v1_1 (hM.rdo hv1_1) r14 e15) ?_
     rintro v w a ⟨rfl, hK⟩ hE
     have hM := hM.keep hK
     refine Un hE (Zk hE rfl (lkb rfl hb12)) (by decide) rfl ?_; intro a hE
     refine YQ hE Za (dl rfl) (lkb rfl hb12) rfl ?_; intro a hE
     refine Zj ?_
     have ht16 := Option.some.inj hl6
     subst ht16
     refine Zl ?_
     exact ⟨hE.sub ⟨rfl, rfl, rfl, trivial⟩, hM⟩
 ·skip
  rintro a w ⟨hE, hM⟩
  refine Zt hE rfl ?_ ?_
  ·intro hb17
   have hF7 := Zz hF7 hb17
   refine Zc (Ze hE Za (dl rfl) rfl ?_); intro a hE
   refine Zf ?_
   have hr := Option.some.inj hF7
   subst hr
   have hM := M.fst (l := []) hM
   exact wp_ret (ZL (Zy hE rfl (Zu hE rfl) ⟨_, rfl, rfl, hM.kept⟩))
  ·intro hb17
   have hF7 := ZA hF7 hb17
   refine wp_skip (Zx (wp_seq (Zc (Zo hE Za (dl rfl) rfl (UE) ?_)))); intro a hE
   refine Zv (v := v1_2) hE Za (dl rfl) rfl ty45 rfl (At.cat (pre := [[v1_1]]) (hM.rawAt (pre := [])) (cl1 (n := 1) (m := 0) rfl cl0)) ?_; intro a hE
   refine Z8 hE Za (dl rfl) rfl Try.underlying45 (hM.rd hv1_2) ?_; intro a hE
   refine Zd hE Za (dl rfl) rfl ?_; intro a hE
   refine Zf ?_
   obtain ⟨j18, hl19, hF20⟩ := bind_some hF7
   refine ZW (fun a w => ∃ s21 : Unit, j18 = Fl.nx s21 ∧ Env 69 a [] ∧ M (Old w0) w0 w []) ?_ ?_
   ·skip
    refine wp_block ?_
    refine ZM (fun (s22 : Int) a w => Env 69 a [(2, (ptr b1 0)), (3, (ptr b3 0)), (36, v1_2), (37, (vI (p1.Data.length : Int))), (38, (vI s22))] ∧ M (Old w0) w0 w [raw b3 (cat [[v1_1], [v1_2], [v1_3]]), raw b1 (cat [[v0_1]])]) hl19 ⟨hE.sub ⟨rfl, rfl, rfl, rfl, rfl, trivial⟩, hM⟩ ?_
    rintro s22 a w ⟨hE, hM⟩ o25 hs23 hx24
    unfold Yw at hs23
    refine Zc (Zh hE Za (dl rfl) rfl rfl rfl ?_); intro a hE
    refine Zf (wp_seq ?_)
    refine Zt hE rfl ?_ ?_
    ·intro hb26
     have hs23 := Zz hs23 hb26
     refine wp_skip (Zx (wp_seq (wp_block (Zc (Zd hE Za (dl rfl) rfl ?_))))); intro a hE
     obtain ⟨x27, e28, hs23⟩ := bind_some hs23
     have hi29 := ZQ e28
     refine ZK hE Za (dl rfl) rfl rfl Try.underlying45 Vz (hM.rd hv1_2) hi29.1 ?_; intro a hE
     obtain ⟨cs30, hs31, hA32⟩ := Uz hv1_2 hi29.2 -- ^
     obtain ⟨u33, rfl⟩ := Vo hs31 -- ^
     have h34 := hs31 -- ^
     refine Zv (v := u33) hE Za (dl rfl) rfl Vz rfl (hM.atk hA32 (Ux hv1_2 hi29.2)) ?_; intro a hE
     refine Ze hE Za (dl rfl) rfl ?_; intro a hE
     refine Ze hE Za (dl rfl) rfl ?_; intro a hE
     refine Zf ?_
     obtain ⟨j35, hl36, hF37⟩ := bind_some hs23
     refine ZS (fun a w => Env 69 a [(2, (ptr b1 0)), (3, (ptr b3 0)), (36, v1_2), (37, (vI (p1.Data.length : Int))), (38, (vI s22)), (67, (vT j35))] ∧ M (Old w0) w0 w [raw b3 (cat [[v1_1], [v1_2], [v1_3]]), raw b1 (cat [[v0_1]])]) ?_ ?_
     ·skip
      obtain ⟨r39, e40, hl36⟩ := bind_some hl36
      refine WV (!r39) (fun hb41 => ?_) (fun hb41 => ?_)
      ·have hl36 := Zz hl36 hb41
       refine Wz (n := 69) (hd := [_, _, _, _, _, _, _, _, _, _, _, _, _, _, _, _, _, _, _, _, _, _, _]) (tl := [_, _]) YB rfl rfl [43, 44, 45, 46, 47, 48, 49, 50, 51, 52, 53, 54, 55, 56, 57, 58, 59, 60, 61, 62, 63, 64, 65] (by decide) (fun D u w => M (Old w0) w0 w ([raw b3 (cat [[v1_1], [v1_2], [v1_3]]), raw b1 (cat [[v0_1]])] ++ qL ([] : Mk) D u) ∧ GOk ([([], fun us v => v = u33), ([], fun us v => v = (vT r39)), ([], fun us v => v = (vT (!r39))), ([], fun us v => v = (vT (!r39))), ([], fun us v => v = undef), ([], fun us v => v = undef), ([], fun us v => v = undef), ([], fun us v => v = undef), ([], fun us v => v = undef), ([], fun us v => v = undef), ([], fun us v => v = undef), ([], fun us v => v = (vT true)), ([], fun us v => v = (vT true)), ([], fun us v => v = undef), ([], fun us v => v = undef), ([], fun us v => v = undef), ([], fun us v => v = undef), ([], fun us v => v = undef), ([], fun us v => v = undef), ([], fun us v => v = undef), ([], fun us v => v = undef), ([], fun us v => v = undef), ([], fun us v => v = undef)] : Gs) D u) hE (fun u => ⟨M.q0 hM.drew u, gok0⟩) (ZH (Zb ?_ (Zb ?_ (Zb ?_ (Zb ?_ (Zb ?_ (Zb ?_ (Zb ?_ (Zb ?_ (Zb ?_ (Zb ?_ (Zb ?_ (Zb ?_ (Zb ?_ (Zb ?_ (Zb ?_ (Zb ?_ (Zb ?_ (Zb ?_ (Zb ?_ (Zb ?_ (Zb ?_ (Zb ?_ (Zb ?_ ZD)))))))))))))))))))))))) ?_
       ·intro a w ux38 D hE hI hD hdc hp
        have hM0 := hI.1
        refine Zd hE Za (dl rfl) rfl ?_; intro a hE
        exact ⟨_, _, rfl, hE, M.qKeep hM0 rfl, hI.2.put hD rfl ZF rfl⟩
       ·intro a w ux38 D hE hI hD hdc hp
        have d0 : D 0 = true := hp 0 _ rfl rfl
        have g0 := hI.2 0 d0 _ rfl
        have f0 : ux38 0 = u33 := g0.2
        have hM0 := hI.1
        have hM := hI.1
        refine Zw (vs := [u33]) hE Za (dl rfl) (Z0 (ZZ (lk rfl f0) Xh)) cb117 (c_impl_isData _ x27 u33 (hM.rdo h34) r39 e40) ?_
        rintro v w a ⟨rfl, hK⟩ hE
        exact ⟨_, _, rfl, hE, M.qKeep (hM0.keep hK) rfl, hI.2.put hD rfl ZF rfl⟩
       ·intro a w ux38 D hE hI hD hdc hp
        have d1 : D 1 = true := hp 0 _ rfl rfl
        have g1 := hI.2 1 d1 _ rfl
        have f1 : ux38 1 = (vT r39) := g1.2
        have hM0 := hI.1
        refine Un hE Za (dl rfl) (lk rfl f1) ?_; intro a hE
        exact ⟨_, _, rfl, hE, M.qKeep hM0 rfl, hI.2.put hD rfl ZF rfl⟩
       ·intro a w ux38 D hE hI hD hdc hp
        have d2 : D 2 = true := hp 0 _ rfl rfl
        have g2 := hI.2 2 d2 _ rfl
        have f2 : ux38 2 = (vT (!r39)) := g2.2
        have hM0 := hI.1
        refine Zd hE Za (dl rfl) (lk rfl f2) ?_; intro a hE
        exact ⟨_, _, rfl, hE, M.qKeep hM0 rfl, hI.2.put hD rfl ZF rfl⟩
       ·intro a w ux38 D hE hI hD hdc hp
        have d3 : D 3 = true := hp 0 _ rfl rfl
        have g3 := hI.2 3 d3 _ rfl
        have f3 : ux38 3 = (vT (!r39)) := g3.2
        have hM0 := hI.1
        refine Zn hE rfl (lkb (lk rfl f3) hb41) rfl (by decide) ?_; intro a hE
        exact ⟨_, _, rfl, hE, M.qKeep hM0 rfl, hI.2.put hD rfl ZF rfl⟩
       ·intro a w ux38 D hE hI hD hdc hp
        have d3 : D 3 = true := hp 1 _ rfl rfl
        have g3 := hI.2 3 d3 _ rfl
        have f3 : ux38 3 = (vT (!r39)) := g3.2
        have d4 : D 4 = true := hp 0 _ rfl rfl
        have g4 := hI.2 4 d4 _ rfl
        have f4 : ux38 4 = undef := g4.2
        have hM0 := hI.1
        refine Zn hE rfl (lkb (lk rfl f3) hb41) rfl (by decide) ?_; intro a hE
        exact ⟨_, _, rfl, hE, M.qKeep hM0 rfl, hI.2.put hD rfl ZF rfl⟩
       ·intro a w ux38 D hE hI hD hdc hp
        have d3 : D 3 = true := hp 0 _ rfl rfl
        have g3 := hI.2 3 d3 _ rfl
        have f3 : ux38 3 = (vT (!r39)) := g3.2
        have hM0 := hI.1
        refine Zn hE rfl (lkb (lk rfl f3) hb41) rfl (by decide) ?_; intro a hE
        exact ⟨_, _, rfl, hE, M.qKeep hM0 rfl, hI.2.put hD rfl ZF rfl⟩
       ·intro a w ux38 D hE hI hD hdc hp
        have d3 : D 3 = true := hp 2 _ rfl rfl
        have g3 := hI.2 3 d3 _ rfl
        have f3 : ux38 3 = (vT (!r39)) := g3.2
        have d5 : D 5 = true := hp 0 _ rfl rfl
        have g5 := hI.2 5 d5 _ rfl
        have f5 : ux38 5 = undef := g5.2
        have d6 : D 6 = true := hp 1 _ rfl rfl
        have g6 := hI.2 6 d6 _ rfl
        have f6 : ux38 6 = undef := g6.2
        have hM0 := hI.1
        refine Zn hE rfl (lkb (lk rfl f3) hb41) rfl (by decide) ?_; intro a hE
        exact ⟨_, _, rfl, hE, M.qKeep hM0 rfl, hI.2.put hD rfl ZF rfl⟩
       ·intro a w ux38 D hE hI hD hdc hp
        have d3 : D 3 = true := hp 1 _ rfl rfl
        have g3 := hI.2 3 d3 _ rfl
        have f3 : ux38 3 = (vT (!r39)) := g3.2
        have d7 : D 7 = true := hp 0 _ rfl rfl
        have g7 := hI.2 7 d7 _ rfl
        have f7 : ux38 7 = undef := g7.2
        have hM0 := hI.1
        refine Zn hE rfl (lkb (lk rfl f3) hb41) rfl (by decide) ?_; intro a hE
        exact ⟨_, _, rfl, hE, M.qKeep hM0 rfl, hI.2.put hD rfl ZF rfl⟩
       ·intro a w ux38 D hE hI hD hdc hp
        have d3 : D 3 = true := hp 1 _ rfl rfl
        have g3 := hI.2 3 d3 _ rfl
        have f3 : ux38 3 = (vT (!r39)) := g3.2
        have d8 : D 8 = true := hp 0 _ rfl rfl
        have g8 := hI.2 8 d8 _ rfl
        have f8 : ux38 8 = undef := g8.2
        have hM0 := hI.1
        refine Zn hE rfl (lkb (lk rfl f3) hb41) rfl (by decide) ?_; intro a hE
        exact ⟨_, _, rfl, hE, M.qKeep hM0 rfl, hI.2.put hD rfl ZF rfl⟩
       ·intro a w ux38 D hE hI hD hdc hp
        have d3 : D 3 = true := hp 1 _ rfl rfl
        have g3 := hI.2 3 d3 _ rfl
        have f3 : ux38 3 = (vT (!r39)) := g3.2
        have d9 : D 9 = true := hp 0 _ rfl rfl
        have g9 := hI.2 9 d9 _ rfl
        have f9 : ux38 9 = undef := g9.2
        have hM0 := hI.1
        refine Zn hE rfl (lkb (lk rfl f3) hb41) rfl (by decide) ?_; intro a hE
        exact ⟨_, _, rfl, hE, M.qKeep hM0 rfl, hI.2.put hD rfl ZF rfl⟩
       ·intro a w ux38 D hE hI hD hdc hp
        have d3 : D 3 = true := hp 0 _ rfl rfl
        have g3 := hI.2 3 d3 _ rfl
        have f3 : ux38 3 = (vT (!r39)) := g3.2
        have d10 : D 10 = true := hp 1 _ rfl rfl
        have g10 := hI.2 10 d10 _ rfl
        have f10 : ux38 10 = undef := g10.2
        have hM0 := hI.1
        refine Yn hE Za (dl rfl) (lkb (lk rfl f3) hb41) rfl ?_; intro a hE
        exact ⟨_, _, rfl, hE, M.qKeep hM0 rfl, hI.2.put hD rfl ZF rfl⟩
       ·intro a w ux38 D hE hI hD hdc hp
        have d11 : D 11 = true := hp 0 _ rfl rfl
        have g11 := hI.2 11 d11 _ rfl
        have f11 : ux38 11 = (vT true) := g11.2
        have hM0 := hI.1
        refine Zd hE Za (dl rfl) (lk rfl f11) ?_; intro a hE
        exact ⟨_, _, rfl, hE, M.qKeep hM0 rfl, hI.2.put hD rfl ZF rfl⟩
       ·intro a w ux38 D hE hI hD hdc hp
        have d12 : D 12 = true := hp 0 _ rfl rfl
        have g12 := hI.2 12 d12 _ rfl
        have f12 : ux38 12 = (vT true) := g12.2
        have hM0 := hI.1
        refine Zn hE rfl (lk rfl f12) rfl (by decide) ?_; intro a hE
        exact ⟨_, _, rfl, hE, M.qKeep hM0 rfl, hI.2.put hD rfl ZF rfl⟩
       ·intro a w ux38 D hE hI hD hdc hp
        have d12 : D 12 = true := hp 1 _ rfl rfl
        have g12 := hI.2 12 d12 _ rfl
        have f12 : ux38 12 = (vT true) := g12.2
        have d13 : D 13 = true := hp 0 _ rfl rfl
        have g13 := hI.2 13 d13 _ rfl
        have f13 : ux38 13 = undef := g13.2
        have hM0 := hI.1
        refine Zn hE rfl (lk rfl f12) rfl (by decide) ?_; intro a hE
        exact ⟨_, _, rfl, hE, M.qKeep hM0 rfl, hI.2.put hD rfl ZF rfl⟩
       ·intro a w ux38 D hE hI hD hdc hp
        have d12 : D 12 = true := hp 0 _ rfl rfl
        have g12 := hI.2 12 d12 _ rfl
        have f12 : ux38 12 = (vT true) := g12.2
        have hM0 := hI.1
        refine Zn hE rfl (lk rfl f12) rfl (by decide) ?_; intro a hE
        exact ⟨_, _, rfl, hE, M.qKeep hM0 rfl, hI.2.put hD rfl ZF rfl⟩
       ·intro a w ux38 D hE hI hD hdc hp
        have d12 : D 12 = true := hp 1 _ rfl rfl
        have g12 := hI.2 12 d12 _ rfl
        have f12 : ux38 12 = (vT true) := g12.2
        have d15 : D 15 = true := hp 0 _ rfl rfl
        have g15 := hI.2 15 d15 _ rfl
        have f15 : ux38 15 = undef := g15.2
        have hM0 := hI.1
        refine Zn hE rfl (lk rfl f12) rfl (by decide) ?_; intro a hE
        exact ⟨_, _, rfl, hE, M.qKeep hM0 rfl, hI.2.put hD rfl ZF rfl⟩
       ·intro a w ux38 D hE hI hD hdc hp
        have d12 : D 12 = true := hp 2 _ rfl rfl
        have g12 := hI.2 12 d12 _ rfl
        have f12 : ux38 12 = (vT true) := g12.2
        have d14 : D 14 = true := hp 0 _ rfl rfl
        have g14 := hI.2 14 d14 _ rfl
        have f14 : ux38 14 = undef := g14.2
        have d16 : D 16 = true := hp 1 _ rfl rfl
        have g16 := hI.2 16 d16 _ rfl
        have f16 : ux38 16 = undef := g16.2
        have hM0 := hI.1
        refine Zn hE rfl (lk rfl f12) rfl (by decide) ?_; intro a hE
        exact ⟨_, _, rfl, hE, M.qKeep hM0 rfl, hI.2.put hD rfl ZF rfl⟩
       ·intro a w ux38 D hE hI hD hdc hp
        have d12 : D 12 = true := hp 0 _ rfl rfl
        have g12 := hI.2 12 d12 _ rfl
        have f12 : ux38 12 = (vT true) := g12.2
        have hM0 := hI.1
        refine Zn hE rfl (lk rfl f12) rfl (by decide) ?_; intro a hE
        exact ⟨_, _, rfl, hE, M.qKeep hM0 rfl, hI.2.put hD rfl ZF rfl⟩
       ·intro a w ux38 D hE hI hD hdc hp
        have d12 : D 12 = true := hp 1 _ rfl rfl
        have g12 := hI.2 12 d12 _ rfl
        have f12 : ux38 12 = (vT true) := g12.2
        have d18 : D 18 = true := hp 0 _ rfl rfl
        have g18 := hI.2 18 d18 _ rfl
        have f18 : ux38 18 = undef := g18.2
        have hM0 := hI.1
        refine Zn hE rfl (lk rfl f12) rfl (by decide) ?_; intro a hE
        exact ⟨_, _, rfl, hE, M.qKeep hM0 rfl, hI.2.put hD rfl ZF rfl⟩
       ·intro a w ux38 D hE hI hD hdc hp
        have d12 : D 12 = true := hp 0 _ rfl rfl
        have g12 := hI.2 12 d12 _ rfl
        have f12 : ux38 12 = (vT true) := g12.2
        have hM0 := hI.1
        refine Zn hE rfl (lk rfl f12) rfl (by decide) ?_; intro a hE
        exact ⟨_, _, rfl, hE, M.qKeep hM0 rfl, hI.2.put hD rfl ZF rfl⟩
       ·intro a w ux38 D hE hI hD hdc hp
        have d12 : D 12 = true := hp 2 _ rfl rfl
        have g12 := hI.2 12 d12 _ rfl
        have f12 : ux38 12 = (vT true) := g12.2
        have d19 : D 19 = true := hp 0 _ rfl rfl
        have g19 := hI.2 19 d19 _ rfl
        have f19 : ux38 19 = undef := g19.2
        have d20 : D 20 = true := hp 1 _ rfl rfl
        have g20 := hI.2 20 d20 _ rfl
        have f20 : ux38 20 = undef := g20.2
        have hM0 := hI.1
        refine Zn hE rfl (lk rfl f12) rfl (by decide) ?_; intro a hE
        exact ⟨_, _, rfl, hE, M.qKeep hM0 rfl, hI.2.put hD rfl ZF rfl⟩
       ·intro a w ux38 D hE hI hD hdc hp
        have d12 : D 12 = true := hp 1 _ rfl rfl
        have g12 := hI.2 12 d12 _ rfl
        have f12 : ux38 12 = (vT true) := g12.2
        have d21 : D 21 = true := hp 0 _ rfl rfl
        have g21 := hI.2 21 d21 _ rfl
        have f21 : ux38 21 = undef := g21.2
        have hM0 := hI.1
        refine Zn hE rfl (lk rfl f12) rfl (by decide) ?_; intro a hE
        exact ⟨_, _, rfl, hE, M.qKeep hM0 rfl, hI.2.put hD rfl ZF rfl⟩
       ·intro a w ux38 D hE hI hall
        have hM := hI.1
        have d0 : D 0 = true := hall 0 (by decide)
        have d1 : D 1 = true := hall 1 (by decide)
        have d2 : D 2 = true := hall 2 (by decide)
        have d3 : D 3 = true := hall 3 (by decide)
        have d4 : D 4 = true := hall 4 (by decide)
        have d5 : D 5 = true := hall 5 (by decide)
        have d6 : D 6 = true := hall 6 (by decide)
        have d7 : D 7 = true := hall 7 (by decide)
        have d8 : D 8 = true := hall 8 (by decide)
        have d9 : D 9 = true := hall 9 (by decide)
        have d10 : D 10 = true := hall 10 (by decide)
        have d11 : D 11 = true := hall 11 (by decide)
        have d12 : D 12 = true := hall 12 (by decide)
        have d13 : D 13 = true := hall 13 (by decide)
        have d14 : D 14 = true := hall 14 (by decide)
        have d15 : D 15 = true := hall 15 (by decide)
        have d16 : D 16 = true := hall 16 (by decide)
        have d17 : D 17 = true := hall 17 (by decide)
        have d18 : D 18 = true := hall 18 (by decide)
        have d19 : D 19 = true := hall 19 (by decide)
        have d20 : D 20 = true := hall 20 (by decide)
        have d21 : D 21 = true := hall 21 (by decide)
        have d22 : D 22 = true := hall 22 (by decide)
        have f0 : ux38 0 = u33 := (hI.2 0 d0 _ rfl).2
        have f1 : ux38 1 = (vT r39) := (hI.2 1 d1 _ rfl).2
        have f2 : ux38 2 = (vT (!r39)) := (hI.2 2 d2 _ rfl).2
        have f3 : ux38 3 = (vT (!r39)) := (hI.2 3 d3 _ rfl).2
        have f4 : ux38 4 = undef := (hI.2 4 d4 _ rfl).2
        have f5 : ux38 5 = undef := (hI.2 5 d5 _ rfl).2
        have f6 : ux38 6 = undef := (hI.2 6 d6 _ rfl).2
        have f7 : ux38 7 = undef := (hI.2 7 d7 _ rfl).2
        have f8 : ux38 8 = undef := (hI.2 8 d8 _ rfl).2
        have f9 : ux38 9 = undef := (hI.2 9 d9 _ rfl).2
        have f10 : ux38 10 = undef := (hI.2 10 d10 _ rfl).2
        have f11 : ux38 11 = (vT true) := (hI.2 11 d11 _ rfl).2
        have f12 : ux38 12 = (vT true) := (hI.2 12 d12 _ rfl).2
        have f13 : ux38 13 = undef := (hI.2 13 d13 _ rfl).2
        have f14 : ux38 14 = undef := (hI.2 14 d14 _ rfl).2
        have f15 : ux38 15 = undef := (hI.2 15 d15 _ rfl).2
        have f16 : ux38 16 = undef := (hI.2 16 d16 _ rfl).2
        have f17 : ux38 17 = undef := (hI.2 17 d17 _ rfl).2
        have f18 : ux38 18 = undef := (hI.2 18 d18 _ rfl).2
        have f19 : ux38 19 = undef := (hI.2 19 d19 _ rfl).2
        have f20 : ux38 20 = undef := (hI.2 20 d20 _ rfl).2
        have f21 : ux38 21 = undef := (hI.2 21 d21 _ rfl).2
        have f22 : ux38 22 = undef := (hI.2 22 d22 _ rfl).2
        have hE := hE.sub (e' := [(43, u33), (44, (vT r39)), (45, (vT (!r39))), (46, (vT (!r39))), (47, undef), (48, undef), (49, undef), (50, undef), (51, undef), (52, undef), (53, undef), (54, (vT true)), (55, (vT true)), (56, undef), (57, undef), (58, undef), (59, undef), (60, undef), (61, undef), (62, undef), (63, undef), (64, undef), (65, undef), (2, (ptr b1 0)), (3, (ptr b3 0)), (5, (vI s22)), (6, u33), (36, v1_2), (37, (vI (p1.Data.length : Int))), (38, (vI s22)), (39, (vT (decide (s22 < (p1.Data.length : Int))))), (40, (vI s22)), (41, (ptr (sb v1_2) (so v1_2 + (s22).toNat * 1))), (42, u33)]) ⟨lk rfl f0, lk rfl f1, lk rfl f2, lk rfl f3, lk rfl f4, lk rfl f5, lk rfl f6, lk rfl f7, lk rfl f8, lk rfl f9, lk rfl f10, lk rfl f11, lk rfl f12, lk rfl f13, lk rfl f14, lk rfl f15, lk rfl f16, lk rfl f17, lk rfl f18, lk rfl f19, lk rfl f20, lk rfl f21, lk rfl f22, rfl, rfl, rfl, rfl, rfl, rfl, rfl, rfl, rfl, rfl, rfl, trivial⟩
        refine Zn hE rfl rfl rfl (by decide) ?_; intro a hE
        refine Yn hE Za (dl rfl) rfl rfl ?_; intro a hE
        refine Zj ?_
        have ht42 := Option.some.inj hl36
        subst ht42
        refine Zl ?_
        exact ⟨hE.sub ⟨rfl, rfl, rfl, rfl, rfl, rfl, trivial⟩, hM⟩
      ·have hl36 := ZA hl36 hb41
       obtain ⟨x43, e44, hl36⟩ := bind_some hl36
       have hi45 := ZQ e44
       obtain ⟨r46, e47, hl36⟩ := bind_some hl36
       refine WV (!r46) (fun hb48 => ?_) (fun hb48 => ?_)
       ·have hl36 := Zz hl36 hb48
        refine Wz (n := 69) (hd := [_, _, _, _, _, _, _, _, _, _, _, _, _, _, _, _, _, _, _, _, _, _, _]) (tl := [_, _]) YB rfl rfl [43, 44, 45, 46, 47, 48, 49, 50, 51, 52, 53, 54, 55, 56, 57, 58, 59, 60, 61, 62, 63, 64, 65] (by decide) (fun D u w => M (Old w0) w0 w ([raw b3 (cat [[v1_1], [v1_2], [v1_3]]), raw b1 (cat [[v0_1]])] ++ qL ([] : Mk) D u) ∧ GOk ([([], fun us v => v = u33), ([], fun us v => v = (vT r39)), ([], fun us v => v = (vT (!r39))), ([], fun us v => v = (vT (!r39))), ([], fun us v => v = (ptr b3 (0 + 2))), ([], fun us v => v = v1_3), ([], fun us v => v = (vI s22)), ([], fun us v => v = (ptr (sb v1_3) (so v1_3 + (s22).toNat * 1))), ([], fun us v => v = (vI x43)), ([], fun us v => v = (vT r46)), ([], fun us v => v = (vT (!r46))), ([], fun us v => v = (vT (!r46))), ([], fun us v => v = (vT (!r46))), ([], fun us v => v = undef), ([], fun us v => v = undef), ([], fun us v => v = undef), ([], fun us v => v = undef), ([], fun us v => v = undef), ([], fun us v => v = undef), ([], fun us v => v = undef), ([], fun us v => v = undef), ([], fun us v => v = undef), ([], fun us v => v = undef)] : Gs) D u) hE (fun u => ⟨M.q0 hM.drew u, gok0⟩) (ZH (Zb ?_ (Zb ?_ (Zb ?_ (Zb ?_ (Zb ?_ (Zb ?_ (Zb ?_ (Zb ?_ (Zb ?_ (Zb ?_ (Zb ?_ (Zb ?_ (Zb ?_ (Zb ?_ (Zb ?_ (Zb ?_ (Zb ?_ (Zb ?_ (Zb ?_ (Zb ?_ (Zb ?_ (Zb ?_ (Zb ?_ ZD)))))))))))))))))))))))) ?_
        ·intro a w ux38 D hE hI hD hdc hp
         have hM0 := hI.1
         refine Zd hE Za (dl rfl) rfl ?_; intro a hE
         exact ⟨_, _, rfl, hE, M.qKeep hM0 rfl, hI.2.put hD rfl ZF rfl⟩
        ·intro a w ux38 D hE hI hD hdc hp
         have d0 : D 0 = true := hp 0 _ rfl rfl
         have g0 := hI.2 0 d0 _ rfl
         have f0 : ux38 0 = u33 := g0.2
         have hM0 := hI.1
         have hM := hI.1
         refine Zw (vs := [u33]) hE Za (dl rfl) (Z0 (ZZ (lk rfl f0) Xh)) cb117 (c_impl_isData _ x27 u33 (hM.rdo h34) r39 e40) ?_
         rintro v w a ⟨rfl, hK⟩ hE
         exact ⟨_, _, rfl, hE, M.qKeep (hM0.keep hK) rfl, hI.2.put hD rfl ZF rfl⟩
        ·intro a w ux38 D hE hI hD hdc hp
         have d1 : D 1 = true := hp 0 _ rfl rfl
         have g1 := hI.2 1 d1 _ rfl
         have f1 : ux38 1 = (vT r39) := g1.2
         have hM0 := hI.1
         refine Un hE Za (dl rfl) (lk rfl f1) ?_; intro a hE
         exact ⟨_, _, rfl, hE, M.qKeep hM0 rfl, hI.2.put hD rfl ZF rfl⟩
        ·intro a w ux38 D hE hI hD hdc hp
         have d2 : D 2 = true := hp 0 _ rfl rfl
         have g2 := hI.2 2 d2 _ rfl
         have f2 : ux38 2 = (vT (!r39)) := g2.2
         have hM0 := hI.1
         refine Zd hE Za (dl rfl) (lk rfl f2) ?_; intro a hE
         exact ⟨_, _, rfl, hE, M.qKeep hM0 rfl, hI.2.put hD rfl ZF rfl⟩
        ·intro a w ux38 D hE hI hD hdc hp
         have d3 : D 3 = true := hp 0 _ rfl rfl
         have g3 := hI.2 3 d3 _ rfl
         have f3 : ux38 3 = (vT (!r39)) := g3.2
         have hM0 := hI.1
         refine Zo hE (Zk hE rfl (lkb (lk rfl f3) hb41)) (by decide) rfl (fd55_2) ?_; intro a hE
         exact ⟨_, _, rfl, hE, M.qKeep hM0 rfl, hI.2.put hD rfl ZF rfl⟩
        ·intro a w ux38 D hE hI hD hdc hp
         have d3 : D 3 = true := hp 1 _ rfl rfl
         have g3 := hI.2 3 d3 _ rfl
         have f3 : ux38 3 = (vT (!r39)) := g3.2
         have d4 : D 4 = true := hp 0 _ rfl rfl
         have g4 := hI.2 4 d4 _ rfl
         have f4 : ux38 4 = (ptr b3 (0 + 2)) := g4.2
         have hM0 := hI.1
         have hM := hI.1
         refine Zv (v := v1_3) hE (Zk hE rfl (lkb (lk rfl f3) hb41)) (by decide) (lk rfl f4) ty46 rfl (At.cat (pre := [[v1_1], [v1_2]]) (hM.rawAt (pre := [])) (cl1 (n := 1) (m := 1) rfl (cl1 (n := 1) (m := 0) rfl cl0))) ?_; intro a hE
         exact ⟨_, _, rfl, hE, M.qKeep hM0 rfl, hI.2.put hD rfl ZF rfl⟩
        ·intro a w ux38 D hE hI hD hdc hp
         have d3 : D 3 = true := hp 0 _ rfl rfl
         have g3 := hI.2 3 d3 _ rfl
         have f3 : ux38 3 = (vT (!r39)) := g3.2
         have hM0 := hI.1
         refine Zd hE (Zk hE rfl (lkb (lk rfl f3) hb41)) (by decide) rfl ?_; intro a hE
         exact ⟨_, _, rfl, hE, M.qKeep hM0 rfl, hI.2.put hD rfl ZF rfl⟩
        ·intro a w ux38 D hE hI hD hdc hp
         have d3 : D 3 = true := hp 2 _ rfl rfl
         have g3 := hI.2 3 d3 _ rfl
         have f3 : ux38 3 = (vT (!r39)) := g3.2
         have d5 : D 5 = true := hp 0 _ rfl rfl
         have g5 := hI.2 5 d5 _ rfl
         have f5 : ux38 5 = v1_3 := g5.2
         have d6 : D 6 = true := hp 1 _ rfl rfl
         have g6 := hI.2 6 d6 _ rfl
         have f6 : ux38 6 = (vI s22) := g6.2
         have hM0 := hI.1
         have hM := hI.1
         refine ZK hE (Zk hE rfl (lkb (lk rfl f3) hb41)) (by decide) (lk rfl f5) (lk rfl f6) Try.underlying46 ty2 (hM.rd hv1_3) hi45.1 ?_; intro a hE
         exact ⟨_, _, rfl, hE, M.qKeep hM0 rfl, hI.2.put hD rfl ZF rfl⟩
        ·intro a w ux38 D hE hI hD hdc hp
         have d3 : D 3 = true := hp 1 _ rfl rfl
         have g3 := hI.2 3 d3 _ rfl
         have f3 : ux38 3 = (vT (!r39)) := g3.2
         have d7 : D 7 = true := hp 0 _ rfl rfl
         have g7 := hI.2 7 d7 _ rfl
         have f7 : ux38 7 = (ptr (sb v1_3) (so v1_3 + (s22).toNat * 1)) := g7.2
         have hM0 := hI.1
         have hM := hI.1
         refine Zv (v := (vI x43)) hE (Zk hE rfl (lkb (lk rfl f3) hb41)) (by decide) (lk rfl f7) ty2 rfl (Yr (hM.rd hv1_3) hi45.2) ?_; intro a hE
         exact ⟨_, _, rfl, hE, M.qKeep hM0 rfl, hI.2.put hD rfl ZF rfl⟩
        ·intro a w ux38 D hE hI hD hdc hp
         have d3 : D 3 = true := hp 1 _ rfl rfl
         have g3 := hI.2 3 d3 _ rfl
         have f3 : ux38 3 = (vT (!r39)) := g3.2
         have d8 : D 8 = true := hp 0 _ rfl rfl
         have g8 := hI.2 8 d8 _ rfl
         have f8 : ux38 8 = (vI x43) := g8.2
         have hM0 := hI.1
         refine Zw (vs := [(vI x43), (vI 1), (vI 1000000)]) hE (Zk hE rfl (lkb (lk rfl f3) hb41)) (by decide) (Z0 (ZZ (lk rfl f8) (ZZ rfl (ZZ rfl Xh)))) cb67 (c_impl_inRange _ x43 1 1000000 r46 e47) ?_
         rintro v w a ⟨rfl, hK⟩ hE
         exact ⟨_, _, rfl, hE, M.qKeep (hM0.keep hK) rfl, hI.2.put hD rfl ZF rfl⟩
        ·intro a w ux38 D hE hI hD hdc hp
         have d3 : D 3 = true := hp 1 _ rfl rfl
         have g3 := hI.2 3 d3 _ rfl
         have f3 : ux38 3 = (vT (!r39)) := g3.2
         have d9 : D 9 = true := hp 0 _ rfl rfl
         have g9 := hI.2 9 d9 _ rfl
         have f9 : ux38 9 = (vT r46) := g9.2
         have hM0 := hI.1
         refine Un hE (Zk hE rfl (lkb (lk rfl f3) hb41)) (by decide) (lk rfl f9) ?_; intro a hE
         exact ⟨_, _, rfl, hE, M.qKeep hM0 rfl, hI.2.put hD rfl ZF rfl⟩
        ·intro a w ux38 D hE hI hD hdc hp
         have d3 : D 3 = true := hp 0 _ rfl rfl
         have g3 := hI.2 3 d3 _ rfl
         have f3 : ux38 3 = (vT (!r39)) := g3.2
         have d10 : D 10 = true := hp 1 _ rfl rfl
         have g10 := hI.2 10 d10 _ rfl
         have f10 : ux38 10 = (vT (!r46)) := g10.2
         have hM0 := hI.1
         refine YQ hE Za (dl rfl) (lkb (lk rfl f3) hb41) (lk rfl f10) ?_; intro a hE
         exact ⟨_, _, rfl, hE, M.qKeep hM0 rfl, hI.2.put hD rfl ZF rfl⟩
        ·intro a w ux38 D hE hI hD hdc hp
         have d11 : D 11 = true := hp 0 _ rfl rfl
         have g11 := hI.2 11 d11 _ rfl
         have f11 : ux38 11 = (vT (!r46)) := g11.2
         have hM0 := hI.1
         refine Zd hE Za (dl rfl) (lk rfl f11) ?_; intro a hE
         exact ⟨_, _, rfl, hE, M.qKeep hM0 rfl, hI.2.put hD rfl ZF rfl⟩
        ·intro a w ux38 D hE hI hD hdc hp
         have d12 : D 12 = true := hp 0 _ rfl rfl
         have g12 := hI.2 12 d12 _ rfl
         have f12 : ux38 12 = (vT (!r46)) := g12.2
         have hM0 := hI.1
         refine Zn hE rfl (lkb (lk rfl f12) hb48) rfl (by decide) ?_; intro a hE
         exact ⟨_, _, rfl, hE, M.qKeep hM0 rfl, hI.2.put hD rfl ZF rfl⟩
        ·intro a w ux38 D hE hI hD hdc hp
         have d12 : D 12 = true := hp 1 _ rfl rfl
         have g12 := hI.2 12 d12 _ rfl
         have f12 : ux38 12 = (vT (!r46)) := g12.2
         have d13 : D 13 = true := hp 0 _ rfl rfl
         have g13 := hI.2 13 d13 _ rfl
         have f13 : ux38 13 = undef := g13.2
         have hM0 := hI.1
         refine Zn hE rfl (lkb (lk rfl f12) hb48) rfl (by decide) ?_; intro a hE
         exact ⟨_, _, rfl, hE, M.qKeep hM0 rfl, hI.2.put hD rfl ZF rfl⟩
        ·intro a w ux38 D hE hI hD hdc hp
         have d12 : D 12 = true := hp 0 _ rfl rfl
         have g12 := hI.2 12 d12 _ rfl
         have f12 : ux38 12 = (vT (!r46)) := g12.2
         have hM0 := hI.1
         refine Zn hE rfl (lkb (lk rfl f12) hb48) rfl (by decide) ?_; intro a hE
         exact ⟨_, _, rfl, hE, M.qKeep hM0 rfl, hI.2.put hD rfl ZF rfl⟩
        ·intro a w ux38 D hE hI hD hdc hp
         have d12 : D 12 = true := hp 1 _ rfl rfl
         have g12 := hI.2 12 d12 _ rfl
         have f12 : ux38 12 = (vT (!r46)) := g12.2
         have d15 : D 15 = true := hp 0 _ rfl rfl
         have g15 := hI.2 15 d15 _ rfl
         have f15 : ux38 15 = undef := g15.2
         have hM0 := hI.1
         refine Zn hE rfl (lkb (lk rfl f12) hb48) rfl (by decide) ?_; intro a hE
         exact ⟨_, _, rfl, hE, M.qKeep hM0 rfl, hI.2.put hD rfl ZF rfl⟩
        ·intro a w ux38 D hE hI hD hdc hp
         have d12 : D 12 = true := hp 2 _ rfl rfl
         have g12 := hI.2 12 d12 _ rfl
         have f12 : ux38 12 = (vT (!r46)) := g12.2
         have d14 : D 14 = true := hp 0 _ rfl rfl
         have g14 := hI.2 14 d14 _ rfl
         have f14 : ux38 14 = undef := g14.2
         have d16 : D 16 = true := hp 1 _ rfl rfl
         have g16 := hI.2 16 d16 _ rfl
         have f16 : ux38 16 = undef := g16.2
         have hM0 := hI.1
         refine Zn hE rfl (lkb (lk rfl f12) hb48) rfl (by decide) ?_; intro a hE
         exact ⟨_, _, rfl, hE, M.qKeep hM0 rfl, hI.2.put hD rfl ZF rfl⟩
        ·intro a w ux38 D hE hI hD hdc hp
         have d12 : D 12 = true := hp 0 _ rfl rfl
         have g12 := hI.2 12 d12 _ rfl
         have f12 : ux38 12 = (vT (!r46)) := g12.2
         have hM0 := hI.1
         refine Zn hE rfl (lkb (lk rfl f12) hb48) rfl (by decide) ?_; intro a hE
         exact ⟨_, _, rfl, hE, M.qKeep hM0 rfl, hI.2.put hD rfl ZF rfl⟩
        ·intro a w ux38 D hE hI hD hdc hp
         have d12 : D 12 = true := hp 1 _ rfl rfl
         have g12 := hI.2 12 d12 _ rfl
         have f12 : ux38 12 = (vT (!r46)) := g12.2
         have d18 : D 18 = true := hp 0 _ rfl rfl
         have g18 := hI.2 18 d18 _ rfl
         have f18 : ux38 18 = undef := g18.2
         have hM0 := hI.1
         refine Zn hE rfl (lkb (lk rfl f12) hb48) rfl (by decide) ?_; intro a hE
         exact ⟨_, _, rfl, hE, M.qKeep hM0 rfl, hI.2.put hD rfl ZF rfl⟩
        ·intro a w ux38 D hE hI hD hdc hp
         have d12 : D 12 = true := hp 0 _ rfl rfl
         have g12 := hI.2 12 d12 _ rfl
         have f12 : ux38 12 = (vT (!r46)) := g12.2
         have hM0 := hI.1
         refine Zn hE rfl (lkb (lk rfl f12) hb48) rfl (by decide) ?_; intro a hE
         exact ⟨_, _, rfl, hE, M.qKeep hM0 rfl, hI.2.put hD rfl ZF rfl⟩
        ·intro a w ux38 D hE hI hD hdc hp
         have d12 : D 12 = true := hp 2 _ rfl rfl
         have g12 := hI.2 12 d12 _ rfl
         have f12 : ux38 12 = (vT (!r46)) := g12.2
         have d19 : D 19 = true := hp 0 _ rfl rfl
         have g19 := hI.2 19 d19 _ rfl
         have f19 : ux38 19 = undef := g19.2
         have d20 : D 20 = true := hp 1 _ rfl rfl
         have g20 := hI.2 20 d20 _ rfl
         have f20 : ux38 20 = undef := g20.2
         have hM0 := hI.1
         refine Zn hE rfl (lkb (lk rfl f12) hb48) rfl (by decide) ?_; intro a hE
         exact ⟨_, _, rfl, hE, M.qKeep hM0 rfl, hI.2.put hD rfl ZF rfl⟩
        ·intro a w ux38 D hE hI hD hdc hp
         have d12 : D 12 = true := hp 1 _ rfl rfl
         have g12 := hI.2 12 d12 _ rfl
         have f12 : ux38 12 = (vT (!r46)) := g12.2
         have d21 : D 21 = true := hp 0 _ rfl rfl
         have g21 := hI.2 21 d21 _ rfl
         have f21 : ux38 21 = undef := g21.2
         have hM0 := hI.1
         refine Zn hE rfl (lkb (lk rfl f12) hb48) rfl (by decide) ?_; intro a hE
         exact ⟨_, _, rfl, hE, M.qKeep hM0 rfl, hI.2.put hD rfl ZF rfl⟩
        ·intro a w ux38 D hE hI hall
         have hM := hI.1
         have d0 : D 0 = true := hall 0 (by decide)
         have d1 : D 1 = true := hall 1 (by decide)
         have d2 : D 2 = true := hall 2 (by decide)
         have d3 : D 3 = true := hall 3 (by decide)
         have d4 : D 4 = true := hall 4 (by decide)
         have d5 : D 5 = true := hall 5 (by decide)
         have d6 : D 6 = true := hall 6 (by decide)
         have d7 : D 7 = true := hall 7 (by decide)
         have d8 : D 8 = true := hall 8 (by decide)
         have d9 : D 9 = true := hall 9 (by decide)
         have d10 : D 10 = true := hall 10 (by decide)
         have d11 : D 11 = true := hall 11 (by decide)
         have d12 : D 12 = true := hall 12 (by decide)
         have d13 : D 13 = true := hall 13 (by decide)
         have d14 : D 14 = true := hall 14 (by decide)
         have d15 : D 15 = true := hall 15 (by decide)
         have d16 : D 16 = true := hall 16 (by decide)
         have d17 : D 17 = true := hall 17 (by decide)
         have d18 : D 18 = true := hall 18 (by decide)
         have d19 : D 19 = true := hall 19 (by decide)
         have d20 : D 20 = true := hall 20 (by decide)
         have d21 : D 21 = true := hall 21 (by decide)
         have d22 : D 22 = true := hall 22 (by decide)
         have f0 : ux38 0 = u33 := (hI.2 0 d0 _ rfl).2
         have f1 : ux38 1 = (vT r39) := (hI.2 1 d1 _ rfl).2
         have f2 : ux38 2 = (vT (!r39)) := (hI.2 2 d2 _ rfl).2
         have f3 : ux38 3 = (vT (!r39)) := (hI.2 3 d3 _ rfl).2
         have f4 : ux38 4 = (ptr b3 (0 + 2)) := (hI.2 4 d4 _ rfl).2
         have f5 : ux38 5 = v1_3 := (hI.2 5 d5 _ rfl).2
         have f6 : ux38 6 = (vI s22) := (hI.2 6 d6 _ rfl).2
         have f7 : ux38 7 = (ptr (sb v1_3) (so v1_3 + (s22).toNat * 1)) := (hI.2 7 d7 _ rfl).2
         have f8 : ux38 8 = (vI x43) := (hI.2 8 d8 _ rfl).2
         have f9 : ux38 9 = (vT r46) := (hI.2 9 d9 _ rfl).2
         have f10 : ux38 10 = (vT (!r46)) := (hI.2 10 d10 _ rfl).2
         have f11 : ux38 11 = (vT (!r46)) := (hI.2 11 d11 _ rfl).2
         have f12 : ux38 12 = (vT (!r46)) := (hI.2 12 d12 _ rfl).2
         have f13 : ux38 13 = undef := (hI.2 13 d13 _ rfl).2
         have f14 : ux38 14 = undef := (hI.2 14 d14 _ rfl).2
         have f15 : ux38 15 = undef := (hI.2 15 d15 _ rfl).2
         have f16 : ux38 16 = undef := (hI.2 16 d16 _ rfl).2
         have f17 : ux38 17 = undef := (hI.2 17 d17 _ rfl).2
         have f18 : ux38 18 = undef := (hI.2 18 d18 _ rfl).2
         have f19 : ux38 19 = undef := (hI.2 19 d19 _ rfl).2
         have f20 : ux38 20 = undef := (hI.2 20 d20 _ rfl).2
         have f21 : ux38 21 = undef := (hI.2 21 d21 _ rfl).2
         have f22 : ux38 22 = undef := (hI.2 22 d22 _ rfl).2
         have hE := hE.sub (e' := [(43, u33), (44, (vT r39)), (45, (vT (!r39))), (46, (vT (!r39))), (47, (ptr b3 (0 + 2))), (48, v1_3), (49, (vI s22)), (50, (ptr (sb v1_3) (so v1_3 + (s22).toNat * 1))), (51, (vI x43)), (52, (vT r46)), (53, (vT (!r46))), (54, (vT (!r46))), (55, (vT (!r46))), (56, undef), (57, undef), (58, undef), (59, undef), (60, undef), (61, undef), (62, undef), (63, undef), (64, undef), (65, undef), (2, (ptr b1 0)), (3, (ptr b3 0)), (5, (vI s22)), (6, u33), (36, v1_2), (37, (vI (p1.Data.length : Int))), (38, (vI s22)), (39, (vT (decide (s22 < (p1.Data.length : Int))))), (40, (vI s22)), (41, (ptr (sb v1_2) (so v1_2 + (s22).toNat * 1))), (42, u33)]) ⟨lk rfl f0, lk rfl f1, lk rfl f2, lk rfl f3, lk rfl f4, lk rfl f5, lk rfl f6, lk rfl f7, lk rfl f8, lk rfl f9, lk rfl f10, lk rfl f11, lk rfl f12, lk rfl f13, lk rfl f14, lk rfl f15, lk rfl f16, lk rfl f17, lk rfl f18, lk rfl f19, lk rfl f20, lk rfl f21, lk rfl f22, rfl, rfl, rfl, rfl, rfl, rfl, rfl, rfl, rfl, rfl, rfl, trivial⟩
         refine Zn hE rfl (lkb rfl hb48) rfl (by decide) ?_; intro a hE
         refine Yn hE Za (dl rfl) (lkb rfl hb48) rfl ?_; intro a hE
         refine Zj ?_
         have ht49 := Option.some.inj hl36
         subst ht49
         refine Zl ?_
         exact ⟨hE.sub ⟨rfl, rfl, rfl, rfl, rfl, rfl, trivial⟩, hM⟩
       ·have hl36 := ZA hl36 hb48
        obtain ⟨r54, e55, hl36⟩ := bind_some hl36
        obtain ⟨x56, e57, hl36⟩ := bind_some hl36
        have hi58 := ZQ e57
        refine Wz (n := 69) (hd := [_, _, _, _, _, _, _, _, _, _, _, _, _, _, _, _, _, _, _, _, _, _, _]) (tl := [_, _]) YB rfl rfl [43, 44, 45, 46, 47, 48, 49, 50, 51, 52, 53, 54, 55, 56, 57, 58, 59, 60, 61, 62, 63, 64, 65] (by decide) (fun D u w => M (Old w0) w0 w ([raw b3 (cat [[v1_1], [v1_2], [v1_3]]), raw b1 (cat [[v0_1]])] ++ qL ([mkL 16 [] 1 (fun us => [u33])] : Mk) D u) ∧ GOk ([([], fun us v => v = u33), ([], fun us v => v = (vT r39)), ([], fun us v => v = (vT (!r39))), ([], fun us v => v = (vT (!r39))), ([], fun us v => v = (ptr b3 (0 + 2))), ([], fun us v => v = v1_3), ([], fun us v => v = (vI s22)), ([], fun us v => v = (ptr (sb v1_3) (so v1_3 + (s22).toNat * 1))), ([], fun us v => v = (vI x43)), ([], fun us v => v = (vT r46)), ([], fun us v => v = (vT (!r46))), ([], fun us v => v = (vT (!r46))), ([], fun us v => v = (vT (!r46))), ([], fun us v => v = (ptr b1 (0 + 0))), ([], fun us v => v = v0_1), ([], fun us v => v = u33), ([], fun us v => True), ([], fun us v => v = (Value.agg (Flat.enc r54).toArray)), ([], fun us v => v = (ptr b3 (0 + 0))), ([], fun us v => v = v1_1), ([], fun us v => v = (vI s22)), ([], fun us v => v = (ptr (sb v1_1) (so v1_1 + (s22).toNat * 32))), ([], fun us v => v = (Value.agg (Flat.enc x56).toArray))] : Gs) D u) hE (fun u => ⟨M.qE (M.q0 hM.drew u) emL, gok0⟩) (ZH (Zb ?_ (Zb ?_ (Zb ?_ (Zb ?_ (Zb ?_ (Zb ?_ (Zb ?_ (Zb ?_ (Zb ?_ (Zb ?_ (Zb ?_ (Zb ?_ (Zb ?_ (Zb ?_ (Zb ?_ (Zb ?_ (Zb ?_ (Zb ?_ (Zb ?_ (Zb ?_ (Zb ?_ (Zb ?_ (Zb ?_ ZD)))))))))))))))))))))))) ?_
        ·intro a w ux38 D hE hI hD hdc hp
         have hM0 := hI.1
         refine Zd hE Za (dl rfl) rfl ?_; intro a hE
         exact ⟨_, _, rfl, hE, M.qKeep hM0 rfl, hI.2.put hD rfl ZF rfl⟩
        ·intro a w ux38 D hE hI hD hdc hp
         have d0 : D 0 = true := hp 0 _ rfl rfl
         have g0 := hI.2 0 d0 _ rfl
         have f0 : ux38 0 = u33 := g0.2
         have hM0 := hI.1
         have hM := hI.1
         refine Zw (vs := [u33]) hE Za (dl rfl) (Z0 (ZZ (lk rfl f0) Xh)) cb117 (c_impl_isData _ x27 u33 (hM.rdo h34) r39 e40) ?_
         rintro v w a ⟨rfl, hK⟩ hE
         exact ⟨_, _, rfl, hE, M.qKeep (hM0.keep hK) rfl, hI.2.put hD rfl ZF rfl⟩
        ·intro a w ux38 D hE hI hD hdc hp
         have d1 : D 1 = true := hp 0 _ rfl rfl
         have g1 := hI.2 1 d1 _ rfl
         have f1 : ux38 1 = (vT r39) := g1.2
         have hM0 := hI.1
         refine Un hE Za (dl rfl) (lk rfl f1) ?_; intro a hE
         exact ⟨_, _, rfl, hE, M.qKeep hM0 rfl, hI.2.put hD rfl ZF rfl⟩
        ·intro a w ux38 D hE hI hD hdc hp
         have d2 : D 2 = true := hp 0 _ rfl rfl
         have g2 := hI.2 2 d2 _ rfl
         have f2 : ux38 2 = (vT (!r39)) := g2.2
         have hM0 := hI.1
         refine Zd hE Za (dl rfl) (lk rfl f2) ?_; intro a hE
         exact ⟨_, _, rfl, hE, M.qKeep hM0 rfl, hI.2.put hD rfl ZF rfl⟩
        ·intro a w ux38 D hE hI hD hdc hp
         have d3 : D 3 = true := hp 0 _ rfl rfl
         have g3 := hI.2 3 d3 _ rfl
         have f3 : ux38 3 = (vT (!r39)) := g3.2
         have hM0 := hI.1
         refine Zo hE (Zk hE rfl (lkb (lk rfl f3) hb41)) (by decide) rfl (fd55_2) ?_; intro a hE
         exact ⟨_, _, rfl, hE, M.qKeep hM0 rfl, hI.2.put hD rfl ZF rfl⟩
        ·intro a w ux38 D hE hI hD hdc hp
         have d3 : D 3 = true := hp 1 _ rfl rfl
         have g3 := hI.2 3 d3 _ rfl
         have f3 : ux38 3 = (vT (!r39)) := g3.2
         have d4 : D 4 = true := hp 0 _ rfl rfl
         have g4 := hI.2 4 d4 _ rfl
         have f4 : ux38 4 = (ptr b3 (0 + 2)) := g4.2
         have hM0 := hI.1
         have hM := hI.1
         refine Zv (v := v1_3) hE (Zk hE rfl (lkb (lk rfl f3) hb41)) (by decide) (lk rfl f4) ty46 rfl (At.cat (pre := [[v1_1], [v1_2]]) (hM.rawAt (pre := [])) (cl1 (n := 1) (m := 1) rfl (cl1 (n := 1) (m := 0) rfl cl0))) ?_; intro a hE
         exact ⟨_, _, rfl, hE, M.qKeep hM0 rfl, hI.2.put hD rfl ZF rfl⟩
        ·intro a w ux38 D hE hI hD hdc hp
         have d3 : D 3 = true := hp 0 _ rfl rfl
         have g3 := hI.2 3 d3 _ rfl
         have f3 : ux38 3 = (vT (!r39)) := g3.2
         have hM0 := hI.1
         refine Zd hE (Zk hE rfl (lkb (lk rfl f3) hb41)) (by decide) rfl ?_; intro a hE
         exact ⟨_, _, rfl, hE, M.qKeep hM0 rfl, hI.2.put hD rfl ZF rfl⟩
        ·intro a w ux38 D hE hI hD hdc hp
         have d3 : D 3 = true := hp 2 _ rfl rfl
         have g3 := hI.2 3 d3 _ rfl
         have f3 : ux38 3 = (vT (!r39)) := g3.2
         have d5 : D 5 = true := hp 0 _ rfl rfl
         have g5 := hI.2 5 d5 _ rfl
         have f5 : ux38 5 = v1_3 := g5.2
         have d6 : D 6 = true := hp 1 _ rfl rfl
         have g6 := hI.2 6 d6 _ rfl
         have f6 : ux38 6 = (vI s22) := g6.2
         have hM0 := hI.1
         have hM := hI.1
         refine ZK hE (Zk hE rfl (lkb (lk rfl f3) hb41)) (by decide) (lk rfl f5) (lk rfl f6) Try.underlying46 ty2 (hM.rd hv1_3) hi45.1 ?_; intro a hE
         exact ⟨_, _, rfl, hE, M.qKeep hM0 rfl, hI.2.put hD rfl ZF rfl⟩
        ·intro a w ux38 D hE hI hD hdc hp
         have d3 : D 3 = true := hp 1 _ rfl rfl
         have g3 := hI.2 3 d3 _ rfl
         have f3 : ux38 3 = (vT (!r39)) := g3.2
         have d7 : D 7 = true := hp 0 _ rfl rfl
         have g7 := hI.2 7 d7 _ rfl
         have f7 : ux38 7 = (ptr (sb v1_3) (so v1_3 + (s22).toNat * 1)) := g7.2
         have hM0 := hI.1
         have hM := hI.1
         refine Zv (v := (vI x43)) hE (Zk hE rfl (lkb (lk rfl f3) hb41)) (by decide) (lk rfl f7) ty2 rfl (Yr (hM.rd hv1_3) hi45.2) ?_; intro a hE
         exact ⟨_, _, rfl, hE, M.qKeep hM0 rfl, hI.2.put hD rfl ZF rfl⟩
        ·intro a w ux38 D hE hI hD hdc hp
         have d3 : D 3 = true := hp 1 _ rfl rfl
         have g3 := hI.2 3 d3 _ rfl
         have f3 : ux38 3 = (vT (!r39)) := g3.2
         have d8 : D 8 = true := hp 0 _ rfl rfl
         have g8 := hI.2 8 d8 _ rfl
         have f8 : ux38 8 = (vI x43) := g8.2
         have hM0 := hI.1
         refine Zw (vs := [(vI x43), (vI 1), (vI 1000000)]) hE (Zk hE rfl (lkb (lk rfl f3) hb41)) (by decide) (Z0 (ZZ (lk rfl f8) (ZZ rfl (ZZ rfl Xh)))) cb67 (c_impl_inRange _ x43 1 1000000 r46 e47) ?_
         rintro v w a ⟨rfl, hK⟩ hE
         exact ⟨_, _, rfl, hE, M.qKeep (hM0.keep hK) rfl, hI.2.put hD rfl ZF rfl⟩
        ·intro a w ux38 D hE hI hD hdc hp
         have d3 : D 3 = true := hp 1 _ rfl rfl
         have g3 := hI.2 3 d3 _ rfl
         have f3 : ux38 3 = (vT (!r39)) := g3.2
         have d9 : D 9 = true := hp 0 _ rfl rfl
         have g9 := hI.2 9 d9 _ rfl
         have f9 : ux38 9 = (vT r46) := g9.2
         have hM0 := hI.1
         refine Un hE (Zk hE rfl (lkb (lk rfl f3) hb41)) (by decide) (lk rfl f9) ?_; intro a hE
         exact ⟨_, _, rfl, hE, M.qKeep hM0 rfl, hI.2.put hD rfl ZF rfl⟩
        ·intro a w ux38 D hE hI hD hdc hp
         have d3 : D 3 = true := hp 0 _ rfl rfl
         have g3 := hI.2 3 d3 _ rfl
         have f3 : ux38 3 = (vT (!r39)) := g3.2
         have d10 : D 10 = true := hp 1 _ rfl rfl
         have g10 := hI.2 10 d10 _ rfl
         have f10 : ux38 10 = (vT (!r46)) := g10.2
         have hM0 := hI.1
         refine YQ hE Za (dl rfl) (lkb (lk rfl f3) hb41) (lk rfl f10) ?_; intro a hE
         exact ⟨_, _, rfl, hE, M.qKeep hM0 rfl, hI.2.put hD rfl ZF rfl⟩
        ·intro a w ux38 D hE hI hD hdc hp
         have d11 : D 11 = true := hp 0 _ rfl rfl
         have g11 := hI.2 11 d11 _ rfl
         have f11 : ux38 11 = (vT (!r46)) := g11.2
         have hM0 := hI.1
         refine Zd hE Za (dl rfl) (lk rfl f11) ?_; intro a hE
         exact ⟨_, _, rfl, hE, M.qKeep hM0 rfl, hI.2.put hD rfl ZF rfl⟩
        ·intro a w ux38 D hE hI hD hdc hp
         have d12 : D 12 = true := hp 0 _ rfl rfl
         have g12 := hI.2 12 d12 _ rfl
         have f12 : ux38 12 = (vT (!r46)) := g12.2
         have hM0 := hI.1
         refine Zo hE (Zk hE rfl (lkb (lk rfl f12) hb48)) (by decide) rfl (fd132_0) ?_; intro a hE
         exact ⟨_, _, rfl, hE, M.qKeep hM0 rfl, hI.2.put hD rfl ZF rfl⟩
        ·intro a w ux38 D hE hI hD hdc hp
         have d12 : D 12 = true := hp 1 _ rfl rfl
         have g12 := hI.2 12 d12 _ rfl
         have f12 : ux38 12 = (vT (!r46)) := g12.2
         have d13 : D 13 = true := hp 0 _ rfl rfl
         have g13 := hI.2 13 d13 _ rfl
         have f13 : ux38 13 = (ptr b1 (0 + 0)) := g13.2
         have hM0 := hI.1
         have hM := hI.1
         refine Zv (v := v0_1) hE (Zk hE rfl (lkb (lk rfl f12) hb48)) (by decide) (lk rfl f13) ty71 rfl (At.cat (pre := []) (hM.rawAt (pre := [_])) cl0) ?_; intro a hE
         exact ⟨_, _, rfl, hE, M.qKeep hM0 rfl, hI.2.put hD rfl ZF rfl⟩
        ·intro a w ux38 D hE hI hD hdc hp
         have d12 : D 12 = true := hp 0 _ rfl rfl
         have g12 := hI.2 12 d12 _ rfl
         have f12 : ux38 12 = (vT (!r46)) := g12.2
         have hM0 := hI.1
         refine Zd hE (Zk hE rfl (lkb (lk rfl f12) hb48)) (by decide) rfl ?_; intro a hE
         exact ⟨_, _, rfl, hE, M.qKeep hM0 rfl, hI.2.put hD rfl ZF rfl⟩
        ·intro a w ux38 D hE hI hD hdc hp
         have d12 : D 12 = true := hp 1 _ rfl rfl
         have g12 := hI.2 12 d12 _ rfl
         have f12 : ux38 12 = (vT (!r46)) := g12.2
         have d15 : D 15 = true := hp 0 _ rfl rfl
         have g15 := hI.2 15 d15 _ rfl
         have f15 : ux38 15 = u33 := g15.2
         have hM0 := hI.1
         have hM := hI.1
         refine s_buildLit (xs := [.tmp 58]) (vs := [u33]) hE hM (Zk hE rfl (lkb (lk rfl f12) hb48)) (by decide) (Z0 (ZZ (lk rfl f15) Xh)) rfl Try.underlying45 Vz (by decide) (fa_cons (sl_cells (hM.rd h34)) fa_nil) ?_; intro b50 w a hM hE
         exact ⟨_, _, rfl, hE, M.litFill (its := [raw b3 (cat [[v1_1], [v1_2], [v1_3]]), raw b1 (cat [[v0_1]])]) (mk := ([] : Mk)) (i := 16) (ds := []) (m := 1) (f := (fun us => [u33])) hM rfl hD (by decide), hI.2.put hD rfl ZF trivial⟩
        ·intro a w ux38 D hE hI hD hdc hp
         have d12 : D 12 = true := hp 2 _ rfl rfl
         have g12 := hI.2 12 d12 _ rfl
         have f12 : ux38 12 = (vT (!r46)) := g12.2
         have d14 : D 14 = true := hp 0 _ rfl rfl
         have g14 := hI.2 14 d14 _ rfl
         have f14 : ux38 14 = v0_1 := g14.2
         have d16 : D 16 = true := hp 1 _ rfl rfl
         have g16 := hI.2 16 d16 _ rfl
         have hM0 := hI.1
         have hM := hI.1
         have hM := (hM.sure (pre := [_, _]) d16).pull
         obtain ⟨b52, f53, hM⟩ := M.litOpen hM
         refine Zw (vs := [v0_1, (Value.slice (some ⟨b52, 0, none⟩) 1 1)]) hE (Zk hE rfl (lkb (lk rfl f12) hb48)) (by decide) (Z0 (ZZ (lk rfl f14) (ZZ (lk rfl f53) Xh))) cb70 (c_impl_engine_digest _ p0.engine v0_1 (hM.rdo hv0_1) ([x27] : (List (List UInt8))) (Value.slice (some ⟨b52, 0, none⟩) 1 1) (ro_lit (hM.rawAt (pre := [])) (hM.rawLt (pre := [])) ⟨(hM.rdo h34), trivial⟩ rfl) r54 e55) ?_
         rintro v w a ⟨rfl, hK⟩ hE
         exact ⟨_, _, rfl, hE, M.qKeep (hM0.keep hK) rfl, hI.2.put hD rfl ZF rfl⟩
        ·intro a w ux38 D hE hI hD hdc hp
         have d12 : D 12 = true := hp 0 _ rfl rfl
         have g12 := hI.2 12 d12 _ rfl
         have f12 : ux38 12 = (vT (!r46)) := g12.2
         have hM0 := hI.1
         refine Zo hE (Zk hE rfl (lkb (lk rfl f12) hb48)) (by decide) rfl (VH) ?_; intro a hE
         exact ⟨_, _, rfl, hE, M.qKeep hM0 rfl, hI.2.put hD rfl ZF rfl⟩
        ·intro a w ux38 D hE hI hD hdc hp
         have d12 : D 12 = true := hp 1 _ rfl rfl
         have g12 := hI.2 12 d12 _ rfl
         have f12 : ux38 12 = (vT (!r46)) := g12.2
         have d18 : D 18 = true := hp 0 _ rfl rfl
         have g18 := hI.2 18 d18 _ rfl
         have f18 : ux38 18 = (ptr b3 (0 + 0)) := g18.2
         have hM0 := hI.1
         have hM := hI.1
         refine Zv (v := v1_1) hE (Zk hE rfl (lkb (lk rfl f12) hb48)) (by decide) (lk rfl f18) ty53 rfl (At.cat (pre := []) (hM.rawAt (pre := [])) cl0) ?_; intro a hE
         exact ⟨_, _, rfl, hE, M.qKeep hM0 rfl, hI.2.put hD rfl ZF rfl⟩
        ·intro a w ux38 D hE hI hD hdc hp
         have d12 : D 12 = true := hp 0 _ rfl rfl
         have g12 := hI.2 12 d12 _ rfl
         have f12 : ux38 12 = (vT (!r46)) := g12.2
         have hM0 := hI.1
         refine Zd hE (Zk hE rfl (lkb (lk rfl f12) hb48)) (by decide) rfl ?_; intro a hE
         exact ⟨_, _, rfl, hE, M.qKeep hM0 rfl, hI.2.put hD rfl ZF rfl⟩
        ·intro a w ux38 D hE hI hD hdc hp
         have d12 : D 12 = true := hp 2 _ rfl rfl
         have g12 := hI.2 12 d12 _ rfl
         have f12 : ux38 12 = (vT (!r46)) := g12.2
         have d19 : D 19 = true := hp 0 _ rfl rfl
         have g19 := hI.2 19 d19 _ rfl
         have f19 : ux38 19 = v1_1 := g19.2
         have d20 : D 20 = true := hp 1 _ rfl rfl
         have g20 := hI.2 20 d20 _ rfl
         have f20 : ux38 20 = (vI s22) := g20.2
         have hM0 := hI.1
         have hM := hI.1
         refine ZK hE (Zk hE rfl (lkb (lk rfl f12) hb48)) (by decide) (lk rfl f19) (lk rfl f20) Try.underlying53 Yi (hM.rd hv1_1) hi58.1 ?_; intro a hE
         exact ⟨_, _, rfl, hE, M.qKeep hM0 rfl, hI.2.put hD rfl ZF rfl⟩
        ·intro a w ux38 D hE hI hD hdc hp
         have d12 : D 12 = true := hp 1 _ rfl rfl
         have g12 := hI.2 12 d12 _ rfl
         have f12 : ux38 12 = (vT (!r46)) := g12.2
         have d21 : D 21 = true := hp 0 _ rfl rfl
         have g21 := hI.2 21 d21 _ rfl
         have f21 : ux38 21 = (ptr (sb v1_1) (so v1_1 + (s22).toNat * 32)) := g21.2
         have hM0 := hI.1
         have hM := hI.1
         refine Zp (cs := Flat.enc x56) hE (Zk hE rfl (lkb (lk rfl f12) hb48)) (by decide) (lk rfl f21) Yi rfl (Yr (hM.rd hv1_1) hi58.2) (Flat.len _) ?_; intro a hE
         exact ⟨_, _, rfl, hE, M.qKeep hM0 rfl, hI.2.put hD rfl ZF rfl⟩
        ·intro a w ux38 D hE hI hall
         have hM := hI.1
         have d0 : D 0 = true := hall 0 (by decide)
         have d1 : D 1 = true := hall 1 (by decide)
         have d2 : D 2 = true := hall 2 (by decide)
         have d3 : D 3 = true := hall 3 (by decide)
         have d4 : D 4 = true := hall 4 (by decide)
         have d5 : D 5 = true := hall 5 (by decide)
         have d6 : D 6 = true := hall 6 (by decide)
         have d7 : D 7 = true := hall 7 (by decide)
         have d8 : D 8 = true := hall 8 (by decide)
         have d9 : D 9 = true := hall 9 (by decide)
         have d10 : D 10 = true := hall 10 (by decide)
         have d11 : D 11 = true := hall 11 (by decide)
         have d12 : D 12 = true := hall 12 (by decide)
         have d13 : D 13 = true := hall 13 (by decide)
         have d14 : D 14 = true := hall 14 (by decide)
         have d15 : D 15 = true := hall 15 (by decide)
         have d16 : D 16 = true := hall 16 (by decide)
         have d17 : D 17 = true := hall 17 (by decide)
         have d18 : D 18 = true := hall 18 (by decide)
         have d19 : D 19 = true := hall 19 (by decide)
         have d20 : D 20 = true := hall 20 (by decide)
         have d21 : D 21 = true := hall 21 (by decide)
         have d22 : D 22 = true := hall 22 (by decide)
         have f0 : ux38 0 = u33 := (hI.2 0 d0 _ rfl).2
         have f1 : ux38 1 = (vT r39) := (hI.2 1 d1 _ rfl).2
         have f2 : ux38 2 = (vT (!r39)) := (hI.2 2 d2 _ rfl).2
         have f3 : ux38 3 = (vT (!r39)) := (hI.2 3 d3 _ rfl).2
         have f4 : ux38 4 = (ptr b3 (0 + 2)) := (hI.2 4 d4 _ rfl).2
         have f5 : ux38 5 = v1_3 := (hI.2 5 d5 _ rfl).2
         have f6 : ux38 6 = (vI s22) := (hI.2 6 d6 _ rfl).2
         have f7 : ux38 7 = (ptr (sb v1_3) (so v1_3 + (s22).toNat * 1)) := (hI.2 7 d7 _ rfl).2
         have f8 : ux38 8 = (vI x43) := (hI.2 8 d8 _ rfl).2
         have f9 : ux38 9 = (vT r46) := (hI.2 9 d9 _ rfl).2
         have f10 : ux38 10 = (vT (!r46)) := (hI.2 10 d10 _ rfl).2
         have f11 : ux38 11 = (vT (!r46)) := (hI.2 11 d11 _ rfl).2
         have f12 : ux38 12 = (vT (!r46)) := (hI.2 12 d12 _ rfl).2
         have f13 : ux38 13 = (ptr b1 (0 + 0)) := (hI.2 13 d13 _ rfl).2
         have f14 : ux38 14 = v0_1 := (hI.2 14 d14 _ rfl).2
         have f15 : ux38 15 = u33 := (hI.2 15 d15 _ rfl).2
         have f17 : ux38 17 = (Value.agg (Flat.enc r54).toArray) := (hI.2 17 d17 _ rfl).2
         have f18 : ux38 18 = (ptr b3 (0 + 0)) := (hI.2 18 d18 _ rfl).2
         have f19 : ux38 19 = v1_1 := (hI.2 19 d19 _ rfl).2
         have f20 : ux38 20 = (vI s22) := (hI.2 20 d20 _ rfl).2
         have f21 : ux38 21 = (ptr (sb v1_1) (so v1_1 + (s22).toNat * 32)) := (hI.2 21 d21 _ rfl).2
         have f22 : ux38 22 = (Value.agg (Flat.enc x56).toArray) := (hI.2 22 d22 _ rfl).2
         have hM := (hM.sure (pre := [_, _]) d16).pull
         obtain ⟨b59, f60, hM⟩ := M.litOpen hM
         have hE := hE.sub (e' := [(43, u33), (44, (vT r39)), (45, (vT (!r39))), (46, (vT (!r39))), (47, (ptr b3 (0 + 2))), (48, v1_3), (49, (vI s22)), (50, (ptr (sb v1_3) (so v1_3 + (s22).toNat * 1))), (51, (vI x43)), (52, (vT r46)), (53, (vT (!r46))), (54, (vT (!r46))), (55, (vT (!r46))), (56, (ptr b1 (0 + 0))), (57, v0_1), (58, u33), (59, (Value.slice (some ⟨b59, 0, none⟩) 1 1)), (60, (Value.agg (Flat.enc r54).toArray)), (61, (ptr b3 (0 + 0))), (62, v1_1), (63, (vI s22)), (64, (ptr (sb v1_1) (so v1_1 + (s22).toNat * 32))), (65, (Value.agg (Flat.enc x56).toArray)), (2, (ptr b1 0)), (3, (ptr b3 0)), (5, (vI s22)), (6, u33), (36, v1_2), (37, (vI (p1.Data.length : Int))), (38, (vI s22)), (39, (vT (decide (s22 < (p1.Data.length : Int))))), (40, (vI s22)), (41, (ptr (sb v1_2) (so v1_2 + (s22).toNat * 1))), (42, u33)]) ⟨lk rfl f0, lk rfl f1, lk rfl f2, lk rfl f3, lk rfl f4, lk rfl f5, lk rfl f6, lk rfl f7, lk rfl f8, lk rfl f9, lk rfl f10, lk rfl f11, lk rfl f12, lk rfl f13, lk rfl f14, lk rfl f15, lk rfl f60, lk rfl f17, lk rfl f18, lk rfl f19, lk rfl f20, lk rfl f21, lk rfl f22, rfl, rfl, rfl, rfl, rfl, rfl, rfl, rfl, rfl, rfl, rfl, trivial⟩
         refine s_neA hE (Zk hE rfl (lkb rfl hb48)) (by decide) rfl rfl (eqok_arr Try.underlying25 ty5 rfl false rfl (by decide) (eqok_byte Try.underlying5)) (by decide) (by kernel_rfl) ?_; intro a hE
         refine YQ hE Za (dl rfl) (lkb rfl hb48) rfl ?_; intro a hE
         refine Zj ?_
         have ht61 := Option.some.inj hl36
         subst ht61
         refine Zl ?_
         have hM := hM.pull (pre := [_, _])
         have hM := hM.pull (pre := [_, _])
         have hM := M.fst (l := [_, _]) hM
         exact ⟨hE.sub ⟨rfl, rfl, rfl, rfl, rfl, rfl, trivial⟩, hM⟩
     ·skip
      rintro a w ⟨hE, hM⟩
      refine Zt hE rfl ?_ ?_
      ·intro hb62
       have hF37 := Zz hF37 hb62
       refine Zc (Ze hE Za (dl rfl) rfl ?_); intro a hE
       refine Zf ?_
       have ht63 := hx24 _ (Option.some.inj hF37).symm
       subst ht63
       have hr := Option.some.inj hF20
       subst hr
       have hM := M.fst (l := []) hM
       exact wp_ret (WZ (ZL (ZL (WZ (ZL (ZL (Zy hE rfl (Zu hE rfl) ⟨_, rfl, rfl, hM.kept⟩)))))))
      ·intro hb62
       have hF37 := ZA hF37 hb62
       refine wp_skip (Yj (Zx (wp_region_lit (Zh hE Za (dl rfl) rfl rfl rfl ?_)))); intro a hE
       refine Zd hE Za (dl rfl) rfl ?_; intro a hE
       refine Zj (Zl ?_)
       exact ⟨_, (Option.some.inj hF37).symm, hE.sub ⟨rfl, rfl, rfl, rfl, rfl, trivial⟩, hM⟩
    ·intro hb26
     have hs23 := ZA hs23 hb26
     refine wp_exit (Zr (Zr (Yk ?_)))
     have ht64 := hx24 _ (Option.some.inj hs23).symm
     subst ht64
     refine Zl ?_
     have hM := M.fst (l := []) hM
     exact ⟨(), rfl, hE.sub trivial, hM⟩
   ·skip
    rintro a w ⟨s21, ht, hE, hM⟩
    subst ht
    have hF20 := el_nx hF20
    refine Zx (Zc (Ze hE Za (dl rfl) rfl ?_)); intro a hE
    refine Zf ?_
    have hr := Option.some.inj hF20
    subst hr
    exact wp_ret (Zy hE rfl (Zu hE rfl) ⟨_, rfl, rfl, hM.kept⟩)
noncomputable def VF (p0 : GBlobs) : Option (Bool) :=
 ((VV).bind fun r7 => (Y7 r7 p0).bind fun r12 => some r12 : Option (Bool)).bind fun j3 => some j3
theorem c_impl_IsBlobs (w0 : World) (p0 : GBlobs) (v0_1 : Value) (hv0_1 : Ro w0 p0.Keys [v0_1]) (v0_2 : Value) (hv0_2 : Ro w0 p0.Data [v0_2]) (v0_3 : Value) (hv0_3 : Ro w0 p0.Counts [v0_3]) (r : Bool) (hF : VF p0 = some r) :
  Calls Try.prog 79 [(Value.agg (cat [[v0_1], [v0_2], [v0_3]]).toArray)].toArray w0 (fun en w' => ∃ v, en = .returned v ∧ (v = (vT r) ∧ Kept (Old w0) w0 w')) := by
 refine ZC (n := 6) Try.func79 rfl rfl (Nat.le_of_ble_eq_true rfl) rfl ?_
 intro a hE
 have hM := M.start w0
 unfold VF at hF
 refine Zc (Z5 (cs := cat [[v0_1], [v0_2], [v0_3]]) hE hM Za (dl rfl) rfl rfl ?_); intro b1 w a hM hE
 refine Ze hE Za (dl rfl) rfl ?_; intro a hE
 refine Zf ?_
 obtain ⟨j3, hl4, hF5⟩ := bind_some hF
 refine ZS (fun a w => Env 6 a [(2, (vT j3))] ∧ M (Old w0) w0 w []) ?_ ?_
 ·skip
  obtain ⟨r7, e8, hl4⟩ := bind_some hl4
  refine c_draw2 (n := 6) (hd := [_, _]) (tl := [_, _]) (its := [raw b1 (cat [[v0_1], [v0_2], [v0_3]])]) YB rfl rfl [3, 4] (by decide) [(0, fun v => own NoB r7 (Value.cells v).toList)] rfl (fun j => ([fun v => ∃ cs, v = .agg cs, fun v => v = (Value.agg (cat [[v0_1], [v0_2], [v0_3]]).toArray)] : List (Value → Prop)).getD j (fun _ => True)) hE hM.drew (ZH (Zb ?_ (Zb ?_ ZD))) ?_
  ·intro a w ux6 D hE hM hD hp
   have hM0 := hM
   have hM : M (Old w0) w0 w [raw b1 (cat [[v0_1], [v0_2], [v0_3]]), opt (D 0) (own NoB r7 (Value.cells (ux6 0)).toList)] := hM
   refine Zw (vs := []) hE Za (dl rfl) rfl cb97 (c_impl_newHasher _  r7 e8) ?_
   rintro _ w a ⟨u9, rfl, hFr, hK⟩ hE
   have hM := hM0.add hK hFr
   have hM := hM.packL (m := [own NoB (r7.engine : (Ref Gengine)) [u9]]) (it := own NoB r7 (cat [[u9]])) (Xg noB) (fun fp h => by obtain ⟨_, _, rfl, _, s1, rfl⟩ := h; exact pk_Ghasher s1 (by simp))
   exact ⟨_, _, rfl, hE, ⟨_, rfl⟩, M.optFill (mk1 := []) (mk2 := []) (f := (fun v => own NoB r7 (Value.cells v).toList)) hM rfl hD⟩
  ·intro a w ux6 D hE hM hD hp
   have hM0 := hM
   have hM : M (Old w0) w0 w [raw b1 (cat [[v0_1], [v0_2], [v0_3]]), opt (D 0) (own NoB r7 (Value.cells (ux6 0)).toList)] := hM
   refine Zp (cs := cat [[v0_1], [v0_2], [v0_3]]) hE Za (dl rfl) rfl ty55 rfl (hM.rawAt (pre := [])) (ZR (cl1 (n := 1) (m := 2) rfl (cl1 (n := 1) (m := 1) rfl (cl1 (n := 1) (m := 0) rfl cl0)))) ?_; intro a hE
   exact ⟨_, _, rfl, hE, rfl, hM0.optKeep rfl⟩
  ·intro a w ux6 hE hM hg
   have f1 : ux6 1 = (Value.agg (cat [[v0_1], [v0_2], [v0_3]]).toArray) := hg 1 (by decide)
   have hM : M (Old w0) w0 w [raw b1 (cat [[v0_1], [v0_2], [v0_3]]), own NoB r7 (Value.cells (ux6 0)).toList] := hM
   obtain ⟨q0_1, hcz, hq0_1⟩ := un_Ghasher (hM.ro (pre := [_]) noB)
   obtain ⟨cz, hvz⟩ := hg 0 (by decide)
   have f0 : ux6 0 = (Value.agg (cat [[q0_1]]).toArray) := by rw [hvz] at hcz ⊢; exact congrArg Value.agg (toList_eq hcz)
   have hM := hM.pull (pre := [_])
   rw [f0] at hM
   have hM := hM.unpackL (m := [own NoB (r7.engine : (Ref Gengine)) [q0_1]]) (fun fp h => by obtain ⟨_, rfl, s1⟩ := unc_Ghasher h; exact Xa.one (Xg noB) s1)
   simp only [List.cons_append, List.nil_append] at hM
   have hE := hE.sub (e' := [(3, (Value.agg (cat [[q0_1]]).toArray)), (4, (Value.agg (cat [[v0_1], [v0_2], [v0_3]]).toArray)), (0, (Value.agg (cat [[v0_1], [v0_2], [v0_3]]).toArray)), (1, (ptr b1 0)), (2, (vT false))]) ⟨lk rfl f0, lk rfl f1, rfl, rfl, rfl, trivial⟩
   obtain ⟨r12, e13, hl4⟩ := bind_some hl4
   refine Zw (vs := [(Value.agg (cat [[q0_1]]).toArray), (Value.agg (cat [[v0_1], [v0_2], [v0_3]]).toArray)]) hE Za (dl rfl) rfl cb98 (c_impl_hasher_isBlobs _ r7 q0_1 (hM.ro (pre := []) noB) p0 v0_1 (hM.rdo hv0_1) v0_2 (hM.rdo hv0_2) v0_3 (hM.rdo hv0_3) r12 e13) ?_
   rintro v w a ⟨rfl, hK⟩ hE
   have hM := hM.keep hK
   refine Ze hE Za (dl rfl) rfl ?_; intro a hE
   refine Zj ?_
   have ht14 := Option.some.inj hl4
   subst ht14
   refine Zl ?_
   have hM := M.fst (l := []) hM
   exact ⟨hE.sub ⟨rfl, trivial⟩, hM⟩
 ·skip
  rintro a w ⟨hE, hM⟩
  have hr := Option.some.inj hF5
  subst hr
  exact wp_ret (Zy hE rfl (Zu hE rfl) ⟨_, rfl, rfl, hM.kept⟩)
noncomputable def ZB (p0 : (List (Vector UInt8 32))) (p1 : (Vector UInt8 32)) (p2 : (Vector UInt8 32) → (Vector UInt8 32) → Option (Int)) (s6 : Int × Int) : Option (Fl (Int × Int) Int) :=
 if (decide (s6.2 < s6.1)) = true then ((((idx p0 (IntKind.i64.wrap (Vv (IntKind.u64.wrap (wr (s6.2 + s6.1))) 1))).bind fun x18 => ((p2 x18 p1)).bind fun r21 => some (decide (r21 < 0)) : Option (Bool)).bind fun j14 => (if j14 = true then (some (s6.1, wr ((IntKind.i64.wrap (Vv (IntKind.u64.wrap (wr (s6.2 + s6.1))) 1)) + 1))) else (some (IntKind.i64.wrap (Vv (IntKind.u64.wrap (wr (s6.2 + s6.1))) 1), s6.2)) : Option (Int × Int)).bind fun j24 => some (j24.1, j24.2) : Option (Int × Int)).bind fun j11 => some (Fl.nx (j11.1, j11.2))) else (some (Fl.ex s6.2))
noncomputable def ZJ (p0 : (List (Vector UInt8 32))) (p1 : (Vector UInt8 32)) (p2 : (Vector UInt8 32) → (Vector UInt8 32) → Option (Int)) : Option (Int × Bool) :=
 (ZG (ZB p0 p1 p2) ((p0.length : Int), 0) : Option (Int)).bind fun j3 => (if (decide (j3 < (p0.length : Int))) = true then ((idx p0 j3).bind fun x37 => ((p2 x37 p1)).bind fun r40 => some (j3, r40 == 0)) else (some (j3, false)) : Option (Int × Bool)).bind fun j32 => some (j32.1, j32.2)
theorem Y5 (w0 : World) (p0 : (List (Vector UInt8 32))) (v0_1 : Value) (hv0_1 : Ro w0 p0 [v0_1]) (p1 : (Vector UInt8 32)) (p2 : (Vector UInt8 32) → (Vector UInt8 32) → Option (Int)) (k2 : Nat) (q2 : List Value) (hcb2 : Callable Try.prog k2) (hg2 : ∀ (w2 : World), Kept (Old w0) w0 w2 → ∀ (z0 : (Vector UInt8 32)) (z1 : (Vector UInt8 32)) (zr : Int), p2 z0 z1 = some zr → Calls Try.prog k2 ([(Value.agg (Flat.enc z0).toArray), (Value.agg (Flat.enc z1).toArray)] ++ q2).toArray w2 (fun en w3 => ∃ v, en = .returned v ∧ (v = (vI zr) ∧ Kept (Old w2) w2 w3))) (r : Int × Bool) (hF : ZJ p0 p1 p2 = some r) :
  Calls Try.prog 80 [v0_1, (Value.agg (Flat.enc p1).toArray), (Value.func (.func k2) #[] q2.toArray)].toArray w0 (fun en w' => ∃ v, en = .returned v ∧ (v = (Value.tuple [(vI r.1), (vT r.2)].toArray) ∧ Kept (Old w0) w0 w')) := by
 refine ZC (n := 49) Try.func80 rfl rfl (Nat.le_of_ble_eq_true rfl) rfl ?_
 intro a hE
 have hM := M.start w0
 unfold ZJ at hF
 refine Zc (Z5 (cs := Flat.enc p1) hE hM Za (dl rfl) rfl rfl ?_); intro b1 w a hM hE
 refine Ze hE Za (dl rfl) rfl ?_; intro a hE
 refine Ze hE Za (dl rfl) rfl ?_; intro a hE
 refine Zf (Zc (Zd hE Za (dl rfl) rfl ?_)); intro a hE
 refine Z8 hE Za (dl rfl) rfl Try.underlying53 (hM.rd hv0_1) ?_; intro a hE
 refine Ze hE Za (dl rfl) rfl ?_; intro a hE
 refine Zf (Zc (Zd hE Za (dl rfl) rfl ?_)); intro a hE
 refine Ze hE Za (dl rfl) rfl ?_; intro a hE
 refine Ze hE Za (dl rfl) rfl ?_; intro a hE
 refine Zf ?_
 obtain ⟨j3, hl4, hF5⟩ := bind_some hF
 refine ZS (fun a w => Env 49 a [(0, v0_1), (2, (Value.func (.func k2) #[] q2.toArray)), (4, (ptr b1 0)), (8, (vI (p0.length : Int))), (9, (vI j3))] ∧ M (Old w0) w0 w [raw b1 (Flat.enc p1)]) ?_ ?_
 ·skip
  refine wp_block ?_
  refine ZM (fun (s6 : Int × Int) a w => Env 49 a [(0, v0_1), (2, (Value.func (.func k2) #[] q2.toArray)), (4, (ptr b1 0)), (8, (vI (p0.length : Int))), (9, (vI s6.2)), (10, (vI s6.1))] ∧ M (Old w0) w0 w [raw b1 (Flat.enc p1)]) hl4 ⟨hE.sub ⟨rfl, rfl, rfl, rfl, rfl, rfl, trivial⟩, hM⟩ ?_
  rintro s6 a w ⟨hE, hM⟩ o9 hs7 hx8
  unfold ZB at hs7
  refine wp_seq (Zc (Zd hE Za (dl rfl) rfl ?_)); intro a hE
  refine Zd hE Za (dl rfl) rfl ?_; intro a hE
  refine Zh hE Za (dl rfl) rfl rfl rfl ?_; intro a hE
  refine Zf ?_
  refine Zt hE rfl ?_ ?_
  ·intro hb10
   have hs7 := Zz hs7 hb10
   refine wp_skip (Zx ?_)
   obtain ⟨j11, hl12, hF13⟩ := bind_some hs7
   refine ZW (fun a w => Env 49 a [(0, v0_1), (2, (Value.func (.func k2) #[] q2.toArray)), (4, (ptr b1 0)), (8, (vI (p0.length : Int))), (9, (vI j11.2)), (10, (vI j11.1))] ∧ M (Old w0) w0 w [raw b1 (Flat.enc p1)]) ?_ ?_
   ·skip
    refine wp_block (Zc (Zd hE Za (dl rfl) rfl ?_)); intro a hE
    refine Zd hE Za (dl rfl) rfl ?_; intro a hE
    refine Zh hE Za (dl rfl) rfl rfl rfl ?_; intro a hE
    refine YI hE Za (dl rfl) rfl Try.underlying3 Try.underlying134 ?_; intro a hE
    refine s_sh hE Za (dl rfl) rfl rfl (bU_shr _ _ (by decide)) ?_; intro a hE
    refine YI hE Za (dl rfl) rfl Try.underlying134 Try.underlying3 ?_; intro a hE
    refine Ze hE Za (dl rfl) rfl ?_; intro a hE
    refine Zf ?_
    obtain ⟨j14, hl15, hF16⟩ := bind_some hl12
    refine ZS (fun a w => Env 49 a [(0, v0_1), (2, (Value.func (.func k2) #[] q2.toArray)), (4, (ptr b1 0)), (8, (vI (p0.length : Int))), (9, (vI s6.2)), (10, (vI s6.1)), (11, (vI (IntKind.i64.wrap (Vv (IntKind.u64.wrap (wr (s6.2 + s6.1))) 1)))), (31, (vT j14))] ∧ M (Old w0) w0 w [raw b1 (Flat.enc p1)]) ?_ ?_
    ·skip
     obtain ⟨x18, e19, hl15⟩ := bind_some hl15
     have hi20 := ZQ e19
     refine Ye (n := 49) (hd := [_, _, _, _, _, _]) (tl := [_, _]) YB rfl rfl [24, 25, 26, 27, 28, 29] (by decide) (fun w => M (Old w0) w0 w [raw b1 (Flat.enc p1)]) (fun j => ([fun v _ => v = (Value.func (.func k2) #[] q2.toArray), fun v _ => v = v0_1, fun v _ => v = (vI (IntKind.i64.wrap (Vv (IntKind.u64.wrap (wr (s6.2 + s6.1))) 1))), fun v _ => v = (ptr (sb v0_1) (so v0_1 + ((IntKind.i64.wrap (Vv (IntKind.u64.wrap (wr (s6.2 + s6.1))) 1))).toNat * 32)), fun v _ => v = (Value.agg (Flat.enc x18).toArray), fun v _ => v = (Value.agg (Flat.enc p1).toArray)] : List (Value → World → Prop)).getD j (fun _ _ => True)) (fun _ _ h hk => h.keep hk) (gup (Zg (Zg (Zg (Zg (Zg (Zg Ww))))))) hE hM.drew (ZH (Zb ?_ (Zb ?_ (Zb ?_ (Zb ?_ (Zb ?_ (Zb ?_ ZD))))))) ?_
     ·intro a w ux17 hE hM hp
      refine Zd hE Za (dl rfl) rfl ?_; intro a hE
      exact ⟨Kept.refl _ _, _, _, rfl, hE, rfl⟩
     ·intro a w ux17 hE hM hp
      refine Zd hE Za (dl rfl) rfl ?_; intro a hE
      exact ⟨Kept.refl _ _, _, _, rfl, hE, rfl⟩
     ·intro a w ux17 hE hM hp
      refine Zd hE Za (dl rfl) rfl ?_; intro a hE
      exact ⟨Kept.refl _ _, _, _, rfl, hE, rfl⟩
     ·intro a w ux17 hE hM hp
      have f1 : ux17 1 = v0_1 := hp 0 _ rfl rfl
      have f2 : ux17 2 = (vI (IntKind.i64.wrap (Vv (IntKind.u64.wrap (wr (s6.2 + s6.1))) 1))) := hp 1 _ rfl rfl
      refine ZK hE Za (dl rfl) (lk rfl f1) (lk rfl f2) Try.underlying53 Yi (hM.rd hv0_1) hi20.1 ?_; intro a hE
      exact ⟨Kept.refl _ _, _, _, rfl, hE, rfl⟩
     ·intro a w ux17 hE hM hp
      have f3 : ux17 3 = (ptr (sb v0_1) (so v0_1 + ((IntKind.i64.wrap (Vv (IntKind.u64.wrap (wr (s6.2 + s6.1))) 1))).toNat * 32)) := hp 0 _ rfl rfl
      refine Zp (cs := Flat.enc x18) hE Za (dl rfl) (lk rfl f3) Yi rfl (Yr (hM.rd hv0_1) hi20.2) (Flat.len _) ?_; intro a hE
      exact ⟨Kept.refl _ _, _, _, rfl, hE, rfl⟩
     ·intro a w ux17 hE hM hp
      refine Zp (cs := Flat.enc p1) hE Za (dl rfl) rfl Yi rfl (hM.rawAt (pre := [])) (Flat.len _) ?_; intro a hE
      exact ⟨Kept.refl _ _, _, _, rfl, hE, rfl⟩
     ·intro a w ux17 hE hM hg
      have f0 : ux17 0 = (Value.func (.func k2) #[] q2.toArray) := hg 0 (by decide)
      have f1 : ux17 1 = v0_1 := hg 1 (by decide)
      have f2 : ux17 2 = (vI (IntKind.i64.wrap (Vv (IntKind.u64.wrap (wr (s6.2 + s6.1))) 1))) := hg 2 (by decide)
      have f3 : ux17 3 = (ptr (sb v0_1) (so v0_1 + ((IntKind.i64.wrap (Vv (IntKind.u64.wrap (wr (s6.2 + s6.1))) 1))).toNat * 32)) := hg 3 (by decide)
      have f4 : ux17 4 = (Value.agg (Flat.enc x18).toArray) := hg 4 (by decide)
      have f5 : ux17 5 = (Value.agg (Flat.enc p1).toArray) := hg 5 (by decide)
      have hE := hE.sub (e' := [(24, (Value.func (.func k2) #[] q2.toArray)), (25, v0_1), (26, (vI (IntKind.i64.wrap (Vv (IntKind.u64.wrap (wr (s6.2 + s6.1))) 1)))), (27, (ptr (sb v0_1) (so v0_1 + ((IntKind.i64.wrap (Vv (IntKind.u64.wrap (wr (s6.2 + s6.1))) 1))).toNat * 32))), (28, (Value.agg (Flat.enc x18).toArray)), (29, (Value.agg (Flat.enc p1).toArray)), (0, v0_1), (2, (Value.func (.func k2) #[] q2.toArray)), (4, (ptr b1 0)), (8, (vI (p0.length : Int))), (9, (vI s6.2)), (10, (vI s6.1)), (11, (vI (IntKind.i64.wrap (Vv (IntKind.u64.wrap (wr (s6.2 + s6.1))) 1)))), (15, (vI s6.2)), (16, (vI s6.1)), (17, (vT (decide (s6.2 < s6.1)))), (18, (vI s6.2)), (19, (vI s6.1)), (20, (vI (wr (s6.2 + s6.1)))), (21, (Value.int .u64 (IntKind.u64.wrap (wr (s6.2 + s6.1))))), (22, (Value.int .u64 (Vv (IntKind.u64.wrap (wr (s6.2 + s6.1))) 1))), (23, (vI (IntKind.i64.wrap (Vv (IntKind.u64.wrap (wr (s6.2 + s6.1))) 1))))]) ⟨lk rfl f0, lk rfl f1, lk rfl f2, lk rfl f3, lk rfl f4, lk rfl f5, rfl, rfl, rfl, rfl, rfl, rfl, rfl, rfl, rfl, rfl, rfl, rfl, rfl, rfl, rfl, rfl, trivial⟩
      obtain ⟨r21, e22, hl15⟩ := bind_some hl15
      refine s_callv2 (vs := [(Value.agg (Flat.enc x18).toArray), (Value.agg (Flat.enc p1).toArray)]) hE Za (dl rfl) rfl rfl hcb2 (hg2 _ hM.kept x18 p1 r21 e22) ?_
      rintro v w a ⟨rfl, hK⟩ hE
      have hM := hM.keep hK
      refine Zh hE Za (dl rfl) rfl rfl rfl ?_; intro a hE
      refine Zj ?_
      have ht23 := Option.some.inj hl15
      subst ht23
      refine Zl ?_
      exact ⟨hE.sub ⟨rfl, rfl, rfl, rfl, rfl, rfl, rfl, rfl, trivial⟩, hM⟩
    ·skip
     rintro a w ⟨hE, hM⟩
     obtain ⟨j24, hl25, hF26⟩ := bind_some hF16
     refine ZW (fun a w => Env 49 a [(0, v0_1), (2, (Value.func (.func k2) #[] q2.toArray)), (4, (ptr b1 0)), (8, (vI (p0.length : Int))), (9, (vI j24.2)), (10, (vI j24.1))] ∧ M (Old w0) w0 w [raw b1 (Flat.enc p1)]) ?_ ?_
     ·skip
      refine Zt hE rfl ?_ ?_
      ·intro hb27
       have hl25 := Zz hl25 hb27
       refine wp_region_lit (Zd hE Za (dl rfl) rfl ?_); intro a hE
       refine Zh hE Za (dl rfl) rfl rfl rfl ?_; intro a hE
       refine Ze hE Za (dl rfl) rfl ?_; intro a hE
       refine Zj ?_
       have ht28 := Option.some.inj hl25
       subst ht28
       refine Zl ?_
       exact ⟨hE.sub ⟨rfl, rfl, rfl, rfl, rfl, rfl, trivial⟩, hM⟩
      ·intro hb27
       have hl25 := ZA hl25 hb27
       refine wp_region_lit (Zd hE Za (dl rfl) rfl ?_); intro a hE
       refine Ze hE Za (dl rfl) rfl ?_; intro a hE
       refine Zj ?_
       have ht29 := Option.some.inj hl25
       subst ht29
       refine Zl ?_
       exact ⟨hE.sub ⟨rfl, rfl, rfl, rfl, rfl, rfl, trivial⟩, hM⟩
     ·skip
      rintro a w ⟨hE, hM⟩
      refine Yj ?_
      have ht30 := Option.some.inj hF26
      subst ht30
      refine Zl ?_
      exact ⟨hE.sub ⟨rfl, rfl, rfl, rfl, rfl, rfl, trivial⟩, hM⟩
   ·skip
    rintro a w ⟨hE, hM⟩
    refine Zl ?_
    exact ⟨_, (Option.some.inj hF13).symm, hE.sub ⟨rfl, rfl, rfl, rfl, rfl, rfl, trivial⟩, hM⟩
  ·intro hb10
   have hs7 := ZA hs7 hb10
   refine wp_exit (Zr (Zr (Yk ?_)))
   have ht31 := hx8 _ (Option.some.inj hs7).symm
   subst ht31
   refine Zl ?_
   exact ⟨hE.sub ⟨rfl, rfl, rfl, rfl, rfl, trivial⟩, hM⟩
 ·skip
  rintro a w ⟨hE, hM⟩
  obtain ⟨j32, hl33, hF34⟩ := bind_some hF5
  refine ZS (fun a w => Env 49 a [(6, (vI j32.1)), (7, (vT j32.2))] ∧ M (Old w0) w0 w []) ?_ ?_
  ·skip
   refine WV (decide (j3 < (p0.length : Int))) (fun hb36 => ?_) (fun hb36 => ?_)
   ·have hl33 := Zz hl33 hb36
    obtain ⟨x37, e38, hl33⟩ := bind_some hl33
    have hi39 := ZQ e38
    obtain ⟨r40, e41, hl33⟩ := bind_some hl33
    refine Wz (n := 49) (hd := [_, _, _, _, _, _, _, _, _, _, _, _, _, _, _]) (tl := [_]) YB rfl rfl [35, 36, 37, 38, 39, 40, 41, 42, 43, 44, 45, 46, 47, 48, 6] (by decide) (fun D u w => M (Old w0) w0 w ([raw b1 (Flat.enc p1)] ++ qL ([] : Mk) D u) ∧ GOk ([([], fun us v => v = (vI j3)), ([], fun us v => v = (vI j3)), ([], fun us v => v = (vI (p0.length : Int))), ([], fun us v => v = (vT (decide (j3 < (p0.length : Int))))), ([], fun us v => v = (vT (decide (j3 < (p0.length : Int))))), ([], fun us v => v = (Value.func (.func k2) #[] q2.toArray)), ([], fun us v => v = v0_1), ([], fun us v => v = (vI j3)), ([], fun us v => v = (ptr (sb v0_1) (so v0_1 + (j3).toNat * 32))), ([], fun us v => v = (Value.agg (Flat.enc x37).toArray)), ([], fun us v => v = (Value.agg (Flat.enc p1).toArray)), ([], fun us v => v = (vI r40)), ([], fun us v => v = (vT (r40 == 0))), ([], fun us v => v = (vT (r40 == 0))), ([], fun us v => v = (vI j3))] : Gs) D u) hE (fun u => ⟨M.q0 hM.drew u, gok0⟩) (ZH (Zb ?_ (Zb ?_ (Zb ?_ (Zb ?_ (Zb ?_ (Zb ?_ (Zb ?_ (Zb ?_ (Zb ?_ (Zb ?_ (Zb ?_ (Zb ?_ (Zb ?_ (Zb ?_ (Zb ?_ ZD)))))))))))))))) ?_
    ·intro a w ux35 D hE hI hD hdc hp
     have hM0 := hI.1
     refine Zd hE Za (dl rfl) rfl ?_; intro a hE
     exact ⟨_, _, rfl, hE, M.qKeep hM0 rfl, hI.2.put hD rfl ZF rfl⟩
    ·intro a w ux35 D hE hI hD hdc hp
     have hM0 := hI.1
     refine Zd hE Za (dl rfl) rfl ?_; intro a hE
     exact ⟨_, _, rfl, hE, M.qKeep hM0 rfl, hI.2.put hD rfl ZF rfl⟩
    ·intro a w ux35 D hE hI hD hdc hp
     have hM0 := hI.1
     refine Zd hE Za (dl rfl) rfl ?_; intro a hE
     exact ⟨_, _, rfl, hE, M.qKeep hM0 rfl, hI.2.put hD rfl ZF rfl⟩
    ·intro a w ux35 D hE hI hD hdc hp
     have d1 : D 1 = true := hp 0 _ rfl rfl
     have g1 := hI.2 1 d1 _ rfl
     have f1 : ux35 1 = (vI j3) := g1.2
     have d2 : D 2 = true := hp 1 _ rfl rfl
     have g2 := hI.2 2 d2 _ rfl
     have f2 : ux35 2 = (vI (p0.length : Int)) := g2.2
     have hM0 := hI.1
     refine Zh hE Za (dl rfl) (lk rfl f1) (lk rfl f2) rfl ?_; intro a hE
     exact ⟨_, _, rfl, hE, M.qKeep hM0 rfl, hI.2.put hD rfl ZF rfl⟩
    ·intro a w ux35 D hE hI hD hdc hp
     have d3 : D 3 = true := hp 0 _ rfl rfl
     have g3 := hI.2 3 d3 _ rfl
     have f3 : ux35 3 = (vT (decide (j3 < (p0.length : Int)))) := g3.2
     have hM0 := hI.1
     refine Zd hE Za (dl rfl) (lk rfl f3) ?_; intro a hE
     exact ⟨_, _, rfl, hE, M.qKeep hM0 rfl, hI.2.put hD rfl ZF rfl⟩
    ·intro a w ux35 D hE hI hD hdc hp
     have d4 : D 4 = true := hp 0 _ rfl rfl
     have g4 := hI.2 4 d4 _ rfl
     have f4 : ux35 4 = (vT (decide (j3 < (p0.length : Int)))) := g4.2
     have hM0 := hI.1
     refine Zd hE (Zk hE rfl (lkb (lk rfl f4) hb36)) (by decide) rfl ?_; intro a hE
     exact ⟨_, _, rfl, hE, M.qKeep hM0 rfl, hI.2.put hD rfl ZF rfl⟩
    ·intro a w ux35 D hE hI hD hdc hp
     have d4 : D 4 = true := hp 0 _ rfl rfl
     have g4 := hI.2 4 d4 _ rfl
     have f4 : ux35 4 = (vT (decide (j3 < (p0.length : Int)))) := g4.2
     have hM0 := hI.1
     refine Zd hE (Zk hE rfl (lkb (lk rfl f4) hb36)) (by decide) rfl ?_; intro a hE
     exact ⟨_, _, rfl, hE, M.qKeep hM0 rfl, hI.2.put hD rfl ZF rfl⟩
    ·intro a w ux35 D hE hI hD hdc hp
     have d4 : D 4 = true := hp 0 _ rfl rfl
     have g4 := hI.2 4 d4 _ rfl
     have f4 : ux35 4 = (vT (decide (j3 < (p0.length : Int)))) := g4.2
     have hM0 := hI.1
     refine Zd hE (Zk hE rfl (lkb (lk rfl f4) hb36)) (by decide) rfl ?_; intro a hE
     exact ⟨_, _, rfl, hE, M.qKeep hM0 rfl, hI.2.put hD rfl ZF rfl⟩
    ·intro a w ux35 D hE hI hD hdc hp
     have d4 : D 4 = true := hp 2 _ rfl rfl
     have g4 := hI.2 4 d4 _ rfl
     have f4 : ux35 4 = (vT (decide (j3 < (p0.length : Int)))) := g4.2
     have d6 : D 6 = true := hp 0 _ rfl rfl
     have g6 := hI.2 6 d6 _ rfl
     have f6 : ux35 6 = v0_1 := g6.2
     have d7 : D 7 = true := hp 1 _ rfl rfl
     have g7 := hI.2 7 d7 _ rfl
     have f7 : ux35 7 = (vI j3) := g7.2
     have hM0 := hI.1
     have hM := hI.1
     refine ZK hE (Zk hE rfl (lkb (lk rfl f4) hb36)) (by decide) (lk rfl f6) (lk rfl f7) Try.underlying53 Yi (hM.rd hv0_1) hi39.1 ?_; intro a hE
     exact ⟨_, _, rfl, hE, M.qKeep hM0 rfl, hI.2.put hD rfl ZF rfl⟩
    ·intro a w ux35 D hE hI hD hdc hp
     have d4 : D 4 = true := hp 1 _ rfl rfl
     have g4 := hI.2 4 d4 _ rfl
     have f4 : ux35 4 = (vT (decide (j3 < (p0.length : Int)))) := g4.2
     have d8 : D 8 = true := hp 0 _ rfl rfl
     have g8 := hI.2 8 d8 _ rfl
     have f8 : ux35 8 = (ptr (sb v0_1) (so v0_1 + (j3).toNat * 32)) := g8.2
     have hM0 := hI.1
     have hM := hI.1
     refine Zp (cs := Flat.enc x37) hE (Zk hE rfl (lkb (lk rfl f4) hb36)) (by decide) (lk rfl f8) Yi rfl (Yr (hM.rd hv0_1) hi39.2) (Flat.len _) ?_; intro a hE
     exact ⟨_, _, rfl, hE, M.qKeep hM0 rfl, hI.2.put hD rfl ZF rfl⟩
    ·intro a w ux35 D hE hI hD hdc hp
     have d4 : D 4 = true := hp 0 _ rfl rfl
     have g4 := hI.2 4 d4 _ rfl
     have f4 : ux35 4 = (vT (decide (j3 < (p0.length : Int)))) := g4.2
     have hM0 := hI.1
     have hM := hI.1
     refine Zp (cs := Flat.enc p1) hE (Zk hE rfl (lkb (lk rfl f4) hb36)) (by decide) rfl Yi rfl (hM.rawAt (pre := [])) (Flat.len _) ?_; intro a hE
     exact ⟨_, _, rfl, hE, M.qKeep hM0 rfl, hI.2.put hD rfl ZF rfl⟩
    ·intro a w ux35 D hE hI hD hdc hp
     have d4 : D 4 = true := hp 3 _ rfl rfl
     have g4 := hI.2 4 d4 _ rfl
     have f4 : ux35 4 = (vT (decide (j3 < (p0.length : Int)))) := g4.2
     have d5 : D 5 = true := hp 0 _ rfl rfl
     have g5 := hI.2 5 d5 _ rfl
     have f5 : ux35 5 = (Value.func (.func k2) #[] q2.toArray) := g5.2
     have d9 : D 9 = true := hp 1 _ rfl rfl
     have g9 := hI.2 9 d9 _ rfl
     have f9 : ux35 9 = (Value.agg (Flat.enc x37).toArray) := g9.2
     have d10 : D 10 = true := hp 2 _ rfl rfl
     have g10 := hI.2 10 d10 _ rfl
     have f10 : ux35 10 = (Value.agg (Flat.enc p1).toArray) := g10.2
     have hM0 := hI.1
     have hM := hI.1
     refine s_callv2 (vs := [(Value.agg (Flat.enc x37).toArray), (Value.agg (Flat.enc p1).toArray)]) hE (Zk hE rfl (lkb (lk rfl f4) hb36)) (by decide) (lk rfl f5) (Z0 (ZZ (lk rfl f9) (ZZ (lk rfl f10) Xh))) hcb2 (hg2 _ hM.kept x37 p1 r40 e41) ?_
     rintro v w a ⟨rfl, hK⟩ hE
     exact ⟨_, _, rfl, hE, M.qKeep (hM0.keep hK) rfl, hI.2.put hD rfl ZF rfl⟩
    ·intro a w ux35 D hE hI hD hdc hp
     have d4 : D 4 = true := hp 1 _ rfl rfl
     have g4 := hI.2 4 d4 _ rfl
     have f4 : ux35 4 = (vT (decide (j3 < (p0.length : Int)))) := g4.2
     have d11 : D 11 = true := hp 0 _ rfl rfl
     have g11 := hI.2 11 d11 _ rfl
     have f11 : ux35 11 = (vI r40) := g11.2
     have hM0 := hI.1
     refine Zh hE (Zk hE rfl (lkb (lk rfl f4) hb36)) (by decide) (lk rfl f11) rfl rfl ?_; intro a hE
     exact ⟨_, _, rfl, hE, M.qKeep hM0 rfl, hI.2.put hD rfl ZF rfl⟩
    ·intro a w ux35 D hE hI hD hdc hp
     have d4 : D 4 = true := hp 0 _ rfl rfl
     have g4 := hI.2 4 d4 _ rfl
     have f4 : ux35 4 = (vT (decide (j3 < (p0.length : Int)))) := g4.2
     have d12 : D 12 = true := hp 1 _ rfl rfl
     have g12 := hI.2 12 d12 _ rfl
     have f12 : ux35 12 = (vT (r40 == 0)) := g12.2
     have hM0 := hI.1
     refine Yn hE Za (dl rfl) (lkb (lk rfl f4) hb36) (lk rfl f12) ?_; intro a hE
     exact ⟨_, _, rfl, hE, M.qKeep hM0 rfl, hI.2.put hD rfl ZF rfl⟩
    ·intro a w ux35 D hE hI hD hdc hp
     have d0 : D 0 = true := hp 0 _ rfl rfl
     have g0 := hI.2 0 d0 _ rfl
     have f0 : ux35 0 = (vI j3) := g0.2
     have hM0 := hI.1
     refine Ze hE Za (dl rfl) (lk rfl f0) ?_; intro a hE
     exact ⟨_, _, rfl, hE, M.qKeep hM0 rfl, hI.2.put hD rfl ZF rfl⟩
    ·intro a w ux35 D hE hI hall
     have hM := hI.1
     have d0 : D 0 = true := hall 0 (by decide)
     have d1 : D 1 = true := hall 1 (by decide)
     have d2 : D 2 = true := hall 2 (by decide)
     have d3 : D 3 = true := hall 3 (by decide)
     have d4 : D 4 = true := hall 4 (by decide)
     have d5 : D 5 = true := hall 5 (by decide)
     have d6 : D 6 = true := hall 6 (by decide)
     have d7 : D 7 = true := hall 7 (by decide)
     have d8 : D 8 = true := hall 8 (by decide)
     have d9 : D 9 = true := hall 9 (by decide)
     have d10 : D 10 = true := hall 10 (by decide)
     have d11 : D 11 = true := hall 11 (by decide)
     have d12 : D 12 = true := hall 12 (by decide)
     have d13 : D 13 = true := hall 13 (by decide)
     have d14 : D 14 = true := hall 14 (by decide)
     have f0 : ux35 0 = (vI j3) := (hI.2 0 d0 _ rfl).2
     have f1 : ux35 1 = (vI j3) := (hI.2 1 d1 _ rfl).2
     have f2 : ux35 2 = (vI (p0.length : Int)) := (hI.2 2 d2 _ rfl).2
     have f3 : ux35 3 = (vT (decide (j3 < (p0.length : Int)))) := (hI.2 3 d3 _ rfl).2
     have f4 : ux35 4 = (vT (decide (j3 < (p0.length : Int)))) := (hI.2 4 d4 _ rfl).2
     have f5 : ux35 5 = (Value.func (.func k2) #[] q2.toArray) := (hI.2 5 d5 _ rfl).2
     have f6 : ux35 6 = v0_1 := (hI.2 6 d6 _ rfl).2
     have f7 : ux35 7 = (vI j3) := (hI.2 7 d7 _ rfl).2
     have f8 : ux35 8 = (ptr (sb v0_1) (so v0_1 + (j3).toNat * 32)) := (hI.2 8 d8 _ rfl).2
     have f9 : ux35 9 = (Value.agg (Flat.enc x37).toArray) := (hI.2 9 d9 _ rfl).2
     have f10 : ux35 10 = (Value.agg (Flat.enc p1).toArray) := (hI.2 10 d10 _ rfl).2
     have f11 : ux35 11 = (vI r40) := (hI.2 11 d11 _ rfl).2
     have f12 : ux35 12 = (vT (r40 == 0)) := (hI.2 12 d12 _ rfl).2
     have f13 : ux35 13 = (vT (r40 == 0)) := (hI.2 13 d13 _ rfl).2
     have f14 : ux35 14 = (vI j3) := (hI.2 14 d14 _ rfl).2
     have hE := hE.sub (e' := [(35, (vI j3)), (36, (vI j3)), (37, (vI (p0.length : Int))), (38, (vT (decide (j3 < (p0.length : Int))))), (39, (vT (decide (j3 < (p0.length : Int))))), (40, (Value.func (.func k2) #[] q2.toArray)), (41, v0_1), (42, (vI j3)), (43, (ptr (sb v0_1) (so v0_1 + (j3).toNat * 32))), (44, (Value.agg (Flat.enc x37).toArray)), (45, (Value.agg (Flat.enc p1).toArray)), (46, (vI r40)), (47, (vT (r40 == 0))), (48, (vT (r40 == 0))), (6, (vI j3)), (0, v0_1), (2, (Value.func (.func k2) #[] q2.toArray)), (4, (ptr b1 0)), (8, (vI (p0.length : Int))), (9, (vI j3))]) ⟨lk rfl f0, lk rfl f1, lk rfl f2, lk rfl f3, lk rfl f4, lk rfl f5, lk rfl f6, lk rfl f7, lk rfl f8, lk rfl f9, lk rfl f10, lk rfl f11, lk rfl f12, lk rfl f13, lk rfl f14, rfl, rfl, rfl, rfl, rfl, trivial⟩
     refine Ze hE Za (dl rfl) rfl ?_; intro a hE
     refine Zj ?_
     have ht42 := Option.some.inj hl33
     subst ht42
     refine Zl ?_
     have hM := M.fst (l := []) hM
     exact ⟨hE.sub ⟨rfl, rfl, trivial⟩, hM⟩
   ·have hl33 := ZA hl33 hb36
    refine Wz (n := 49) (hd := [_, _, _, _, _, _, _, _, _, _, _, _, _, _, _]) (tl := [_]) YB rfl rfl [35, 36, 37, 38, 39, 40, 41, 42, 43, 44, 45, 46, 47, 48, 6] (by decide) (fun D u w => M (Old w0) w0 w ([raw b1 (Flat.enc p1)] ++ qL ([] : Mk) D u) ∧ GOk ([([], fun us v => v = (vI j3)), ([], fun us v => v = (vI j3)), ([], fun us v => v = (vI (p0.length : Int))), ([], fun us v => v = (vT (decide (j3 < (p0.length : Int))))), ([], fun us v => v = (vT (decide (j3 < (p0.length : Int))))), ([], fun us v => v = undef), ([], fun us v => v = undef), ([], fun us v => v = undef), ([], fun us v => v = undef), ([], fun us v => v = undef), ([], fun us v => v = undef), ([], fun us v => v = undef), ([], fun us v => v = undef), ([], fun us v => v = (vT false)), ([], fun us v => v = (vI j3))] : Gs) D u) hE (fun u => ⟨M.q0 hM.drew u, gok0⟩) (ZH (Zb ?_ (Zb ?_ (Zb ?_ (Zb ?_ (Zb ?_ (Zb ?_ (Zb ?_ (Zb ?_ (Zb ?_ (Zb ?_ (Zb ?_ (Zb ?_ (Zb ?_ (Zb ?_ (Zb ?_ ZD)))))))))))))))) ?_
    ·intro a w ux35 D hE hI hD hdc hp
     have hM0 := hI.1
     refine Zd hE Za (dl rfl) rfl ?_; intro a hE
     exact ⟨_, _, rfl, hE, M.qKeep hM0 rfl, hI.2.put hD rfl ZF rfl⟩
    ·intro a w ux35 D hE hI hD hdc hp
     have hM0 := hI.1
     refine Zd hE Za (dl rfl) rfl ?_; intro a hE
     exact ⟨_, _, rfl, hE, M.qKeep hM0 rfl, hI.2.put hD rfl ZF rfl⟩
    ·intro a w ux35 D hE hI hD hdc hp
     have hM0 := hI.1
     refine Zd hE Za (dl rfl) rfl ?_; intro a hE
     exact ⟨_, _, rfl, hE, M.qKeep hM0 rfl, hI.2.put hD rfl ZF rfl⟩
    ·intro a w ux35 D hE hI hD hdc hp
     have d1 : D 1 = true := hp 0 _ rfl rfl
     have g1 := hI.2 1 d1 _ rfl
     have f1 : ux35 1 = (vI j3) := g1.2
     have d2 : D 2 = true := hp 1 _ rfl rfl
     have g2 := hI.2 2 d2 _ rfl
     have f2 : ux35 2 = (vI (p0.length : Int)) := g2.2
     have hM0 := hI.1
     refine Zh hE Za (dl rfl) (lk rfl f1) (lk rfl f2) rfl ?_; intro a hE
     exact ⟨_, _, rfl, hE, M.qKeep hM0 rfl, hI.2.put hD rfl ZF rfl⟩
    ·intro a w ux35 D hE hI hD hdc hp
     have d3 : D 3 = true := hp 0 _ rfl rfl
     have g3 := hI.2 3 d3 _ rfl
     have f3 : ux35 3 = (vT (decide (j3 < (p0.length : Int)))) := g3.2
     have hM0 := hI.1
     refine Zd hE Za (dl rfl) (lk rfl f3) ?_; intro a hE
     exact ⟨_, _, rfl, hE, M.qKeep hM0 rfl, hI.2.put hD rfl ZF rfl⟩
    ·intro a w ux35 D hE hI hD hdc hp
     have d4 : D 4 = true := hp 0 _ rfl rfl
     have g4 := hI.2 4 d4 _ rfl
     have f4 : ux35 4 = (vT (decide (j3 < (p0.length : Int)))) := g4.2
     have hM0 := hI.1
     refine Zn hE rfl (lkb (lk rfl f4) hb36) rfl (by decide) ?_; intro a hE
     exact ⟨_, _, rfl, hE, M.qKeep hM0 rfl, hI.2.put hD rfl ZF rfl⟩
    ·intro a w ux35 D hE hI hD hdc hp
     have d4 : D 4 = true := hp 0 _ rfl rfl
     have g4 := hI.2 4 d4 _ rfl
     have f4 : ux35 4 = (vT (decide (j3 < (p0.length : Int)))) := g4.2
     have hM0 := hI.1
     refine Zn hE rfl (lkb (lk rfl f4) hb36) rfl (by decide) ?_; intro a hE
     exact ⟨_, _, rfl, hE, M.qKeep hM0 rfl, hI.2.put hD rfl ZF rfl⟩
    ·intro a w ux35 D hE hI hD hdc hp
     have d4 : D 4 = true := hp 0 _ rfl rfl
     have g4 := hI.2 4 d4 _ rfl
     have f4 : ux35 4 = (vT (decide (j3 < (p0.length : Int)))) := g4.2
     have hM0 := hI.1
     refine Zn hE rfl (lkb (lk rfl f4) hb36) rfl (by decide) ?_; intro a hE
     exact ⟨_, _, rfl, hE, M.qKeep hM0 rfl, hI.2.put hD rfl ZF rfl⟩
    ·intro a w ux35 D hE hI hD hdc hp
     have d4 : D 4 = true := hp 2 _ rfl rfl
     have g4 := hI.2 4 d4 _ rfl
     have f4 : ux35 4 = (vT (decide (j3 < (p0.length : Int)))) := g4.2
     have d6 : D 6 = true := hp 0 _ rfl rfl
     have g6 := hI.2 6 d6 _ rfl
     have f6 : ux35 6 = undef := g6.2
     have d7 : D 7 = true := hp 1 _ rfl rfl
     have g7 := hI.2 7 d7 _ rfl
     have f7 : ux35 7 = undef := g7.2
     have hM0 := hI.1
     refine Zn hE rfl (lkb (lk rfl f4) hb36) rfl (by decide) ?_; intro a hE
     exact ⟨_, _, rfl, hE, M.qKeep hM0 rfl, hI.2.put hD rfl ZF rfl⟩
    ·intro a w ux35 D hE hI hD hdc hp
     have d4 : D 4 = true := hp 1 _ rfl rfl
     have g4 := hI.2 4 d4 _ rfl
     have f4 : ux35 4 = (vT (decide (j3 < (p0.length : Int)))) := g4.2
     have d8 : D 8 = true := hp 0 _ rfl rfl
     have g8 := hI.2 8 d8 _ rfl
     have f8 : ux35 8 = undef := g8.2
     have hM0 := hI.1
     refine Zn hE rfl (lkb (lk rfl f4) hb36) rfl (by decide) ?_; intro a hE
     exact ⟨_, _, rfl, hE, M.qKeep hM0 rfl, hI.2.put hD rfl ZF rfl⟩
    ·intro a w ux35 D hE hI hD hdc hp
     have d4 : D 4 = true := hp 0 _ rfl rfl
     have g4 := hI.2 4 d4 _ rfl
     have f4 : ux35 4 = (vT (decide (j3 < (p0.length : Int)))) := g4.2
     have hM0 := hI.1
     refine Zn hE rfl (lkb (lk rfl f4) hb36) rfl (by decide) ?_; intro a hE
     exact ⟨_, _, rfl, hE, M.qKeep hM0 rfl, hI.2.put hD rfl ZF rfl⟩
    ·intro a w ux35 D hE hI hD hdc hp
     have d4 : D 4 = true := hp 3 _ rfl rfl
     have g4 := hI.2 4 d4 _ rfl
     have f4 : ux35 4 = (vT (decide (j3 < (p0.length : Int)))) := g4.2
     have d5 : D 5 = true := hp 0 _ rfl rfl
     have g5 := hI.2 5 d5 _ rfl
     have f5 : ux35 5 = undef := g5.2
     have d9 : D 9 = true := hp 1 _ rfl rfl
     have g9 := hI.2 9 d9 _ rfl
     have f9 : ux35 9 = undef := g9.2
     have d10 : D 10 = true := hp 2 _ rfl rfl
     have g10 := hI.2 10 d10 _ rfl
     have f10 : ux35 10 = undef := g10.2
     have hM0 := hI.1
     refine Zn hE rfl (lkb (lk rfl f4) hb36) rfl (by decide) ?_; intro a hE
     exact ⟨_, _, rfl, hE, M.qKeep hM0 rfl, hI.2.put hD rfl ZF rfl⟩
    ·intro a w ux35 D hE hI hD hdc hp
     have d4 : D 4 = true := hp 1 _ rfl rfl
     have g4 := hI.2 4 d4 _ rfl
     have f4 : ux35 4 = (vT (decide (j3 < (p0.length : Int)))) := g4.2
     have d11 : D 11 = true := hp 0 _ rfl rfl
     have g11 := hI.2 11 d11 _ rfl
     have f11 : ux35 11 = undef := g11.2
     have hM0 := hI.1
     refine Zn hE rfl (lkb (lk rfl f4) hb36) rfl (by decide) ?_; intro a hE
     exact ⟨_, _, rfl, hE, M.qKeep hM0 rfl, hI.2.put hD rfl ZF rfl⟩
    ·intro a w ux35 D hE hI hD hdc hp
     have d4 : D 4 = true := hp 0 _ rfl rfl
     have g4 := hI.2 4 d4 _ rfl
     have f4 : ux35 4 = (vT (decide (j3 < (p0.length : Int)))) := g4.2
     have d12 : D 12 = true := hp 1 _ rfl rfl
     have g12 := hI.2 12 d12 _ rfl
     have f12 : ux35 12 = undef := g12.2
     have hM0 := hI.1
     refine YQ hE Za (dl rfl) (lkb (lk rfl f4) hb36) rfl ?_; intro a hE
     exact ⟨_, _, rfl, hE, M.qKeep hM0 rfl, hI.2.put hD rfl ZF rfl⟩
    ·intro a w ux35 D hE hI hD hdc hp
     have d0 : D 0 = true := hp 0 _ rfl rfl
     have g0 := hI.2 0 d0 _ rfl
     have f0 : ux35 0 = (vI j3) := g0.2
     have hM0 := hI.1
     refine Ze hE Za (dl rfl) (lk rfl f0) ?_; intro a hE
     exact ⟨_, _, rfl, hE, M.qKeep hM0 rfl, hI.2.put hD rfl ZF rfl⟩
    ·intro a w ux35 D hE hI hall
     have hM := hI.1
     have d0 : D 0 = true := hall 0 (by decide)
     have d1 : D 1 = true := hall 1 (by decide)
     have d2 : D 2 = true := hall 2 (by decide)
     have d3 : D 3 = true := hall 3 (by decide)
     have d4 : D 4 = true := hall 4 (by decide)
     have d5 : D 5 = true := hall 5 (by decide)
     have d6 : D 6 = true := hall 6 (by decide)
     have d7 : D 7 = true := hall 7 (by decide)
     have d8 : D 8 = true := hall 8 (by decide)
     have d9 : D 9 = true := hall 9 (by decide)
     have d10 : D 10 = true := hall 10 (by decide)
     have d11 : D 11 = true := hall 11 (by decide)
     have d12 : D 12 = true := hall 12 (by decide)
     have d13 : D 13 = true := hall 13 (by decide)
     have d14 : D 14 = true := hall 14 (by decide)
     have f0 : ux35 0 = (vI j3) := (hI.2 0 d0 _ rfl).2
     have f1 : ux35 1 = (vI j3) := (hI.2 1 d1 _ rfl).2
     have f2 : ux35 2 = (vI (p0.length : Int)) := (hI.2 2 d2 _ rfl).2
     have f3 : ux35 3 = (vT (decide (j3 < (p0.length : Int)))) := (hI.2 3 d3 _ rfl).2
     have f4 : ux35 4 = (vT (decide (j3 < (p0.length : Int)))) := (hI.2 4 d4 _ rfl).2
     have f5 : ux35 5 = undef := (hI.2 5 d5 _ rfl).2
     have f6 : ux35 6 = undef := (hI.2 6 d6 _ rfl).2
     have f7 : ux35 7 = undef := (hI.2 7 d7 _ rfl).2
     have f8 : ux35 8 = undef := (hI.2 8 d8 _ rfl).2
     have f9 : ux35 9 = undef := (hI.2 9 d9 _ rfl).2
     have f10 : ux35 10 = undef := (hI.2 10 d10 _ rfl).2
     have f11 : ux35 11 = undef := (hI.2 11 d11 _ rfl).2
     have f12 : ux35 12 = undef := (hI.2 12 d12 _ rfl).2
     have f13 : ux35 13 = (vT false) := (hI.2 13 d13 _ rfl).2
     have f14 : ux35 14 = (vI j3) := (hI.2 14 d14 _ rfl).2
     have hE := hE.sub (e' := [(35, (vI j3)), (36, (vI j3)), (37, (vI (p0.length : Int))), (38, (vT (decide (j3 < (p0.length : Int))))), (39, (vT (decide (j3 < (p0.length : Int))))), (40, undef), (41, undef), (42, undef), (43, undef), (44, undef), (45, undef), (46, undef), (47, undef), (48, (vT false)), (6, (vI j3)), (0, v0_1), (2, (Value.func (.func k2) #[] q2.toArray)), (4, (ptr b1 0)), (8, (vI (p0.length : Int))), (9, (vI j3))]) ⟨lk rfl f0, lk rfl f1, lk rfl f2, lk rfl f3, lk rfl f4, lk rfl f5, lk rfl f6, lk rfl f7, lk rfl f8, lk rfl f9, lk rfl f10, lk rfl f11, lk rfl f12, lk rfl f13, lk rfl f14, rfl, rfl, rfl, rfl, rfl, trivial⟩
     refine Ze hE Za (dl rfl) rfl ?_; intro a hE
     refine Zj ?_
     have ht43 := Option.some.inj hl33
     subst ht43
     refine Zl ?_
     have hM := M.fst (l := []) hM
     exact ⟨hE.sub ⟨rfl, rfl, trivial⟩, hM⟩
  ·skip
   rintro a w ⟨hE, hM⟩
   have hr := Option.some.inj hF34
   subst hr
   exact wp_ret (k_ret2 hE rfl (Zu hE rfl) (Zu hE rfl) ⟨_, rfl, rfl, hM.kept⟩)
noncomputable def Vq (p0 : GBlobs) (p1 : (Vector UInt8 32)) : Option (Int × Int) :=
 (VF p0).bind fun r5 => if (!r5) = true then (some (0, 1)) else ((ZJ p0.Keys p1 (fun z0 z1 => ZX z0 z1)).bind fun r8 => if (!r8.2) = true then (some (0, 4)) else (some (r8.1, 0)))
theorem c_impl_Blobs_find (w0 : World) (p0 : GBlobs) (v0_1 : Value) (hv0_1 : Ro w0 p0.Keys [v0_1]) (v0_2 : Value) (hv0_2 : Ro w0 p0.Data [v0_2]) (v0_3 : Value) (hv0_3 : Ro w0 p0.Counts [v0_3]) (p1 : (Vector UInt8 32)) (r : Int × Int) (hF : Vq p0 p1 = some r) :
  Calls Try.prog 54 [(Value.agg (cat [[v0_1], [v0_2], [v0_3]]).toArray), (Value.agg (Flat.enc p1).toArray)].toArray w0 (fun en w' => ∃ v, en = .returned v ∧ (v = (Value.tuple [(vI r.1), (vI r.2)].toArray) ∧ Kept (Old w0) w0 w')) := by
 refine ZC (n := 21) Try.func54 rfl rfl (Nat.le_of_ble_eq_true rfl) rfl ?_
 intro a hE
 have hM := M.start w0
 unfold Vq at hF
 refine Zc (Z5 (cs := cat [[v0_1], [v0_2], [v0_3]]) hE hM Za (dl rfl) rfl rfl ?_); intro b1 w a hM hE
 refine Z5 (cs := Flat.enc p1) hE hM Za (dl rfl) rfl rfl ?_; intro b3 w a hM hE
 refine Ze hE Za (dl rfl) rfl ?_; intro a hE
 refine Ze hE Za (dl rfl) rfl ?_; intro a hE
 refine Zf (wp_seq (Zc (Zp (cs := cat [[v0_1], [v0_2], [v0_3]]) hE Za (dl rfl) rfl ty55 rfl (hM.rawAt (pre := [_])) (ZR (cl1 (n := 1) (m := 2) rfl (cl1 (n := 1) (m := 1) rfl (cl1 (n := 1) (m := 0) rfl cl0)))) ?_))); intro a hE
 obtain ⟨r5, e6, hF⟩ := bind_some hF
 refine Zw (vs := [(Value.agg (cat [[v0_1], [v0_2], [v0_3]]).toArray)]) hE Za (dl rfl) rfl cb79 (c_impl_IsBlobs _ p0 v0_1 (hM.rdo hv0_1) v0_2 (hM.rdo hv0_2) v0_3 (hM.rdo hv0_3) r5 e6) ?_
 rintro v w a ⟨rfl, hK⟩ hE
 have hM := hM.keep hK
 refine Un hE Za (dl rfl) rfl ?_; intro a hE
 refine Zf ?_
 refine Zt hE rfl ?_ ?_
 ·intro hb7
  have hF := Zz hF hb7
  refine Zc (Ze hE Za (dl rfl) rfl ?_); intro a hE
  refine Ze hE Za (dl rfl) rfl ?_; intro a hE
  refine Zf ?_
  have hr := Option.some.inj hF
  subst hr
  have hM := M.fst (l := []) hM
  exact wp_ret (ZL (k_ret2 hE rfl (Zu hE rfl) (Zu hE rfl) ⟨_, rfl, rfl, hM.kept⟩))
 ·intro hb7
  have hF := ZA hF hb7
  refine wp_skip (Zx (Zc (Zo hE Za (dl rfl) rfl (VH) ?_))); intro a hE
  refine Zv (v := v0_1) hE Za (dl rfl) rfl ty53 rfl (At.cat (pre := []) (hM.rawAt (pre := [_])) cl0) ?_; intro a hE
  refine Zp (cs := Flat.enc p1) hE Za (dl rfl) rfl Yi rfl (hM.rawAt (pre := [])) (Flat.len _) ?_; intro a hE
  obtain ⟨r8, e9, hF⟩ := bind_some hF
  refine Zw (vs := [v0_1, (Value.agg (Flat.enc p1).toArray), (Value.func (.func 81) #[] [].toArray)]) hE Za (dl rfl) rfl cb80 (Y5 _ p0.Keys v0_1 (hM.rdo hv0_1) p1 (fun z0 z1 => ZX z0 z1) 81 [] cb81 (fun w2 hk2 z0 z1 zr zhr => c_impl_Digest_compare w2 z0 z1 zr zhr) r8 e9) ?_
  rintro v w a ⟨rfl, hK⟩ hE
  have hM := hM.keep hK
  refine Zd hE Za (dl rfl) rfl ?_; intro a hE
  refine XC hE Za (dl rfl) rfl rfl ?_; intro a hE
  refine XC hE Za (dl rfl) rfl rfl ?_; intro a hE
  refine Ze hE Za (dl rfl) rfl ?_; intro a hE
  refine Ze hE Za (dl rfl) rfl ?_; intro a hE
  refine Zf (wp_seq (Zc (Zd hE Za (dl rfl) rfl ?_))); intro a hE
  refine Un hE Za (dl rfl) rfl ?_; intro a hE
  refine Zf ?_
  refine Zt hE rfl ?_ ?_
  ·intro hb10
   have hF := Zz hF hb10
   refine Zc (Ze hE Za (dl rfl) rfl ?_); intro a hE
   refine Ze hE Za (dl rfl) rfl ?_; intro a hE
   refine Zf ?_
   have hr := Option.some.inj hF
   subst hr
   have hM := M.fst (l := []) hM
   exact wp_ret (ZL (k_ret2 hE rfl (Zu hE rfl) (Zu hE rfl) ⟨_, rfl, rfl, hM.kept⟩))
  ·intro hb10
   have hF := ZA hF hb10
   refine wp_skip (Zx (Zc (Zd hE Za (dl rfl) rfl ?_))); intro a hE
   refine Ze hE Za (dl rfl) rfl ?_; intro a hE
   refine Ze hE Za (dl rfl) rfl ?_; intro a hE
   refine Zf ?_
   have hr := Option.some.inj hF
   subst hr
   have hM := M.fst (l := []) hM
   exact wp_ret (k_ret2 hE rfl (Zu hE rfl) (Zu hE rfl) ⟨_, rfl, rfl, hM.kept⟩)
noncomputable def WK (p0 : GBlobs) (p1 : (Vector UInt8 32)) : Option ((List UInt8) × Int) :=
 (Vq p0 p1).bind fun r5 => if (r5.2 != 0) = true then (some ([], r5.2)) else ((idx p0.Data r5.1).bind fun x9 => (Yo x9).bind fun r17 => some (r17, 0))
theorem c_impl_GetBlob (w0 : World) (p0 : GBlobs) (v0_1 : Value) (hv0_1 : Ro w0 p0.Keys [v0_1]) (v0_2 : Value) (hv0_2 : Ro w0 p0.Data [v0_2]) (v0_3 : Value) (hv0_3 : Ro w0 p0.Counts [v0_3]) (p1 : (Vector UInt8 32)) (r : (List UInt8) × Int) (hF : WK p0 p1 = some r) :
  Calls Try.prog 22 [(Value.agg (cat [[v0_1], [v0_2], [v0_3]]).toArray), (Value.agg (Flat.enc p1).toArray)].toArray w0 (fun en w' => ∃ v, en = .returned v ∧ (∃ (y1 : Value), v = (Value.tuple [y1, (vI r.2)].toArray) ∧ Fr w0 w' [osl NoB (r.1 : List UInt8) y1] ∧ Kept (Old w0) w0 w')) := by
 refine ZC (n := 23) Try.func22 rfl rfl (Nat.le_of_ble_eq_true rfl) rfl ?_
 intro a hE
 have hM := M.start w0
 unfold WK at hF
 refine Zc (Z5 (cs := cat [[v0_1], [v0_2], [v0_3]]) hE hM Za (dl rfl) rfl rfl ?_); intro b1 w a hM hE
 refine Z5 (cs := Flat.enc p1) hE hM Za (dl rfl) rfl rfl ?_; intro b3 w a hM hE
 refine Ze hE Za (dl rfl) rfl ?_; intro a hE
 refine Ze hE Za (dl rfl) rfl ?_; intro a hE
 refine Zf (Zc (Zp (cs := cat [[v0_1], [v0_2], [v0_3]]) hE Za (dl rfl) rfl ty55 rfl (hM.rawAt (pre := [_])) (ZR (cl1 (n := 1) (m := 2) rfl (cl1 (n := 1) (m := 1) rfl (cl1 (n := 1) (m := 0) rfl cl0)))) ?_)); intro a hE
 refine Zp (cs := Flat.enc p1) hE Za (dl rfl) rfl Yi rfl (hM.rawAt (pre := [])) (Flat.len _) ?_; intro a hE
 obtain ⟨r5, e6, hF⟩ := bind_some hF
 refine Zw (vs := [(Value.agg (cat [[v0_1], [v0_2], [v0_3]]).toArray), (Value.agg (Flat.enc p1).toArray)]) hE Za (dl rfl) rfl cb54 (c_impl_Blobs_find _ p0 v0_1 (hM.rdo hv0_1) v0_2 (hM.rdo hv0_2) v0_3 (hM.rdo hv0_3) p1 r5 e6) ?_
 rintro v w a ⟨rfl, hK⟩ hE
 have hM := hM.keep hK
 refine Zd hE Za (dl rfl) rfl ?_; intro a hE
 refine XC hE Za (dl rfl) rfl rfl ?_; intro a hE
 refine XC hE Za (dl rfl) rfl rfl ?_; intro a hE
 refine Ze hE Za (dl rfl) rfl ?_; intro a hE
 refine Ze hE Za (dl rfl) rfl ?_; intro a hE
 refine Zf (wp_seq (Zc (Zd hE Za (dl rfl) rfl ?_))); intro a hE
 refine Zh hE Za (dl rfl) rfl rfl rfl ?_; intro a hE
 refine Zf ?_
 refine Zt hE rfl ?_ ?_
 ·intro hb7
  have hF := Zz hF hb7
  refine Zc (Zd hE Za (dl rfl) rfl ?_); intro a hE
  refine Ze hE Za (dl rfl) rfl ?_; intro a hE
  refine Ze hE Za (dl rfl) rfl ?_; intro a hE
  refine Zf ?_
  have hM := M.nilS (α := UInt8) NoB noB hM
  have hr := Option.some.inj hF
  subst hr
  have hM := M.fst (l := [_]) hM
  exact wp_ret (ZL (k_ret2 hE rfl (Zu hE rfl) (Zu hE rfl) ⟨_, rfl, (Value.slice none 0 0), rfl, hM.outF (Vr W0), hM.kept⟩))
 ·intro hb7
  have hF := ZA hF hb7
  refine wp_skip (Zx (Zc (Zo hE Za (dl rfl) rfl (UE) ?_))); intro a hE
  refine Zv (v := v0_2) hE Za (dl rfl) rfl ty45 rfl (At.cat (pre := [[v0_1]]) (hM.rawAt (pre := [_])) (cl1 (n := 1) (m := 0) rfl cl0)) ?_; intro a hE
  refine Zd hE Za (dl rfl) rfl ?_; intro a hE
  obtain ⟨x9, e10, hF⟩ := bind_some hF
  have hi11 := ZQ e10
  refine ZK hE Za (dl rfl) rfl rfl Try.underlying45 Vz (hM.rd hv0_2) hi11.1 ?_; intro a hE
  obtain ⟨cs12, hs13, hA14⟩ := Uz hv0_2 hi11.2 -- ^
  obtain ⟨u15, rfl⟩ := Vo hs13 -- ^
  have h16 := hs13 -- ^
  refine Zv (v := u15) hE Za (dl rfl) rfl Vz rfl (hM.atk hA14 (Ux hv0_2 hi11.2)) ?_; intro a hE
  obtain ⟨r17, e18, hF⟩ := bind_some hF
  refine Zw (vs := [u15]) hE Za (dl rfl) rfl cb55 (Ub _ x9 u15 (hM.rdo h16) r17 e18) ?_
  rintro u19 w a ⟨_, rfl, hFr, hK⟩ hE
  have hM := hM.add hK hFr
  refine Ze hE Za (dl rfl) rfl ?_; intro a hE
  refine Ze hE Za (dl rfl) rfl ?_; intro a hE
  refine Zf ?_
  have hr := Option.some.inj hF
  subst hr
  have hM := M.fst (l := [_]) hM
  exact wp_ret (k_ret2 hE rfl (Zu hE rfl) (Zu hE rfl) ⟨_, rfl, u19, rfl, hM.outF (Vr W0), hM.kept⟩)
noncomputable def Uh (p0 : (List UInt8)) (p1 : (List UInt8)) (s6 : Int) : Option (Fl Int (Fl Unit Bool)) :=
 if (decide (s6 < (p0.length : Int))) = true then (((idx p0 s6).bind fun x15 => (idx p1 s6).bind fun x18 => some (x15 != x18) : Option (Bool)).bind fun j11 => if j11 = true then (some (Fl.ex (Fl.ex false))) else (some (Fl.nx (wr (s6 + 1))))) else (some (Fl.ex (Fl.nx ())))
noncomputable def YV (p0 : (List UInt8)) (p1 : (List UInt8)) : Option (Bool) :=
 if ((p0.length : Int) != (p1.length : Int)) = true then (some false) else ((ZG (Uh p0 p1) 0 : Option (Fl Unit Bool)).bind fun j2 => j2.el (fun s5 => some true) (fun r => some r))
theorem UH (w0 : World) (p0 : (List UInt8)) (v0_1 : Value) (hv0_1 : Ro w0 p0 [v0_1]) (p1 : (List UInt8)) (v1_1 : Value) (hv1_1 : Ro w0 p1 [v1_1]) (r : Bool) (hF : YV p0 p1 = some r) :
  Calls Try.prog 23 [v0_1, v1_1].toArray w0 (fun en w' => ∃ v, en = .returned v ∧ (v = (vT r) ∧ Kept (Old w0) w0 w')) := by
 refine ZC (n := 26) Try.func23 rfl rfl (Nat.le_of_ble_eq_true rfl) rfl ?_
 intro a hE
 have hM := M.start w0
 unfold YV at hF
 refine Zc (Ze hE Za (dl rfl) rfl ?_); intro a hE
 refine Zf (wp_seq (Zc (Zd hE Za (dl rfl) rfl ?_))); intro a hE
 refine Z8 hE Za (dl rfl) rfl Try.underlying50 (hM.rd hv0_1) ?_; intro a hE
 refine Zd hE Za (dl rfl) rfl ?_; intro a hE
 refine Z8 hE Za (dl rfl) rfl Try.underlying50 (hM.rd hv1_1) ?_; intro a hE
 refine Zh hE Za (dl rfl) rfl rfl rfl ?_; intro a hE
 refine Zf ?_
 refine Zt hE rfl ?_ ?_
 ·intro hb1
  have hF := Zz hF hb1
  refine Zc (Ze hE Za (dl rfl) rfl ?_); intro a hE
  refine Zf ?_
  have hr := Option.some.inj hF
  subst hr
  exact wp_ret (ZL (Zy hE rfl (Zu hE rfl) ⟨_, rfl, rfl, hM.kept⟩))
 ·intro hb1
  have hF := ZA hF hb1
  refine wp_skip (Zx (wp_seq (Zc (Ze hE Za (dl rfl) rfl ?_)))); intro a hE
  refine Zf ?_
  obtain ⟨j2, hl3, hF4⟩ := bind_some hF
  refine ZW (fun a w => ∃ s5 : Unit, j2 = Fl.nx s5 ∧ Env 26 a [] ∧ M (Old w0) w0 w []) ?_ ?_
  ·skip
   refine wp_block ?_
   refine ZM (fun (s6 : Int) a w => Env 26 a [(0, v0_1), (1, v1_1), (5, (vI s6))] ∧ M (Old w0) w0 w []) hl3 ⟨hE.sub ⟨rfl, rfl, rfl, trivial⟩, hM⟩ ?_
   rintro s6 a w ⟨hE, hM⟩ o9 hs7 hx8
   unfold Uh at hs7
   refine wp_seq (Zc (Zd hE Za (dl rfl) rfl ?_)); intro a hE
   refine Zd hE Za (dl rfl) rfl ?_; intro a hE
   refine Z8 hE Za (dl rfl) rfl Try.underlying50 (hM.rd hv0_1) ?_; intro a hE
   refine Zh hE Za (dl rfl) rfl rfl rfl ?_; intro a hE
   refine Zf ?_
   refine Zt hE rfl ?_ ?_
   ·intro hb10
    have hs7 := Zz hs7 hb10
    refine wp_skip (Zx (wp_seq (wp_block ?_)))
    obtain ⟨j11, hl12, hF13⟩ := bind_some hs7
    refine ZS (fun a w => Env 26 a [(0, v0_1), (1, v1_1), (5, (vI s6)), (25, (vT j11))] ∧ M (Old w0) w0 w []) ?_ ?_
    ·skip
     obtain ⟨x15, e16, hl12⟩ := bind_some hl12
     have hi17 := ZQ e16
     obtain ⟨x18, e19, hl12⟩ := bind_some hl12
     have hi20 := ZQ e19
     refine Ye (n := 26) (hd := [_, _, _, _, _, _, _, _, _]) (tl := []) YB rfl rfl [17, 18, 19, 20, 21, 22, 23, 24, 25] (by decide) (fun w => M (Old w0) w0 w []) (fun j => ([fun v _ => v = v0_1, fun v _ => v = (vI s6), fun v _ => v = (ptr (sb v0_1) (so v0_1 + (s6).toNat * 1)), fun v _ => v = (vB x15), fun v _ => v = v1_1, fun v _ => v = (vI s6), fun v _ => v = (ptr (sb v1_1) (so v1_1 + (s6).toNat * 1)), fun v _ => v = (vB x18), fun v _ => v = (vT (x15 != x18))] : List (Value → World → Prop)).getD j (fun _ _ => True)) (fun _ _ h hk => h.keep hk) (gup (Zg (Zg (Zg (Zg (Zg (Zg (Zg (Zg (Zg Ww)))))))))) hE hM.drew (ZH (Zb ?_ (Zb ?_ (Zb ?_ (Zb ?_ (Zb ?_ (Zb ?_ (Zb ?_ (Zb ?_ (Zb ?_ ZD)))))))))) ?_
     ·intro a w ux14 hE hM hp
      refine Zd hE Za (dl rfl) rfl ?_; intro a hE
      exact ⟨Kept.refl _ _, _, _, rfl, hE, rfl⟩
     ·intro a w ux14 hE hM hp
      refine Zd hE Za (dl rfl) rfl ?_; intro a hE
      exact ⟨Kept.refl _ _, _, _, rfl, hE, rfl⟩
     ·intro a w ux14 hE hM hp
      have f0 : ux14 0 = v0_1 := hp 0 _ rfl rfl
      have f1 : ux14 1 = (vI s6) := hp 1 _ rfl rfl
      refine ZK hE Za (dl rfl) (lk rfl f0) (lk rfl f1) Try.underlying50 ty5 (hM.rd hv0_1) hi17.1 ?_; intro a hE
      exact ⟨Kept.refl _ _, _, _, rfl, hE, rfl⟩
     ·intro a w ux14 hE hM hp
      have f2 : ux14 2 = (ptr (sb v0_1) (so v0_1 + (s6).toNat * 1)) := hp 0 _ rfl rfl
      refine Zv (v := (vB x15)) hE Za (dl rfl) (lk rfl f2) ty5 rfl (Yr (hM.rd hv0_1) hi17.2) ?_; intro a hE
      exact ⟨Kept.refl _ _, _, _, rfl, hE, rfl⟩
     ·intro a w ux14 hE hM hp
      refine Zd hE Za (dl rfl) rfl ?_; intro a hE
      exact ⟨Kept.refl _ _, _, _, rfl, hE, rfl⟩
     ·intro a w ux14 hE hM hp
      refine Zd hE Za (dl rfl) rfl ?_; intro a hE
      exact ⟨Kept.refl _ _, _, _, rfl, hE, rfl⟩
     ·intro a w ux14 hE hM hp
      have f4 : ux14 4 = v1_1 := hp 0 _ rfl rfl
      have f5 : ux14 5 = (vI s6) := hp 1 _ rfl rfl
      refine ZK hE Za (dl rfl) (lk rfl f4) (lk rfl f5) Try.underlying50 ty5 (hM.rd hv1_1) hi20.1 ?_; intro a hE
      exact ⟨Kept.refl _ _, _, _, rfl, hE, rfl⟩
     ·intro a w ux14 hE hM hp
      have f6 : ux14 6 = (ptr (sb v1_1) (so v1_1 + (s6).toNat * 1)) := hp 0 _ rfl rfl
      refine Zv (v := (vB x18)) hE Za (dl rfl) (lk rfl f6) ty5 rfl (Yr (hM.rd hv1_1) hi20.2) ?_; intro a hE
      exact ⟨Kept.refl _ _, _, _, rfl, hE, rfl⟩
     ·intro a w ux14 hE hM hp
      have f3 : ux14 3 = (vB x15) := hp 0 _ rfl rfl
      have f7 : ux14 7 = (vB x18) := hp 1 _ rfl rfl
      refine Zh hE Za (dl rfl) (lk rfl f3) (lk rfl f7) (bB_neq x15 x18) ?_; intro a hE
      exact ⟨Kept.refl _ _, _, _, rfl, hE, rfl⟩
     ·intro a w ux14 hE hM hg
      have f0 : ux14 0 = v0_1 := hg 0 (by decide)
      have f1 : ux14 1 = (vI s6) := hg 1 (by decide)
      have f2 : ux14 2 = (ptr (sb v0_1) (so v0_1 + (s6).toNat * 1)) := hg 2 (by decide)
      have f3 : ux14 3 = (vB x15) := hg 3 (by decide)
      have f4 : ux14 4 = v1_1 := hg 4 (by decide)
      have f5 : ux14 5 = (vI s6) := hg 5 (by decide)
      have f6 : ux14 6 = (ptr (sb v1_1) (so v1_1 + (s6).toNat * 1)) := hg 6 (by decide)
      have f7 : ux14 7 = (vB x18) := hg 7 (by decide)
      have f8 : ux14 8 = (vT (x15 != x18)) := hg 8 (by decide)
      have hE := hE.sub (e' := [(17, v0_1), (18, (vI s6)), (19, (ptr (sb v0_1) (so v0_1 + (s6).toNat * 1))), (20, (vB x15)), (21, v1_1), (22, (vI s6)), (23, (ptr (sb v1_1) (so v1_1 + (s6).toNat * 1))), (24, (vB x18)), (25, (vT (x15 != x18))), (0, v0_1), (1, v1_1), (5, (vI s6)), (11, (vI s6)), (12, v0_1), (13, (vI (p0.length : Int))), (14, (vT (decide (s6 < (p0.length : Int)))))]) ⟨lk rfl f0, lk rfl f1, lk rfl f2, lk rfl f3, lk rfl f4, lk rfl f5, lk rfl f6, lk rfl f7, lk rfl f8, rfl, rfl, rfl, rfl, rfl, rfl, rfl, trivial⟩
      refine Zj ?_
      have ht21 := Option.some.inj hl12
      subst ht21
      refine Zl ?_
      exact ⟨hE.sub ⟨rfl, rfl, rfl, rfl, trivial⟩, hM⟩
    ·skip
     rintro a w ⟨hE, hM⟩
     refine Zt hE rfl ?_ ?_
     ·intro hb22
      have hF13 := Zz hF13 hb22
      refine Zc (Ze hE Za (dl rfl) rfl ?_); intro a hE
      refine Zf ?_
      have ht23 := hx8 _ (Option.some.inj hF13).symm
      subst ht23
      have hr := Option.some.inj hF4
      subst hr
      exact wp_ret (WZ (ZL (ZL (WZ (ZL (ZL (Zy hE rfl (Zu hE rfl) ⟨_, rfl, rfl, hM.kept⟩)))))))
     ·intro hb22
      have hF13 := ZA hF13 hb22
      refine wp_skip (Yj (Zx (wp_region_lit (Zd hE Za (dl rfl) rfl ?_)))); intro a hE
      refine Zh hE Za (dl rfl) rfl rfl rfl ?_; intro a hE
      refine Ze hE Za (dl rfl) rfl ?_; intro a hE
      refine Zj (Zl ?_)
      exact ⟨_, (Option.some.inj hF13).symm, hE.sub ⟨rfl, rfl, rfl, trivial⟩, hM⟩
   ·intro hb10
    have hs7 := ZA hs7 hb10
    refine wp_exit (Zr (Zr (Yk ?_)))
    have ht24 := hx8 _ (Option.some.inj hs7).symm
    subst ht24
    refine Zl ?_
    exact ⟨(), rfl, hE.sub trivial, hM⟩
  ·skip
   rintro a w ⟨s5, ht, hE, hM⟩
   subst ht
   have hF4 := el_nx hF4
   refine Zx (Zc (Ze hE Za (dl rfl) rfl ?_)); intro a hE
   refine Zf ?_
   have hr := Option.some.inj hF4
   subst hr
   exact wp_ret (Zy hE rfl (Zu hE rfl) ⟨_, rfl, rfl, hM.kept⟩)
noncomputable def VT (p0 : (Vector UInt8 32)) (p1 : (Vector UInt8 32)) (s9 : Int) : Option (Fl Int (Fl Unit Bool)) :=
 if (decide (s9 < 32)) = true then (((ZN p0 s9).bind fun x19 => (ZN p1 s9).bind fun x22 => some (x19 != x22) : Option (Bool)).bind fun j14 => if j14 = true then (some (Fl.ex (Fl.ex false))) else (some (Fl.nx (wr (s9 + 1))))) else (some (Fl.ex (Fl.nx ())))
noncomputable def Wd (p0 : (Vector UInt8 32)) (p1 : (Vector UInt8 32)) : Option (Bool) :=
 (ZG (VT p0 p1) 0 : Option (Fl Unit Bool)).bind fun j5 => j5.el (fun s8 => some true) (fun r => some r)
theorem c_laws_eqDigest (w0 : World) (p0 : (Vector UInt8 32)) (p1 : (Vector UInt8 32)) (r : Bool) (hF : Wd p0 p1 = some r) :
  Calls Try.prog 10 [(Value.agg (Flat.enc p0).toArray), (Value.agg (Flat.enc p1).toArray)].toArray w0 (fun en w' => ∃ v, en = .returned v ∧ (v = (vT r) ∧ Kept (Old w0) w0 w')) := by
 refine ZC (n := 17) Try.func10 rfl rfl (Nat.le_of_ble_eq_true rfl) rfl ?_
 intro a hE
 have hM := M.start w0
 unfold Wd at hF
 refine Zc (Z5 (cs := Flat.enc p0) hE hM Za (dl rfl) rfl rfl ?_); intro b1 w a hM hE
 refine Z5 (cs := Flat.enc p1) hE hM Za (dl rfl) rfl rfl ?_; intro b3 w a hM hE
 refine Ze hE Za (dl rfl) rfl ?_; intro a hE
 refine Zf (wp_seq (Zc (Ze hE Za (dl rfl) rfl ?_))); intro a hE
 refine Zf ?_
 obtain ⟨j5, hl6, hF7⟩ := bind_some hF
 refine ZW (fun a w => ∃ s8 : Unit, j5 = Fl.nx s8 ∧ Env 17 a [] ∧ M (Old w0) w0 w []) ?_ ?_
 ·skip
  refine wp_block ?_
  refine ZM (fun (s9 : Int) a w => Env 17 a [(2, (ptr b1 0)), (3, (ptr b3 0)), (5, (vI s9))] ∧ M (Old w0) w0 w [raw b3 (Flat.enc p1), raw b1 (Flat.enc p0)]) hl6 ⟨hE.sub ⟨rfl, rfl, rfl, trivial⟩, hM⟩ ?_
  rintro s9 a w ⟨hE, hM⟩ o12 hs10 hx11
  unfold VT at hs10
  refine wp_seq (Zc (Zd hE Za (dl rfl) rfl ?_)); intro a hE
  refine Zh hE Za (dl rfl) rfl rfl rfl ?_; intro a hE
  refine Zf ?_
  refine Zt hE rfl ?_ ?_
  ·intro hb13
   have hs10 := Zz hs10 hb13
   refine wp_skip (Zx (wp_seq (wp_block ?_)))
   obtain ⟨j14, hl15, hF16⟩ := bind_some hs10
   refine ZS (fun a w => Env 17 a [(2, (ptr b1 0)), (3, (ptr b3 0)), (5, (vI s9)), (16, (vT j14))] ∧ M (Old w0) w0 w [raw b3 (Flat.enc p1), raw b1 (Flat.enc p0)]) ?_ ?_
   ·skip
    obtain ⟨x19, e20, hl15⟩ := bind_some hl15
    have hi18 := Zi e20
    obtain ⟨x22, e23, hl15⟩ := bind_some hl15
    have hi21 := Zi e23
    refine Ye (n := 17) (hd := [_, _, _, _, _, _, _]) (tl := []) YB rfl rfl [10, 11, 12, 13, 14, 15, 16] (by decide) (fun w => M (Old w0) w0 w [raw b3 (Flat.enc p1), raw b1 (Flat.enc p0)]) (fun j => ([fun v _ => v = (vI s9), fun v _ => v = (ptr b1 (0 + (s9).toNat * 1)), fun v _ => v = (vB x19), fun v _ => v = (vI s9), fun v _ => v = (ptr b3 (0 + (s9).toNat * 1)), fun v _ => v = (vB x22), fun v _ => v = (vT (x19 != x22))] : List (Value → World → Prop)).getD j (fun _ _ => True)) (fun _ _ h hk => h.keep hk) (gup (Zg (Zg (Zg (Zg (Zg (Zg (Zg Ww)))))))) hE hM.drew (ZH (Zb ?_ (Zb ?_ (Zb ?_ (Zb ?_ (Zb ?_ (Zb ?_ (Zb ?_ ZD)))))))) ?_
    ·intro a w ux17 hE hM hp
     refine Zd hE Za (dl rfl) rfl ?_; intro a hE
     exact ⟨Kept.refl _ _, _, _, rfl, hE, rfl⟩
    ·intro a w ux17 hE hM hp
     have f0 : ux17 0 = (vI s9) := hp 0 _ rfl rfl
     refine Zm hE Za (dl rfl) rfl (lk rfl f0) Try.underlying25 ty5 hi18.1 ?_; intro a hE
     exact ⟨Kept.refl _ _, _, _, rfl, hE, rfl⟩
    ·intro a w ux17 hE hM hp
     have f1 : ux17 1 = (ptr b1 (0 + (s9).toNat * 1)) := hp 0 _ rfl rfl
     refine Zv (v := (vB x19)) hE Za (dl rfl) (lk rfl f1) ty5 rfl (At.vec (hM.rawAt (pre := [_])) hi18.2) ?_; intro a hE
     exact ⟨Kept.refl _ _, _, _, rfl, hE, rfl⟩
    ·intro a w ux17 hE hM hp
     refine Zd hE Za (dl rfl) rfl ?_; intro a hE
     exact ⟨Kept.refl _ _, _, _, rfl, hE, rfl⟩
    ·intro a w ux17 hE hM hp
     have f3 : ux17 3 = (vI s9) := hp 0 _ rfl rfl
     refine Zm hE Za (dl rfl) rfl (lk rfl f3) Try.underlying25 ty5 hi21.1 ?_; intro a hE
     exact ⟨Kept.refl _ _, _, _, rfl, hE, rfl⟩
    ·intro a w ux17 hE hM hp
     have f4 : ux17 4 = (ptr b3 (0 + (s9).toNat * 1)) := hp 0 _ rfl rfl
     refine Zv (v := (vB x22)) hE Za (dl rfl) (lk rfl f4) ty5 rfl (At.vec (hM.rawAt (pre := [])) hi21.2) ?_; intro a hE
     exact ⟨Kept.refl _ _, _, _, rfl, hE, rfl⟩
    ·intro a w ux17 hE hM hp
     have f2 : ux17 2 = (vB x19) := hp 0 _ rfl rfl
     have f5 : ux17 5 = (vB x22) := hp 1 _ rfl rfl
     refine Zh hE Za (dl rfl) (lk rfl f2) (lk rfl f5) (bB_neq x19 x22) ?_; intro a hE
     exact ⟨Kept.refl _ _, _, _, rfl, hE, rfl⟩
    ·intro a w ux17 hE hM hg
     have f0 : ux17 0 = (vI s9) := hg 0 (by decide)
     have f1 : ux17 1 = (ptr b1 (0 + (s9).toNat * 1)) := hg 1 (by decide)
     have f2 : ux17 2 = (vB x19) := hg 2 (by decide)
     have f3 : ux17 3 = (vI s9) := hg 3 (by decide)
     have f4 : ux17 4 = (ptr b3 (0 + (s9).toNat * 1)) := hg 4 (by decide)
     have f5 : ux17 5 = (vB x22) := hg 5 (by decide)
     have f6 : ux17 6 = (vT (x19 != x22)) := hg 6 (by decide)
     have hE := hE.sub (e' := [(10, (vI s9)), (11, (ptr b1 (0 + (s9).toNat * 1))), (12, (vB x19)), (13, (vI s9)), (14, (ptr b3 (0 + (s9).toNat * 1))), (15, (vB x22)), (16, (vT (x19 != x22))), (2, (ptr b1 0)), (3, (ptr b3 0)), (5, (vI s9)), (6, (vI s9)), (7, (vT (decide (s9 < 32))))]) ⟨lk rfl f0, lk rfl f1, lk rfl f2, lk rfl f3, lk rfl f4, lk rfl f5, lk rfl f6, rfl, rfl, rfl, rfl, rfl, trivial⟩
     refine Zj ?_
     have ht24 := Option.some.inj hl15
     subst ht24
     refine Zl ?_
     exact ⟨hE.sub ⟨rfl, rfl, rfl, rfl, trivial⟩, hM⟩
   ·skip
    rintro a w ⟨hE, hM⟩
    refine Zt hE rfl ?_ ?_
    ·intro hb25
     have hF16 := Zz hF16 hb25
     refine Zc (Ze hE Za (dl rfl) rfl ?_); intro a hE
     refine Zf ?_
     have ht26 := hx11 _ (Option.some.inj hF16).symm
     subst ht26
     have hr := Option.some.inj hF7
     subst hr
     have hM := M.fst (l := []) hM
     exact wp_ret (WZ (ZL (ZL (WZ (ZL (ZL (Zy hE rfl (Zu hE rfl) ⟨_, rfl, rfl, hM.kept⟩)))))))
    ·intro hb25
     have hF16 := ZA hF16 hb25
     refine wp_skip (Yj (Zx (wp_region_lit (Zd hE Za (dl rfl) rfl ?_)))); intro a hE
     refine Zh hE Za (dl rfl) rfl rfl rfl ?_; intro a hE
     refine Ze hE Za (dl rfl) rfl ?_; intro a hE
     refine Zj (Zl ?_)
     exact ⟨_, (Option.some.inj hF16).symm, hE.sub ⟨rfl, rfl, rfl, trivial⟩, hM⟩
  ·intro hb13
   have hs10 := ZA hs10 hb13
   refine wp_exit (Zr (Zr (Yk ?_)))
   have ht27 := hx11 _ (Option.some.inj hs10).symm
   subst ht27
   refine Zl ?_
   have hM := M.fst (l := []) hM
   exact ⟨(), rfl, hE.sub trivial, hM⟩
 ·skip
  rintro a w ⟨s8, ht, hE, hM⟩
  subst ht
  have hF7 := el_nx hF7
  refine Zx (Zc (Ze hE Za (dl rfl) rfl ?_)); intro a hE
  refine Zf ?_
  have hr := Option.some.inj hF7
  subst hr
  exact wp_ret (Zy hE rfl (Zu hE rfl) ⟨_, rfl, rfl, hM.kept⟩)
noncomputable def Vu (p0 : (List (Vector UInt8 32))) (p1 : (List (Vector UInt8 32))) (s6 : Int) : Option (Fl Int (Fl Unit Bool)) :=
 if (decide (s6 < (p0.length : Int))) = true then (((idx p0 s6).bind fun x15 => (idx p1 s6).bind fun x18 => (Wd x15 x18).bind fun r21 => some (!r21) : Option (Bool)).bind fun j11 => if j11 = true then (some (Fl.ex (Fl.ex false))) else (some (Fl.nx (wr (s6 + 1))))) else (some (Fl.ex (Fl.nx ())))
noncomputable def WO (p0 : (List (Vector UInt8 32))) (p1 : (List (Vector UInt8 32))) : Option (Bool) :=
 if ((p0.length : Int) != (p1.length : Int)) = true then (some false) else ((ZG (Vu p0 p1) 0 : Option (Fl Unit Bool)).bind fun j2 => j2.el (fun s5 => some true) (fun r => some r))
theorem c_laws_eqDigestS (w0 : World) (p0 : (List (Vector UInt8 32))) (v0_1 : Value) (hv0_1 : Ro w0 p0 [v0_1]) (p1 : (List (Vector UInt8 32))) (v1_1 : Value) (hv1_1 : Ro w0 p1 [v1_1]) (r : Bool) (hF : WO p0 p1 = some r) :
  Calls Try.prog 56 [v0_1, v1_1].toArray w0 (fun en w' => ∃ v, en = .returned v ∧ (v = (vT r) ∧ Kept (Old w0) w0 w')) := by
 refine ZC (n := 27) Try.func56 rfl rfl (Nat.le_of_ble_eq_true rfl) rfl ?_
 intro a hE
 have hM := M.start w0
 unfold WO at hF
 refine Zc (Ze hE Za (dl rfl) rfl ?_); intro a hE
 refine Zf (wp_seq (Zc (Zd hE Za (dl rfl) rfl ?_))); intro a hE
 refine Z8 hE Za (dl rfl) rfl Try.underlying53 (hM.rd hv0_1) ?_; intro a hE
 refine Zd hE Za (dl rfl) rfl ?_; intro a hE
 refine Z8 hE Za (dl rfl) rfl Try.underlying53 (hM.rd hv1_1) ?_; intro a hE
 refine Zh hE Za (dl rfl) rfl rfl rfl ?_; intro a hE
 refine Zf ?_
 refine Zt hE rfl ?_ ?_
 ·intro hb1
  have hF := Zz hF hb1
  refine Zc (Ze hE Za (dl rfl) rfl ?_); intro a hE
  refine Zf ?_
  have hr := Option.some.inj hF
  subst hr
  exact wp_ret (ZL (Zy hE rfl (Zu hE rfl) ⟨_, rfl, rfl, hM.kept⟩))
 ·intro hb1
  have hF := ZA hF hb1
  refine wp_skip (Zx (wp_seq (Zc (Ze hE Za (dl rfl) rfl ?_)))); intro a hE
  refine Zf ?_
  obtain ⟨j2, hl3, hF4⟩ := bind_some hF
  refine ZW (fun a w => ∃ s5 : Unit, j2 = Fl.nx s5 ∧ Env 27 a [] ∧ M (Old w0) w0 w []) ?_ ?_
  ·skip
   refine wp_block ?_
   refine ZM (fun (s6 : Int) a w => Env 27 a [(0, v0_1), (1, v1_1), (5, (vI s6))] ∧ M (Old w0) w0 w []) hl3 ⟨hE.sub ⟨rfl, rfl, rfl, trivial⟩, hM⟩ ?_
   rintro s6 a w ⟨hE, hM⟩ o9 hs7 hx8
   unfold Vu at hs7
   refine wp_seq (Zc (Zd hE Za (dl rfl) rfl ?_)); intro a hE
   refine Zd hE Za (dl rfl) rfl ?_; intro a hE
   refine Z8 hE Za (dl rfl) rfl Try.underlying53 (hM.rd hv0_1) ?_; intro a hE
   refine Zh hE Za (dl rfl) rfl rfl rfl ?_; intro a hE
   refine Zf ?_
   refine Zt hE rfl ?_ ?_
   ·intro hb10
    have hs7 := Zz hs7 hb10
    refine wp_skip (Zx (wp_seq (wp_block ?_)))
    obtain ⟨j11, hl12, hF13⟩ := bind_some hs7
    refine ZS (fun a w => Env 27 a [(0, v0_1), (1, v1_1), (5, (vI s6)), (26, (vT j11))] ∧ M (Old w0) w0 w []) ?_ ?_
    ·skip
     obtain ⟨x15, e16, hl12⟩ := bind_some hl12
     have hi17 := ZQ e16
     obtain ⟨x18, e19, hl12⟩ := bind_some hl12
     have hi20 := ZQ e19
     obtain ⟨r21, e22, hl12⟩ := bind_some hl12
     refine Ye (n := 27) (hd := [_, _, _, _, _, _, _, _, _, _]) (tl := []) YB rfl rfl [17, 18, 19, 20, 21, 22, 23, 24, 25, 26] (by decide) (fun w => M (Old w0) w0 w []) (fun j => ([fun v _ => v = v0_1, fun v _ => v = (vI s6), fun v _ => v = (ptr (sb v0_1) (so v0_1 + (s6).toNat * 32)), fun v _ => v = (Value.agg (Flat.enc x15).toArray), fun v _ => v = v1_1, fun v _ => v = (vI s6), fun v _ => v = (ptr (sb v1_1) (so v1_1 + (s6).toNat * 32)), fun v _ => v = (Value.agg (Flat.enc x18).toArray), fun v _ => v = (vT r21), fun v _ => v = (vT (!r21))] : List (Value → World → Prop)).getD j (fun _ _ => True)) (fun _ _ h hk => h.keep hk) (gup (Zg (Zg (Zg (Zg (Zg (Zg (Zg (Zg (Zg (Zg Ww))))))))))) hE hM.drew (ZH (Zb ?_ (Zb ?_ (Zb ?_ (Zb ?_ (Zb ?_ (Zb ?_ (Zb ?_ (Zb ?_ (Zb ?_ (Zb ?_ ZD))))))))))) ?_
     ·intro a w ux14 hE hM hp
      refine Zd hE Za (dl rfl) rfl ?_; intro a hE
      exact ⟨Kept.refl _ _, _, _, rfl, hE, rfl⟩
     ·intro a w ux14 hE hM hp
      refine Zd hE Za (dl rfl) rfl ?_; intro a hE
      exact ⟨Kept.refl _ _, _, _, rfl, hE, rfl⟩
     ·intro a w ux14 hE hM hp
      have f0 : ux14 0 = v0_1 := hp 0 _ rfl rfl
      have f1 : ux14 1 = (vI s6) := hp 1 _ rfl rfl
      refine ZK hE Za (dl rfl) (lk rfl f0) (lk rfl f1) Try.underlying53 Yi (hM.rd hv0_1) hi17.1 ?_; intro a hE
      exact ⟨Kept.refl _ _, _, _, rfl, hE, rfl⟩
     ·intro a w ux14 hE hM hp
      have f2 : ux14 2 = (ptr (sb v0_1) (so v0_1 + (s6).toNat * 32)) := hp 0 _ rfl rfl
      refine Zp (cs := Flat.enc x15) hE Za (dl rfl) (lk rfl f2) Yi rfl (Yr (hM.rd hv0_1) hi17.2) (Flat.len _) ?_; intro a hE
      exact ⟨Kept.refl _ _, _, _, rfl, hE, rfl⟩
     ·intro a w ux14 hE hM hp
      refine Zd hE Za (dl rfl) rfl ?_; intro a hE
      exact ⟨Kept.refl _ _, _, _, rfl, hE, rfl⟩
     ·intro a w ux14 hE hM hp
      refine Zd hE Za (dl rfl) rfl ?_; intro a hE
      exact ⟨Kept.refl _ _, _, _, rfl, hE, rfl⟩
     ·intro a w ux14 hE hM hp
      have f4 : ux14 4 = v1_1 := hp 0 _ rfl rfl
      have f5 : ux14 5 = (vI s6) := hp 1 _ rfl rfl
      refine ZK hE Za (dl rfl) (lk rfl f4) (lk rfl f5) Try.underlying53 Yi (hM.rd hv1_1) hi20.1 ?_; intro a hE
      exact ⟨Kept.refl _ _, _, _, rfl, hE, rfl⟩
     ·intro a w ux14 hE hM hp
      have f6 : ux14 6 = (ptr (sb v1_1) (so v1_1 + (s6).toNat * 32)) := hp 0 _ rfl rfl
      refine Zp (cs := Flat.enc x18) hE Za (dl rfl) (lk rfl f6) Yi rfl (Yr (hM.rd hv1_1) hi20.2) (Flat.len _) ?_; intro a hE
      exact ⟨Kept.refl _ _, _, _, rfl, hE, rfl⟩
     ·intro a w ux14 hE hM hp
      have f3 : ux14 3 = (Value.agg (Flat.enc x15).toArray) := hp 0 _ rfl rfl
      have f7 : ux14 7 = (Value.agg (Flat.enc x18).toArray) := hp 1 _ rfl rfl
      refine Zw (vs := [(Value.agg (Flat.enc x15).toArray), (Value.agg (Flat.enc x18).toArray)]) hE Za (dl rfl) (Z0 (ZZ (lk rfl f3) (ZZ (lk rfl f7) Xh))) cb10 (c_laws_eqDigest _ x15 x18 r21 e22) ?_
      rintro v w a ⟨rfl, hK⟩ hE
      exact ⟨hK, _, _, rfl, hE, rfl⟩
     ·intro a w ux14 hE hM hp
      have f8 : ux14 8 = (vT r21) := hp 0 _ rfl rfl
      refine Un hE Za (dl rfl) (lk rfl f8) ?_; intro a hE
      exact ⟨Kept.refl _ _, _, _, rfl, hE, rfl⟩
     ·intro a w ux14 hE hM hg
      have f0 : ux14 0 = v0_1 := hg 0 (by decide)
      have f1 : ux14 1 = (vI s6) := hg 1 (by decide)
      have f2 : ux14 2 = (ptr (sb v0_1) (so v0_1 + (s6).toNat * 32)) := hg 2 (by decide)
      have f3 : ux14 3 = (Value.agg (Flat.enc x15).toArray) := hg 3 (by decide)
      have f4 : ux14 4 = v1_1 := hg 4 (by decide)
      have f5 : ux14 5 = (vI s6) := hg 5 (by decide)
      have f6 : ux14 6 = (ptr (sb v1_1) (so v1_1 + (s6).toNat * 32)) := hg 6 (by decide)
      have f7 : ux14 7 = (Value.agg (Flat.enc x18).toArray) := hg 7 (by decide)
      have f8 : ux14 8 = (vT r21) := hg 8 (by decide)
      have f9 : ux14 9 = (vT (!r21)) := hg 9 (by decide)
      have hE := hE.sub (e' := [(17, v0_1), (18, (vI s6)), (19, (ptr (sb v0_1) (so v0_1 + (s6).toNat * 32))), (20, (Value.agg (Flat.enc x15).toArray)), (21, v1_1), (22, (vI s6)), (23, (ptr (sb v1_1) (so v1_1 + (s6).toNat * 32))), (24, (Value.agg (Flat.enc x18).toArray)), (25, (vT r21)), (26, (vT (!r21))), (0, v0_1), (1, v1_1), (5, (vI s6)), (11, (vI s6)), (12, v0_1), (13, (vI (p0.length : Int))), (14, (vT (decide (s6 < (p0.length : Int)))))]) ⟨lk rfl f0, lk rfl f1, lk rfl f2, lk rfl f3, lk rfl f4, lk rfl f5, lk rfl f6, lk rfl f7, lk rfl f8, lk rfl f9, rfl, rfl, rfl, rfl, rfl, rfl, rfl, trivial⟩
      refine Zj ?_
      have ht23 := Option.some.inj hl12
      subst ht23
      refine Zl ?_
      exact ⟨hE.sub ⟨rfl, rfl, rfl, rfl, trivial⟩, hM⟩
    ·skip
     rintro a w ⟨hE, hM⟩
     refine Zt hE rfl ?_ ?_
     ·intro hb24
      have hF13 := Zz hF13 hb24
      refine Zc (Ze hE Za (dl rfl) rfl ?_); intro a hE
      refine Zf ?_
      have ht25 := hx8 _ (Option.some.inj hF13).symm
      subst ht25
      have hr := Option.some.inj hF4
      subst hr
      exact wp_ret (WZ (ZL (ZL (WZ (ZL (ZL (Zy hE rfl (Zu hE rfl) ⟨_, rfl, rfl, hM.kept⟩)))))))
     ·intro hb24
      have hF13 := ZA hF13 hb24
      refine wp_skip (Yj (Zx (wp_region_lit (Zd hE Za (dl rfl) rfl ?_)))); intro a hE
      refine Zh hE Za (dl rfl) rfl rfl rfl ?_; intro a hE
      refine Ze hE Za (dl rfl) rfl ?_; intro a hE
      refine Zj (Zl ?_)
      exact ⟨_, (Option.some.inj hF13).symm, hE.sub ⟨rfl, rfl, rfl, trivial⟩, hM⟩
   ·intro hb10
    have hs7 := ZA hs7 hb10
    refine wp_exit (Zr (Zr (Yk ?_)))
    have ht26 := hx8 _ (Option.some.inj hs7).symm
    subst ht26
    refine Zl ?_
    exact ⟨(), rfl, hE.sub trivial, hM⟩
  ·skip
   rintro a w ⟨s5, ht, hE, hM⟩
   subst ht
   have hF4 := el_nx hF4
   refine Zx (Zc (Ze hE Za (dl rfl) rfl ?_)); intro a hE
   refine Zf ?_
   have hr := Option.some.inj hF4
   subst hr
   exact wp_ret (Zy hE rfl (Zu hE rfl) ⟨_, rfl, rfl, hM.kept⟩)
noncomputable def VU (p0 : (List (List UInt8))) (p1 : (List (List UInt8))) (s6 : Int) : Option (Fl Int (Fl Unit Bool)) :=
 if (decide (s6 < (p0.length : Int))) = true then (((idx p0 s6).bind fun x15 => (idx p1 s6).bind fun x23 => (YV x15 x23).bind fun r31 => some (!r31) : Option (Bool)).bind fun j11 => if j11 = true then (some (Fl.ex (Fl.ex false))) else (some (Fl.nx (wr (s6 + 1))))) else (some (Fl.ex (Fl.nx ())))
noncomputable def Vh (p0 : (List (List UInt8))) (p1 : (List (List UInt8))) : Option (Bool) :=
 if ((p0.length : Int) != (p1.length : Int)) = true then (some false) else ((ZG (VU p0 p1) 0 : Option (Fl Unit Bool)).bind fun j2 => j2.el (fun s5 => some true) (fun r => some r))
theorem c_laws_eqByteSS (w0 : World) (p0 : (List (List UInt8))) (v0_1 : Value) (hv0_1 : Ro w0 p0 [v0_1]) (p1 : (List (List UInt8))) (v1_1 : Value) (hv1_1 : Ro w0 p1 [v1_1]) (r : Bool) (hF : Vh p0 p1 = some r) :
  Calls Try.prog 57 [v0_1, v1_1].toArray w0 (fun en w' => ∃ v, en = .returned v ∧ (v = (vT r) ∧ Kept (Old w0) w0 w')) := by
 refine ZC (n := 27) Try.func57 rfl rfl (Nat.le_of_ble_eq_true rfl) rfl ?_
 intro a hE
 have hM := M.start w0
 unfold Vh at hF
 refine Zc (Ze hE Za (dl rfl) rfl ?_); intro a hE
 refine Zf (wp_seq (Zc (Zd hE Za (dl rfl) rfl ?_))); intro a hE
 refine Z8 hE Za (dl rfl) rfl Try.underlying45 (hM.rd hv0_1) ?_; intro a hE
 refine Zd hE Za (dl rfl) rfl ?_; intro a hE
 refine Z8 hE Za (dl rfl) rfl Try.underlying45 (hM.rd hv1_1) ?_; intro a hE
 refine Zh hE Za (dl rfl) rfl rfl rfl ?_; intro a hE
 refine Zf ?_
 refine Zt hE rfl ?_ ?_
 ·intro hb1
  have hF := Zz hF hb1
  refine Zc (Ze hE Za (dl rfl) rfl ?_); intro a hE
  refine Zf ?_
  have hr := Option.some.inj hF
  subst hr
  exact wp_ret (ZL (Zy hE rfl (Zu hE rfl) ⟨_, rfl, rfl, hM.kept⟩))
 ·intro hb1
  have hF := ZA hF hb1
  refine wp_skip (Zx (wp_seq (Zc (Ze hE Za (dl rfl) rfl ?_)))); intro a hE
  refine Zf ?_
  obtain ⟨j2, hl3, hF4⟩ := bind_some hF
  refine ZW (fun a w => ∃ s5 : Unit, j2 = Fl.nx s5 ∧ Env 27 a [] ∧ M (Old w0) w0 w []) ?_ ?_
  ·skip
   refine wp_block ?_
   refine ZM (fun (s6 : Int) a w => Env 27 a [(0, v0_1), (1, v1_1), (5, (vI s6))] ∧ M (Old w0) w0 w []) hl3 ⟨hE.sub ⟨rfl, rfl, rfl, trivial⟩, hM⟩ ?_
   rintro s6 a w ⟨hE, hM⟩ o9 hs7 hx8
   unfold VU at hs7
   refine wp_seq (Zc (Zd hE Za (dl rfl) rfl ?_)); intro a hE
   refine Zd hE Za (dl rfl) rfl ?_; intro a hE
   refine Z8 hE Za (dl rfl) rfl Try.underlying45 (hM.rd hv0_1) ?_; intro a hE
   refine Zh hE Za (dl rfl) rfl rfl rfl ?_; intro a hE
   refine Zf ?_
   refine Zt hE rfl ?_ ?_
   ·intro hb10
    have hs7 := Zz hs7 hb10
    refine wp_skip (Zx (wp_seq (wp_block ?_)))
    obtain ⟨j11, hl12, hF13⟩ := bind_some hs7
    refine ZS (fun a w => Env 27 a [(0, v0_1), (1, v1_1), (5, (vI s6)), (26, (vT j11))] ∧ M (Old w0) w0 w []) ?_ ?_
    ·skip
     obtain ⟨x15, e16, hl12⟩ := bind_some hl12
     have hi17 := ZQ e16
     obtain ⟨cs18, hs19, hA20⟩ := Uz hv0_1 hi17.2 -- ^
     obtain ⟨u21, rfl⟩ := Vo hs19 -- ^
     have h22 := hs19 -- ^
     obtain ⟨x23, e24, hl12⟩ := bind_some hl12
     have hi25 := ZQ e24
     obtain ⟨cs26, hs27, hA28⟩ := Uz hv1_1 hi25.2 -- ^
     obtain ⟨u29, rfl⟩ := Vo hs27 -- ^
     have h30 := hs27 -- ^
     obtain ⟨r31, e32, hl12⟩ := bind_some hl12
     refine Ye (n := 27) (hd := [_, _, _, _, _, _, _, _, _, _]) (tl := []) YB rfl rfl [17, 18, 19, 20, 21, 22, 23, 24, 25, 26] (by decide) (fun w => M (Old w0) w0 w []) (fun j => ([fun v _ => v = v0_1, fun v _ => v = (vI s6), fun v _ => v = (ptr (sb v0_1) (so v0_1 + (s6).toNat * 1)), fun v _ => v = u21, fun v _ => v = v1_1, fun v _ => v = (vI s6), fun v _ => v = (ptr (sb v1_1) (so v1_1 + (s6).toNat * 1)), fun v _ => v = u29, fun v _ => v = (vT r31), fun v _ => v = (vT (!r31))] : List (Value → World → Prop)).getD j (fun _ _ => True)) (fun _ _ h hk => h.keep hk) (gup (Zg (Zg (Zg (Zg (Zg (Zg (Zg (Zg (Zg (Zg Ww))))))))))) hE hM.drew (ZH (Zb ?_ (Zb ?_ (Zb ?_ (Zb ?_ (Zb ?_ (Zb ?_ (Zb ?_ (Zb ?_ (Zb ?_ (Zb ?_ ZD))))))))))) ?_
     ·intro a w ux14 hE hM hp
      refine Zd hE Za (dl rfl) rfl ?_; intro a hE
      exact ⟨Kept.refl _ _, _, _, rfl, hE, rfl⟩
     ·intro a w ux14 hE hM hp
      refine Zd hE Za (dl rfl) rfl ?_; intro a hE
      exact ⟨Kept.refl _ _, _, _, rfl, hE, rfl⟩
     ·intro a w ux14 hE hM hp
      have f0 : ux14 0 = v0_1 := hp 0 _ rfl rfl
      have f1 : ux14 1 = (vI s6) := hp 1 _ rfl rfl
      refine ZK hE Za (dl rfl) (lk rfl f0) (lk rfl f1) Try.underlying45 Vz (hM.rd hv0_1) hi17.1 ?_; intro a hE
      exact ⟨Kept.refl _ _, _, _, rfl, hE, rfl⟩
     ·intro a w ux14 hE hM hp
      have f2 : ux14 2 = (ptr (sb v0_1) (so v0_1 + (s6).toNat * 1)) := hp 0 _ rfl rfl
      refine Zv (v := u21) hE Za (dl rfl) (lk rfl f2) Vz rfl (hM.atk hA20 (Ux hv0_1 hi17.2)) ?_; intro a hE
      exact ⟨Kept.refl _ _, _, _, rfl, hE, rfl⟩
     ·intro a w ux14 hE hM hp
      refine Zd hE Za (dl rfl) rfl ?_; intro a hE
      exact ⟨Kept.refl _ _, _, _, rfl, hE, rfl⟩
     ·intro a w ux14 hE hM hp
      refine Zd hE Za (dl rfl) rfl ?_; intro a hE
      exact ⟨Kept.refl _ _, _, _, rfl, hE, rfl⟩
     ·intro a w ux14 hE hM hp
      have f4 : ux14 4 = v1_1 := hp 0 _ rfl rfl
      have f5 : ux14 5 = (vI s6) := hp 1 _ rfl rfl
      refine ZK hE Za (dl rfl) (lk rfl f4) (lk rfl f5) Try.underlying45 Vz (hM.rd hv1_1) hi25.1 ?_; intro a hE
      exact ⟨Kept.refl _ _, _, _, rfl, hE, rfl⟩
     ·intro a w ux14 hE hM hp
      have f6 : ux14 6 = (ptr (sb v1_1) (so v1_1 + (s6).toNat * 1)) := hp 0 _ rfl rfl
      refine Zv (v := u29) hE Za (dl rfl) (lk rfl f6) Vz rfl (hM.atk hA28 (Ux hv1_1 hi25.2)) ?_; intro a hE
      exact ⟨Kept.refl _ _, _, _, rfl, hE, rfl⟩
     ·intro a w ux14 hE hM hp
      have f3 : ux14 3 = u21 := hp 0 _ rfl rfl
      have f7 : ux14 7 = u29 := hp 1 _ rfl rfl
      refine Zw (vs := [u21, u29]) hE Za (dl rfl) (Z0 (ZZ (lk rfl f3) (ZZ (lk rfl f7) Xh))) cb23 (UH _ x15 u21 (hM.rdo h22) x23 u29 (hM.rdo h30) r31 e32) ?_
      rintro v w a ⟨rfl, hK⟩ hE
      exact ⟨hK, _, _, rfl, hE, rfl⟩
     ·intro a w ux14 hE hM hp
      have f8 : ux14 8 = (vT r31) := hp 0 _ rfl rfl
      refine Un hE Za (dl rfl) (lk rfl f8) ?_; intro a hE
      exact ⟨Kept.refl _ _, _, _, rfl, hE, rfl⟩
     ·intro a w ux14 hE hM hg
      have f0 : ux14 0 = v0_1 := hg 0 (by decide)
      have f1 : ux14 1 = (vI s6) := hg 1 (by decide)
      have f2 : ux14 2 = (ptr (sb v0_1) (so v0_1 + (s6).toNat * 1)) := hg 2 (by decide)
      have f3 : ux14 3 = u21 := hg 3 (by decide)
      have f4 : ux14 4 = v1_1 := hg 4 (by decide)
      have f5 : ux14 5 = (vI s6) := hg 5 (by decide)
      have f6 : ux14 6 = (ptr (sb v1_1) (so v1_1 + (s6).toNat * 1)) := hg 6 (by decide)
      have f7 : ux14 7 = u29 := hg 7 (by decide)
      have f8 : ux14 8 = (vT r31) := hg 8 (by decide)
      have f9 : ux14 9 = (vT (!r31)) := hg 9 (by decide)
      have hE := hE.sub (e' := [(17, v0_1), (18, (vI s6)), (19, (ptr (sb v0_1) (so v0_1 + (s6).toNat * 1))), (20, u21), (21, v1_1), (22, (vI s6)), (23, (ptr (sb v1_1) (so v1_1 + (s6).toNat * 1))), (24, u29), (25, (vT r31)), (26, (vT (!r31))), (0, v0_1), (1, v1_1), (5, (vI s6)), (11, (vI s6)), (12, v0_1), (13, (vI (p0.length : Int))), (14, (vT (decide (s6 < (p0.length : Int)))))]) ⟨lk rfl f0, lk rfl f1, lk rfl f2, lk rfl f3, lk rfl f4, lk rfl f5, lk rfl f6, lk rfl f7, lk rfl f8, lk rfl f9, rfl, rfl, rfl, rfl, rfl, rfl, rfl, trivial⟩
      refine Zj ?_
      have ht33 := Option.some.inj hl12
      subst ht33
      refine Zl ?_
      exact ⟨hE.sub ⟨rfl, rfl, rfl, rfl, trivial⟩, hM⟩
    ·skip
     rintro a w ⟨hE, hM⟩
     refine Zt hE rfl ?_ ?_
     ·intro hb34
      have hF13 := Zz hF13 hb34
      refine Zc (Ze hE Za (dl rfl) rfl ?_); intro a hE
      refine Zf ?_
      have ht35 := hx8 _ (Option.some.inj hF13).symm
      subst ht35
      have hr := Option.some.inj hF4
      subst hr
      exact wp_ret (WZ (ZL (ZL (WZ (ZL (ZL (Zy hE rfl (Zu hE rfl) ⟨_, rfl, rfl, hM.kept⟩)))))))
     ·intro hb34
      have hF13 := ZA hF13 hb34
      refine wp_skip (Yj (Zx (wp_region_lit (Zd hE Za (dl rfl) rfl ?_)))); intro a hE
      refine Zh hE Za (dl rfl) rfl rfl rfl ?_; intro a hE
      refine Ze hE Za (dl rfl) rfl ?_; intro a hE
      refine Zj (Zl ?_)
      exact ⟨_, (Option.some.inj hF13).symm, hE.sub ⟨rfl, rfl, rfl, trivial⟩, hM⟩
   ·intro hb10
    have hs7 := ZA hs7 hb10
    refine wp_exit (Zr (Zr (Yk ?_)))
    have ht36 := hx8 _ (Option.some.inj hs7).symm
    subst ht36
    refine Zl ?_
    exact ⟨(), rfl, hE.sub trivial, hM⟩
  ·skip
   rintro a w ⟨s5, ht, hE, hM⟩
   subst ht
   have hF4 := el_nx hF4
   refine Zx (Zc (Ze hE Za (dl rfl) rfl ?_)); intro a hE
   refine Zf ?_
   have hr := Option.some.inj hF4
   subst hr
   exact wp_ret (Zy hE rfl (Zu hE rfl) ⟨_, rfl, rfl, hM.kept⟩)
noncomputable def V0 (p0 : (List Int)) (p1 : (List Int)) (s6 : Int) : Option (Fl Int (Fl Unit Bool)) :=
 if (decide (s6 < (p0.length : Int))) = true then (((idx p0 s6).bind fun x15 => (idx p1 s6).bind fun x18 => some (x15 != x18) : Option (Bool)).bind fun j11 => if j11 = true then (some (Fl.ex (Fl.ex false))) else (some (Fl.nx (wr (s6 + 1))))) else (some (Fl.ex (Fl.nx ())))
noncomputable def W6 (p0 : (List Int)) (p1 : (List Int)) : Option (Bool) :=
 if ((p0.length : Int) != (p1.length : Int)) = true then (some false) else ((ZG (V0 p0 p1) 0 : Option (Fl Unit Bool)).bind fun j2 => j2.el (fun s5 => some true) (fun r => some r))
theorem c_laws_eqInt64S (w0 : World) (p0 : (List Int)) (v0_1 : Value) (hv0_1 : Ro w0 p0 [v0_1]) (p1 : (List Int)) (v1_1 : Value) (hv1_1 : Ro w0 p1 [v1_1]) (r : Bool) (hF : W6 p0 p1 = some r) :
  Calls Try.prog 58 [v0_1, v1_1].toArray w0 (fun en w' => ∃ v, en = .returned v ∧ (v = (vT r) ∧ Kept (Old w0) w0 w')) := by
 refine ZC (n := 26) Try.func58 rfl rfl (Nat.le_of_ble_eq_true rfl) rfl ?_
 intro a hE
 have hM := M.start w0
 unfold W6 at hF
 refine Zc (Ze hE Za (dl rfl) rfl ?_); intro a hE
 refine Zf (wp_seq (Zc (Zd hE Za (dl rfl) rfl ?_))); intro a hE
 refine Z8 hE Za (dl rfl) rfl Try.underlying46 (hM.rd hv0_1) ?_; intro a hE
 refine Zd hE Za (dl rfl) rfl ?_; intro a hE
 refine Z8 hE Za (dl rfl) rfl Try.underlying46 (hM.rd hv1_1) ?_; intro a hE
 refine Zh hE Za (dl rfl) rfl rfl rfl ?_; intro a hE
 refine Zf ?_
 refine Zt hE rfl ?_ ?_
 ·intro hb1
  have hF := Zz hF hb1
  refine Zc (Ze hE Za (dl rfl) rfl ?_); intro a hE
  refine Zf ?_
  have hr := Option.some.inj hF
  subst hr
  exact wp_ret (ZL (Zy hE rfl (Zu hE rfl) ⟨_, rfl, rfl, hM.kept⟩))
 ·intro hb1
  have hF := ZA hF hb1
  refine wp_skip (Zx (wp_seq (Zc (Ze hE Za (dl rfl) rfl ?_)))); intro a hE
  refine Zf ?_
  obtain ⟨j2, hl3, hF4⟩ := bind_some hF
  refine ZW (fun a w => ∃ s5 : Unit, j2 = Fl.nx s5 ∧ Env 26 a [] ∧ M (Old w0) w0 w []) ?_ ?_
  ·skip
   refine wp_block ?_
   refine ZM (fun (s6 : Int) a w => Env 26 a [(0, v0_1), (1, v1_1), (5, (vI s6))] ∧ M (Old w0) w0 w []) hl3 ⟨hE.sub ⟨rfl, rfl, rfl, trivial⟩, hM⟩ ?_
   rintro s6 a w ⟨hE, hM⟩ o9 hs7 hx8
   unfold V0 at hs7
   refine wp_seq (Zc (Zd hE Za (dl rfl) rfl ?_)); intro a hE
   refine Zd hE Za (dl rfl) rfl ?_; intro a hE
   refine Z8 hE Za (dl rfl) rfl Try.underlying46 (hM.rd hv0_1) ?_; intro a hE
   refine Zh hE Za (dl rfl) rfl rfl rfl ?_; intro a hE
   refine Zf ?_
   refine Zt hE rfl ?_ ?_
   ·intro hb10
    have hs7 := Zz hs7 hb10
    refine wp_skip (Zx (wp_seq (wp_block ?_)))
    obtain ⟨j11, hl12, hF13⟩ := bind_some hs7
    refine ZS (fun a w => Env 26 a [(0, v0_1), (1, v1_1), (5, (vI s6)), (25, (vT j11))] ∧ M (Old w0) w0 w []) ?_ ?_
    ·skip
     obtain ⟨x15, e16, hl12⟩ := bind_some hl12
     have hi17 := ZQ e16
     obtain ⟨x18, e19, hl12⟩ := bind_some hl12
     have hi20 := ZQ e19
     refine Ye (n := 26) (hd := [_, _, _, _, _, _, _, _, _]) (tl := []) YB rfl rfl [17, 18, 19, 20, 21, 22, 23, 24, 25] (by decide) (fun w => M (Old w0) w0 w []) (fun j => ([fun v _ => v = v0_1, fun v _ => v = (vI s6), fun v _ => v = (ptr (sb v0_1) (so v0_1 + (s6).toNat * 1)), fun v _ => v = (vI x15), fun v _ => v = v1_1, fun v _ => v = (vI s6), fun v _ => v = (ptr (sb v1_1) (so v1_1 + (s6).toNat * 1)), fun v _ => v = (vI x18), fun v _ => v = (vT (x15 != x18))] : List (Value → World → Prop)).getD j (fun _ _ => True)) (fun _ _ h hk => h.keep hk) (gup (Zg (Zg (Zg (Zg (Zg (Zg (Zg (Zg (Zg Ww)))))))))) hE hM.drew (ZH (Zb ?_ (Zb ?_ (Zb ?_ (Zb ?_ (Zb ?_ (Zb ?_ (Zb ?_ (Zb ?_ (Zb ?_ ZD)))))))))) ?_
     ·intro a w ux14 hE hM hp
      refine Zd hE Za (dl rfl) rfl ?_; intro a hE
      exact ⟨Kept.refl _ _, _, _, rfl, hE, rfl⟩
     ·intro a w ux14 hE hM hp
      refine Zd hE Za (dl rfl) rfl ?_; intro a hE
      exact ⟨Kept.refl _ _, _, _, rfl, hE, rfl⟩
     ·intro a w ux14 hE hM hp
      have f0 : ux14 0 = v0_1 := hp 0 _ rfl rfl
      have f1 : ux14 1 = (vI s6) := hp 1 _ rfl rfl
      refine ZK hE Za (dl rfl) (lk rfl f0) (lk rfl f1) Try.underlying46 ty2 (hM.rd hv0_1) hi17.1 ?_; intro a hE
      exact ⟨Kept.refl _ _, _, _, rfl, hE, rfl⟩
     ·intro a w ux14 hE hM hp
      have f2 : ux14 2 = (ptr (sb v0_1) (so v0_1 + (s6).toNat * 1)) := hp 0 _ rfl rfl
      refine Zv (v := (vI x15)) hE Za (dl rfl) (lk rfl f2) ty2 rfl (Yr (hM.rd hv0_1) hi17.2) ?_; intro a hE
      exact ⟨Kept.refl _ _, _, _, rfl, hE, rfl⟩
     ·intro a w ux14 hE hM hp
      refine Zd hE Za (dl rfl) rfl ?_; intro a hE
      exact ⟨Kept.refl _ _, _, _, rfl, hE, rfl⟩
     ·intro a w ux14 hE hM hp
      refine Zd hE Za (dl rfl) rfl ?_; intro a hE
      exact ⟨Kept.refl _ _, _, _, rfl, hE, rfl⟩
     ·intro a w ux14 hE hM hp
      have f4 : ux14 4 = v1_1 := hp 0 _ rfl rfl
      have f5 : ux14 5 = (vI s6) := hp 1 _ rfl rfl
      refine ZK hE Za (dl rfl) (lk rfl f4) (lk rfl f5) Try.underlying46 ty2 (hM.rd hv1_1) hi20.1 ?_; intro a hE
      exact ⟨Kept.refl _ _, _, _, rfl, hE, rfl⟩
     ·intro a w ux14 hE hM hp
      have f6 : ux14 6 = (ptr (sb v1_1) (so v1_1 + (s6).toNat * 1)) := hp 0 _ rfl rfl
      refine Zv (v := (vI x18)) hE Za (dl rfl) (lk rfl f6) ty2 rfl (Yr (hM.rd hv1_1) hi20.2) ?_; intro a hE
      exact ⟨Kept.refl _ _, _, _, rfl, hE, rfl⟩
     ·intro a w ux14 hE hM hp
      have f3 : ux14 3 = (vI x15) := hp 0 _ rfl rfl
      have f7 : ux14 7 = (vI x18) := hp 1 _ rfl rfl
      refine Zh hE Za (dl rfl) (lk rfl f3) (lk rfl f7) rfl ?_; intro a hE
      exact ⟨Kept.refl _ _, _, _, rfl, hE, rfl⟩
     ·intro a w ux14 hE hM hg
      have f0 : ux14 0 = v0_1 := hg 0 (by decide)
      have f1 : ux14 1 = (vI s6) := hg 1 (by decide)
      have f2 : ux14 2 = (ptr (sb v0_1) (so v0_1 + (s6).toNat * 1)) := hg 2 (by decide)
      have f3 : ux14 3 = (vI x15) := hg 3 (by decide)
      have f4 : ux14 4 = v1_1 := hg 4 (by decide)
      have f5 : ux14 5 = (vI s6) := hg 5 (by decide)
      have f6 : ux14 6 = (ptr (sb v1_1) (so v1_1 + (s6).toNat * 1)) := hg 6 (by decide)
      have f7 : ux14 7 = (vI x18) := hg 7 (by decide)
      have f8 : ux14 8 = (vT (x15 != x18)) := hg 8 (by decide)
      have hE := hE.sub (e' := [(17, v0_1), (18, (vI s6)), (19, (ptr (sb v0_1) (so v0_1 + (s6).toNat * 1))), (20, (vI x15)), (21, v1_1), (22, (vI s6)), (23, (ptr (sb v1_1) (so v1_1 + (s6).toNat * 1))), (24, (vI x18)), (25, (vT (x15 != x18))), (0, v0_1), (1, v1_1), (5, (vI s6)), (11, (vI s6)), (12, v0_1), (13, (vI (p0.length : Int))), (14, (vT (decide (s6 < (p0.length : Int)))))]) ⟨lk rfl f0, lk rfl f1, lk rfl f2, lk rfl f3, lk rfl f4, lk rfl f5, lk rfl f6, lk rfl f7, lk rfl f8, rfl, rfl, rfl, rfl, rfl, rfl, rfl, trivial⟩
      refine Zj ?_
      have ht21 := Option.some.inj hl12
      subst ht21
      refine Zl ?_
      exact ⟨hE.sub ⟨rfl, rfl, rfl, rfl, trivial⟩, hM⟩
    ·skip
     rintro a w ⟨hE, hM⟩
     refine Zt hE rfl ?_ ?_
     ·intro hb22
      have hF13 := Zz hF13 hb22
      refine Zc (Ze hE Za (dl rfl) rfl ?_); intro a hE
      refine Zf ?_
      have ht23 := hx8 _ (Option.some.inj hF13).symm
      subst ht23
      have hr := Option.some.inj hF4
      subst hr
      exact wp_ret (WZ (ZL (ZL (WZ (ZL (ZL (Zy hE rfl (Zu hE rfl) ⟨_, rfl, rfl, hM.kept⟩)))))))
     ·intro hb22
      have hF13 := ZA hF13 hb22
      refine wp_skip (Yj (Zx (wp_region_lit (Zd hE Za (dl rfl) rfl ?_)))); intro a hE
      refine Zh hE Za (dl rfl) rfl rfl rfl ?_; intro a hE
      refine Ze hE Za (dl rfl) rfl ?_; intro a hE
      refine Zj (Zl ?_)
      exact ⟨_, (Option.some.inj hF13).symm, hE.sub ⟨rfl, rfl, rfl, trivial⟩, hM⟩
   ·intro hb10
    have hs7 := ZA hs7 hb10
    refine wp_exit (Zr (Zr (Yk ?_)))
    have ht24 := hx8 _ (Option.some.inj hs7).symm
    subst ht24
    refine Zl ?_
    exact ⟨(), rfl, hE.sub trivial, hM⟩
  ·skip
   rintro a w ⟨s5, ht, hE, hM⟩
   subst ht
   have hF4 := el_nx hF4
   refine Zx (Zc (Ze hE Za (dl rfl) rfl ?_)); intro a hE
   refine Zf ?_
   have hr := Option.some.inj hF4
   subst hr
   exact wp_ret (Zy hE rfl (Zu hE rfl) ⟨_, rfl, rfl, hM.kept⟩)
noncomputable def VB (p0 : GBlobs) (p1 : GBlobs) : Option (Bool) :=
 (WO p0.Keys p1.Keys).bind fun r5 => if (!r5) = true then (some false) else ((Vh p0.Data p1.Data).bind fun r8 => if (!r8) = true then (some false) else ((W6 p0.Counts p1.Counts).bind fun r11 => if (!r11) = true then (some false) else (some true)))
theorem c_laws_eqBlobs (w0 : World) (p0 : GBlobs) (v0_1 : Value) (hv0_1 : Ro w0 p0.Keys [v0_1]) (v0_2 : Value) (hv0_2 : Ro w0 p0.Data [v0_2]) (v0_3 : Value) (hv0_3 : Ro w0 p0.Counts [v0_3]) (p1 : GBlobs) (v1_1 : Value) (hv1_1 : Ro w0 p1.Keys [v1_1]) (v1_2 : Value) (hv1_2 : Ro w0 p1.Data [v1_2]) (v1_3 : Value) (hv1_3 : Ro w0 p1.Counts [v1_3]) (r : Bool) (hF : VB p0 p1 = some r) :
  Calls Try.prog 24 [(Value.agg (cat [[v0_1], [v0_2], [v0_3]]).toArray), (Value.agg (cat [[v1_1], [v1_2], [v1_3]]).toArray)].toArray w0 (fun en w' => ∃ v, en = .returned v ∧ (v = (vT r) ∧ Kept (Old w0) w0 w')) := by
 refine ZC (n := 23) Try.func24 rfl rfl (Nat.le_of_ble_eq_true rfl) rfl ?_
 intro a hE
 have hM := M.start w0
 unfold VB at hF
 refine Zc (Z5 (cs := cat [[v0_1], [v0_2], [v0_3]]) hE hM Za (dl rfl) rfl rfl ?_); intro b1 w a hM hE
 refine Z5 (cs := cat [[v1_1], [v1_2], [v1_3]]) hE hM Za (dl rfl) rfl rfl ?_; intro b3 w a hM hE
 refine Ze hE Za (dl rfl) rfl ?_; intro a hE
 refine Zf (wp_seq (Zc (Zo hE Za (dl rfl) rfl (VH) ?_))); intro a hE
 refine Zv (v := v0_1) hE Za (dl rfl) rfl ty53 rfl (At.cat (pre := []) (hM.rawAt (pre := [_])) cl0) ?_; intro a hE
 refine Zo hE Za (dl rfl) rfl (VH) ?_; intro a hE
 refine Zv (v := v1_1) hE Za (dl rfl) rfl ty53 rfl (At.cat (pre := []) (hM.rawAt (pre := [])) cl0) ?_; intro a hE
 obtain ⟨r5, e6, hF⟩ := bind_some hF
 refine Zw (vs := [v0_1, v1_1]) hE Za (dl rfl) rfl cb56 (c_laws_eqDigestS _ p0.Keys v0_1 (hM.rdo hv0_1) p1.Keys v1_1 (hM.rdo hv1_1) r5 e6) ?_
 rintro v w a ⟨rfl, hK⟩ hE
 have hM := hM.keep hK
 refine Un hE Za (dl rfl) rfl ?_; intro a hE
 refine Zf ?_
 refine Zt hE rfl ?_ ?_
 ·intro hb7
  have hF := Zz hF hb7
  refine Zc (Ze hE Za (dl rfl) rfl ?_); intro a hE
  refine Zf ?_
  have hr := Option.some.inj hF
  subst hr
  have hM := M.fst (l := []) hM
  exact wp_ret (ZL (Zy hE rfl (Zu hE rfl) ⟨_, rfl, rfl, hM.kept⟩))
 ·intro hb7
  have hF := ZA hF hb7
  refine wp_skip (Zx (wp_seq (Zc (Zo hE Za (dl rfl) rfl (UE) ?_)))); intro a hE
  refine Zv (v := v0_2) hE Za (dl rfl) rfl ty45 rfl (At.cat (pre := [[v0_1]]) (hM.rawAt (pre := [_])) (cl1 (n := 1) (m := 0) rfl cl0)) ?_; intro a hE
  refine Zo hE Za (dl rfl) rfl (UE) ?_; intro a hE
  refine Zv (v := v1_2) hE Za (dl rfl) rfl ty45 rfl (At.cat (pre := [[v1_1]]) (hM.rawAt (pre := [])) (cl1 (n := 1) (m := 0) rfl cl0)) ?_; intro a hE
  obtain ⟨r8, e9, hF⟩ := bind_some hF
  refine Zw (vs := [v0_2, v1_2]) hE Za (dl rfl) rfl cb57 (c_laws_eqByteSS _ p0.Data v0_2 (hM.rdo hv0_2) p1.Data v1_2 (hM.rdo hv1_2) r8 e9) ?_
  rintro v w a ⟨rfl, hK⟩ hE
  have hM := hM.keep hK
  refine Un hE Za (dl rfl) rfl ?_; intro a hE
  refine Zf ?_
  refine Zt hE rfl ?_ ?_
  ·intro hb10
   have hF := Zz hF hb10
   refine Zc (Ze hE Za (dl rfl) rfl ?_); intro a hE
   refine Zf ?_
   have hr := Option.some.inj hF
   subst hr
   have hM := M.fst (l := []) hM
   exact wp_ret (ZL (Zy hE rfl (Zu hE rfl) ⟨_, rfl, rfl, hM.kept⟩))
  ·intro hb10
   have hF := ZA hF hb10
   refine wp_skip (Zx (wp_seq (Zc (Zo hE Za (dl rfl) rfl (fd55_2) ?_)))); intro a hE
   refine Zv (v := v0_3) hE Za (dl rfl) rfl ty46 rfl (At.cat (pre := [[v0_1], [v0_2]]) (hM.rawAt (pre := [_])) (cl1 (n := 1) (m := 1) rfl (cl1 (n := 1) (m := 0) rfl cl0))) ?_; intro a hE
   refine Zo hE Za (dl rfl) rfl (fd55_2) ?_; intro a hE
   refine Zv (v := v1_3) hE Za (dl rfl) rfl ty46 rfl (At.cat (pre := [[v1_1], [v1_2]]) (hM.rawAt (pre := [])) (cl1 (n := 1) (m := 1) rfl (cl1 (n := 1) (m := 0) rfl cl0))) ?_; intro a hE
   obtain ⟨r11, e12, hF⟩ := bind_some hF
   refine Zw (vs := [v0_3, v1_3]) hE Za (dl rfl) rfl cb58 (c_laws_eqInt64S _ p0.Counts v0_3 (hM.rdo hv0_3) p1.Counts v1_3 (hM.rdo hv1_3) r11 e12) ?_
   rintro v w a ⟨rfl, hK⟩ hE
   have hM := hM.keep hK
   refine Un hE Za (dl rfl) rfl ?_; intro a hE
   refine Zf ?_
   refine Zt hE rfl ?_ ?_
   ·intro hb13
    have hF := Zz hF hb13
    refine Zc (Ze hE Za (dl rfl) rfl ?_); intro a hE
    refine Zf ?_
    have hr := Option.some.inj hF
    subst hr
    have hM := M.fst (l := []) hM
    exact wp_ret (ZL (Zy hE rfl (Zu hE rfl) ⟨_, rfl, rfl, hM.kept⟩))
   ·intro hb13
    have hF := ZA hF hb13
    refine wp_skip (Zx (Zc (Ze hE Za (dl rfl) rfl ?_))); intro a hE
    refine Zf ?_
    have hr := Option.some.inj hF
    subst hr
    have hM := M.fst (l := []) hM
    exact wp_ret (Zy hE rfl (Zu hE rfl) ⟨_, rfl, rfl, hM.kept⟩)
noncomputable def Wy (s4 : (List (Vector UInt8 32)) × Int × Int) (s12 : (List (Vector UInt8 32)) × Int × Int) : Option (Fl ((List (Vector UInt8 32)) × Int × Int) ((List (Vector UInt8 32)) × Int)) :=
 if (decide (s12.2.2 < 32)) = true then ((idx s12.1 s4.2.2).bind fun x17 => (ZN x17 s12.2.2).bind fun x21 => some (Fl.nx ((s12.1.set (s4.2.2).toNat (x17.setIfInBounds (s12.2.2).toNat (ZE s12.2.1))), wr (s12.2.1 + 1), wr (s12.2.2 + 1)))) else (some (Fl.ex (s12.1, s12.2.1)))
noncomputable def XK (s4 : (List (Vector UInt8 32)) × Int × Int) : Option (Fl ((List (Vector UInt8 32)) × Int × Int) ((List (Vector UInt8 32)) × Int)) :=
 if (decide (s4.2.2 < (s4.1.length : Int))) = true then ((ZG (Wy s4) (s4.1, s4.2.1, 0) : Option ((List (Vector UInt8 32)) × Int)).bind fun j9 => some (Fl.nx (j9.1, j9.2, wr (s4.2.2 + 1)))) else (some (Fl.ex (s4.1, s4.2.1)))
noncomputable def Wa (p0 : (List (Vector UInt8 32))) (p1 : Int) : Option ((List (Vector UInt8 32)) × Int) :=
 (ZG (XK) (p0, p1, 0) : Option ((List (Vector UInt8 32)) × Int)).bind fun j1 => some (j1.1, j1.2)
theorem c_laws_markDigestS (St : Nat → Prop) (W w0 : World) (its : List Item) (p0 : (List (Vector UInt8 32))) (v0_1 : Value) (p1 : Int) (hM : M St W w0 (own NoB (p0 : (List (Vector UInt8 32))) [v0_1] :: its)) (r : (List (Vector UInt8 32)) × Int) (hF : Wa p0 p1 = some r) :
  Calls Try.prog 59 [v0_1, (vI p1)].toArray w0 (fun en w' => ∃ v, en = .returned v ∧ (v = (vI r.2) ∧ M St W w' (own NoB (r.1 : (List (Vector UInt8 32))) [v0_1] :: its))) := by
 refine ZC (n := 27) Try.func59 rfl rfl (Nat.le_of_ble_eq_true rfl) rfl ?_
 intro a hE
 unfold Wa at hF
 refine Zc (Ze hE Za (dl rfl) rfl ?_); intro a hE
 refine Zf (wp_seq (Zc (Ze hE Za (dl rfl) rfl ?_))); intro a hE
 refine Zf ?_
 obtain ⟨j1, hl2, hF3⟩ := bind_some hF
 refine ZW (fun a w => Env 27 a [(0, v0_1), (1, (vI j1.2))] ∧ M St W w (own NoB (j1.1 : (List (Vector UInt8 32))) [v0_1] :: its)) ?_ ?_
 ·skip
  refine wp_block ?_
  refine ZM (fun (s4 : (List (Vector UInt8 32)) × Int × Int) a w => Env 27 a [(0, v0_1), (1, (vI s4.2.1)), (5, (vI s4.2.2))] ∧ M St W w (own NoB (s4.1 : (List (Vector UInt8 32))) [v0_1] :: its)) hl2 ⟨hE.sub ⟨rfl, rfl, rfl, trivial⟩, hM⟩ ?_
  rintro s4 a w ⟨hE, hM⟩ o7 hs5 hx6
  unfold XK at hs5
  refine wp_seq (Zc (Zd hE Za (dl rfl) rfl ?_)); intro a hE
  refine Zd hE Za (dl rfl) rfl ?_; intro a hE
  refine Z8 hE Za (dl rfl) rfl Try.underlying53 (hM.ro (pre := []) noB) ?_; intro a hE
  refine Zh hE Za (dl rfl) rfl rfl rfl ?_; intro a hE
  refine Zf ?_
  refine Zt hE rfl ?_ ?_
  ·intro hb8
   have hs5 := Zz hs5 hb8
   refine wp_skip (Zx (wp_seq (wp_block (Zc (Ze hE Za (dl rfl) rfl ?_))))); intro a hE
   refine Zf ?_
   obtain ⟨j9, hl10, hF11⟩ := bind_some hs5
   refine ZW (fun a w => Env 27 a [(0, v0_1), (1, (vI j9.2)), (5, (vI s4.2.2))] ∧ M St W w (own NoB (j9.1 : (List (Vector UInt8 32))) [v0_1] :: its)) ?_ ?_
   ·skip
    refine wp_block ?_
    refine ZM (fun (s12 : (List (Vector UInt8 32)) × Int × Int) a w => Env 27 a [(0, v0_1), (1, (vI s12.2.1)), (5, (vI s4.2.2)), (6, (vI s12.2.2))] ∧ M St W w (own NoB (s12.1 : (List (Vector UInt8 32))) [v0_1] :: its)) hl10 ⟨hE.sub ⟨rfl, rfl, rfl, rfl, trivial⟩, hM⟩ ?_
    rintro s12 a w ⟨hE, hM⟩ o15 hs13 hx14
    unfold Wy at hs13
    refine wp_seq (Zc (Zd hE Za (dl rfl) rfl ?_)); intro a hE
    refine Zh hE Za (dl rfl) rfl rfl rfl ?_; intro a hE
    refine Zf ?_
    refine Zt hE rfl ?_ ?_
    ·intro hb16
     have hs13 := Zz hs13 hb16
     refine wp_skip (Zx (wp_seq (wp_block (Zc (Zd hE Za (dl rfl) rfl ?_))))); intro a hE
     refine Zd hE Za (dl rfl) rfl ?_; intro a hE
     refine Zd hE Za (dl rfl) rfl ?_; intro a hE
     refine Zd hE Za (dl rfl) rfl ?_; intro a hE
     refine YI hE Za (dl rfl) rfl Try.underlying3 Try.underlying5 ?_; intro a hE
     rw [Yh] at hE
     obtain ⟨x17, e18, hs13⟩ := bind_some hs13
     have hi19 := ZQ e18
     refine ZK hE Za (dl rfl) rfl rfl Try.underlying53 Yi (hM.ro (pre := []) noB) hi19.1 ?_; intro a hE
     obtain ⟨x21, e22, hs13⟩ := bind_some hs13
     have hi20 := Zi e22
     refine Zm hE Za (dl rfl) rfl rfl Try.underlying25 ty5 hi20.1 ?_; intro a hE
     have hM := hM.toOsl (List.getElem?_eq_some_iff.1 hi19.2).1
     refine s_storeS (i := (s4.2.2).toNat) (k0 := 0 + (s12.2.2).toNat * 1) (seg := [(vB (ZE s12.2.1))]) (xo := x17) (xn := (x17.setIfInBounds (s12.2.2).toNat (ZE s12.2.1))) hE hM Za (opv_off rfl (by show _ = _ + _ * 32 + _; omega)) rfl rfl ty5 rfl (Flat.cell (ZE s12.2.1 : UInt8)) hi19.2 (fit_vec1 (x := ZE s12.2.1) hi20.1) (ZI (v := x17) (x := ZE s12.2.1) hi20.1) ?_; intro w a hM hE
     have hM := hM.toOwn noB
     refine Zf (wp_region_lit (Zd hE Za (dl rfl) rfl ?_)); intro a hE
     refine Zh hE Za (dl rfl) rfl rfl rfl ?_; intro a hE
     refine Ze hE Za (dl rfl) rfl ?_; intro a hE
     refine Zj (Yj (Zx (wp_region_lit (Zd hE Za (dl rfl) rfl ?_)))); intro a hE
     refine Zh hE Za (dl rfl) rfl rfl rfl ?_; intro a hE
     refine Ze hE Za (dl rfl) rfl ?_; intro a hE
     refine Zj (Zl ?_)
     exact ⟨_, (Option.some.inj hs13).symm, hE.sub ⟨rfl, rfl, rfl, rfl, trivial⟩, hM⟩
    ·intro hb16
     have hs13 := ZA hs13 hb16
     refine wp_exit (Zr (Zr (Yk ?_)))
     have ht23 := hx14 _ (Option.some.inj hs13).symm
     subst ht23
     refine Zl ?_
     exact ⟨hE.sub ⟨rfl, rfl, rfl, trivial⟩, hM⟩
   ·skip
    rintro a w ⟨hE, hM⟩
    refine Yj (Zx (wp_region_lit (Zd hE Za (dl rfl) rfl ?_))); intro a hE
    refine Zh hE Za (dl rfl) rfl rfl rfl ?_; intro a hE
    refine Ze hE Za (dl rfl) rfl ?_; intro a hE
    refine Zj (Zl ?_)
    exact ⟨_, (Option.some.inj hF11).symm, hE.sub ⟨rfl, rfl, rfl, trivial⟩, hM⟩
  ·intro hb8
   have hs5 := ZA hs5 hb8
   refine wp_exit (Zr (Zr (Yk ?_)))
   have ht24 := hx6 _ (Option.some.inj hs5).symm
   subst ht24
   refine Zl ?_
   exact ⟨hE.sub ⟨rfl, rfl, trivial⟩, hM⟩
 ·skip
  rintro a w ⟨hE, hM⟩
  refine Zx (Zc (Zd hE Za (dl rfl) rfl ?_)); intro a hE
  refine Ze hE Za (dl rfl) rfl ?_; intro a hE
  refine Zf ?_
  have hr := Option.some.inj hF3
  subst hr
  exact wp_ret (Zy hE (by rfl) (Zu hE rfl) ⟨_, rfl, rfl, hM⟩)
noncomputable def YD (s4 : (List UInt8) × Int × Int) : Option (Fl ((List UInt8) × Int × Int) ((List UInt8) × Int)) :=
 if (decide (s4.2.2 < (s4.1.length : Int))) = true then ((idx s4.1 s4.2.2).bind fun x9 => some (Fl.nx ((s4.1.set (s4.2.2).toNat (ZE s4.2.1)), wr (s4.2.1 + 1), wr (s4.2.2 + 1)))) else (some (Fl.ex (s4.1, s4.2.1)))
noncomputable def YM (p0 : (List UInt8)) (p1 : Int) : Option ((List UInt8) × Int) :=
 (ZG (YD) (p0, p1, 0) : Option ((List UInt8) × Int)).bind fun j1 => some (j1.1, j1.2)
theorem c_laws_markByteS (St : Nat → Prop) (W w0 : World) (its : List Item) (p0 : (List UInt8)) (v0_1 : Value) (p1 : Int) (hM : M St W w0 (own NoB (p0 : (List UInt8)) [v0_1] :: its)) (r : (List UInt8) × Int) (hF : YM p0 p1 = some r) :
  Calls Try.prog 26 [v0_1, (vI p1)].toArray w0 (fun en w' => ∃ v, en = .returned v ∧ (v = (vI r.2) ∧ M St W w' (own NoB (r.1 : (List UInt8)) [v0_1] :: its))) := by
 refine ZC (n := 20) Try.func26 rfl rfl (Nat.le_of_ble_eq_true rfl) rfl ?_
 intro a hE
 unfold YM at hF
 refine Zc (Ze hE Za (dl rfl) rfl ?_); intro a hE
 refine Zf (wp_seq (Zc (Ze hE Za (dl rfl) rfl ?_))); intro a hE
 refine Zf ?_
 obtain ⟨j1, hl2, hF3⟩ := bind_some hF
 refine ZW (fun a w => Env 20 a [(0, v0_1), (1, (vI j1.2))] ∧ M St W w (own NoB (j1.1 : (List UInt8)) [v0_1] :: its)) ?_ ?_
 ·skip
  refine wp_block ?_
  refine ZM (fun (s4 : (List UInt8) × Int × Int) a w => Env 20 a [(0, v0_1), (1, (vI s4.2.1)), (5, (vI s4.2.2))] ∧ M St W w (own NoB (s4.1 : (List UInt8)) [v0_1] :: its)) hl2 ⟨hE.sub ⟨rfl, rfl, rfl, trivial⟩, hM⟩ ?_
  rintro s4 a w ⟨hE, hM⟩ o7 hs5 hx6
  unfold YD at hs5
  refine wp_seq (Zc (Zd hE Za (dl rfl) rfl ?_)); intro a hE
  refine Zd hE Za (dl rfl) rfl ?_; intro a hE
  refine Z8 hE Za (dl rfl) rfl Try.underlying50 (hM.ro (pre := []) noB) ?_; intro a hE
  refine Zh hE Za (dl rfl) rfl rfl rfl ?_; intro a hE
  refine Zf ?_
  refine Zt hE rfl ?_ ?_
  ·intro hb8
   have hs5 := Zz hs5 hb8
   refine wp_skip (Zx (wp_seq (wp_block (Zc (Zd hE Za (dl rfl) rfl ?_))))); intro a hE
   refine Zd hE Za (dl rfl) rfl ?_; intro a hE
   refine Zd hE Za (dl rfl) rfl ?_; intro a hE
   refine YI hE Za (dl rfl) rfl Try.underlying3 Try.underlying5 ?_; intro a hE
   rw [Yh] at hE
   obtain ⟨x9, e10, hs5⟩ := bind_some hs5
   have hi11 := ZQ e10
   refine ZK hE Za (dl rfl) rfl rfl Try.underlying50 ty5 (hM.ro (pre := []) noB) hi11.1 ?_; intro a hE
   have hM := hM.toOsl (List.getElem?_eq_some_iff.1 hi11.2).1
   refine s_storeS (i := (s4.2.2).toNat) (k0 := 0) (seg := [(vB (ZE s4.2.1))]) (xo := x9) (xn := ZE s4.2.1) hE hM Za rfl rfl rfl ty5 rfl (Flat.cell (ZE s4.2.1 : UInt8)) hi11.2 (fit_num (m := 1) rfl (by decide)) (Zq rfl) ?_; intro w a hM hE
   have hM := hM.toOwn noB
   refine Zf (wp_region_lit (Zd hE Za (dl rfl) rfl ?_)); intro a hE
   refine Zh hE Za (dl rfl) rfl rfl rfl ?_; intro a hE
   refine Ze hE Za (dl rfl) rfl ?_; intro a hE
   refine Zj (Yj (Zx (wp_region_lit (Zd hE Za (dl rfl) rfl ?_)))); intro a hE
   refine Zh hE Za (dl rfl) rfl rfl rfl ?_; intro a hE
   refine Ze hE Za (dl rfl) rfl ?_; intro a hE
   refine Zj (Zl ?_)
   exact ⟨_, (Option.some.inj hs5).symm, hE.sub ⟨rfl, rfl, rfl, trivial⟩, hM⟩
  ·intro hb8
   have hs5 := ZA hs5 hb8
   refine wp_exit (Zr (Zr (Yk ?_)))
   have ht12 := hx6 _ (Option.some.inj hs5).symm
   subst ht12
   refine Zl ?_
   exact ⟨hE.sub ⟨rfl, rfl, trivial⟩, hM⟩
 ·skip
  rintro a w ⟨hE, hM⟩
  refine Zx (Zc (Zd hE Za (dl rfl) rfl ?_)); intro a hE
  refine Ze hE Za (dl rfl) rfl ?_; intro a hE
  refine Zf ?_
  have hr := Option.some.inj hF3
  subst hr
  exact wp_ret (Zy hE (by rfl) (Zu hE rfl) ⟨_, rfl, rfl, hM⟩)
noncomputable def X6 (s4 : (List (List UInt8)) × Int × Int) : Option (Fl ((List (List UInt8)) × Int × Int) ((List (List UInt8)) × Int)) :=
 if (decide (s4.2.2 < (s4.1.length : Int))) = true then ((idx s4.1 s4.2.2).bind fun x9 => (YM x9 s4.2.1).bind fun r16 => some (Fl.nx ((s4.1.set (s4.2.2).toNat r16.1), r16.2, wr (s4.2.2 + 1)))) else (some (Fl.ex (s4.1, s4.2.1)))
noncomputable def Wk (p0 : (List (List UInt8))) (p1 : Int) : Option ((List (List UInt8)) × Int) :=
 (ZG (X6) (p0, p1, 0) : Option ((List (List UInt8)) × Int)).bind fun j1 => some (j1.1, j1.2)
theorem c_laws_markByteSS (St : Nat → Prop) (W w0 : World) (its : List Item) (p0 : (List (List UInt8))) (v0_1 : Value) (p1 : Int) (hM : M St W w0 (own NoB (p0 : (List (List UInt8))) [v0_1] :: its)) (r : (List (List UInt8)) × Int) (hF : Wk p0 p1 = some r) :
  Calls Try.prog 60 [v0_1, (vI p1)].toArray w0 (fun en w' => ∃ v, en = .returned v ∧ (v = (vI r.2) ∧ M St W w' (own NoB (r.1 : (List (List UInt8))) [v0_1] :: its))) := by
 refine ZC (n := 19) Try.func60 rfl rfl (Nat.le_of_ble_eq_true rfl) rfl ?_
 intro a hE
 unfold Wk at hF
 refine Zc (Ze hE Za (dl rfl) rfl ?_); intro a hE
 refine Zf (wp_seq (Zc (Ze hE Za (dl rfl) rfl ?_))); intro a hE
 refine Zf ?_
 obtain ⟨j1, hl2, hF3⟩ := bind_some hF
 refine ZW (fun a w => Env 19 a [(0, v0_1), (1, (vI j1.2))] ∧ M St W w (own NoB (j1.1 : (List (List UInt8))) [v0_1] :: its)) ?_ ?_
 ·skip
  refine wp_block ?_
  refine ZM (fun (s4 : (List (List UInt8)) × Int × Int) a w => Env 19 a [(0, v0_1), (1, (vI s4.2.1)), (5, (vI s4.2.2))] ∧ M St W w (own NoB (s4.1 : (List (List UInt8))) [v0_1] :: its)) hl2 ⟨hE.sub ⟨rfl, rfl, rfl, trivial⟩, hM⟩ ?_
  rintro s4 a w ⟨hE, hM⟩ o7 hs5 hx6
  unfold X6 at hs5
  refine wp_seq (Zc (Zd hE Za (dl rfl) rfl ?_)); intro a hE
  refine Zd hE Za (dl rfl) rfl ?_; intro a hE
  refine Z8 hE Za (dl rfl) rfl Try.underlying45 (hM.ro (pre := []) noB) ?_; intro a hE
  refine Zh hE Za (dl rfl) rfl rfl rfl ?_; intro a hE
  refine Zf ?_
  refine Zt hE rfl ?_ ?_
  ·intro hb8
   have hs5 := Zz hs5 hb8
   refine wp_skip (Zx (wp_seq (wp_block (wp_region_lit (Zd hE Za (dl rfl) rfl ?_))))); intro a hE
   refine Zd hE Za (dl rfl) rfl ?_; intro a hE
   obtain ⟨x9, e10, hs5⟩ := bind_some hs5
   have hi11 := ZQ e10
   refine ZK hE Za (dl rfl) rfl rfl Try.underlying45 Vz (hM.ro (pre := []) noB) hi11.1 ?_; intro a hE
   have hM := (hM.toOsl (List.getElem?_eq_some_iff.1 hi11.2).1).open1 noB hi11.2
   obtain ⟨cs12, hM, hA13⟩ := hM
   obtain ⟨_, hx, _⟩ := hM.head
   obtain ⟨u14, rfl⟩ := Vo hx
   refine Zv (v := u14) hE Za (dl rfl) rfl Vz rfl hA13 ?_; intro a hE
   refine Zd hE Za (dl rfl) rfl ?_; intro a hE
   obtain ⟨r16, e17, hs5⟩ := bind_some hs5
   refine Zw (vs := [u14, (vI s4.2.1)]) hE Za (dl rfl) rfl cb26 (c_laws_markByteS _ _ _ _ x9 u14 s4.2.1 hM r16 e17) ?_
   rintro v w a ⟨rfl, hM⟩ hE
   have hM := hM.pull (pre := [_])
   have hM := hM.pull (pre := [_])
   have hM := (hM.close1 noB).toOwn noB
   refine Ze hE Za (dl rfl) rfl ?_; intro a hE
   refine Zj (Yj (Zx (wp_region_lit (Zd hE Za (dl rfl) rfl ?_)))); intro a hE
   refine Zh hE Za (dl rfl) rfl rfl rfl ?_; intro a hE
   refine Ze hE Za (dl rfl) rfl ?_; intro a hE
   refine Zj (Zl ?_)
   exact ⟨_, (Option.some.inj hs5).symm, hE.sub ⟨rfl, rfl, rfl, trivial⟩, hM⟩
  ·intro hb8
   have hs5 := ZA hs5 hb8
   refine wp_exit (Zr (Zr (Yk ?_)))
   have ht18 := hx6 _ (Option.some.inj hs5).symm
   subst ht18
   refine Zl ?_
   exact ⟨hE.sub ⟨rfl, rfl, trivial⟩, hM⟩
 ·skip
  rintro a w ⟨hE, hM⟩
  refine Zx (Zc (Zd hE Za (dl rfl) rfl ?_)); intro a hE
  refine Ze hE Za (dl rfl) rfl ?_; intro a hE
  refine Zf ?_
  have hr := Option.some.inj hF3
  subst hr
  exact wp_ret (Zy hE (by rfl) (Zu hE rfl) ⟨_, rfl, rfl, hM⟩)
noncomputable def X1 (s4 : (List Int) × Int × Int) : Option (Fl ((List Int) × Int × Int) ((List Int) × Int)) :=
 if (decide (s4.2.2 < (s4.1.length : Int))) = true then ((idx s4.1 s4.2.2).bind fun x9 => some (Fl.nx ((s4.1.set (s4.2.2).toNat s4.2.1), wr (s4.2.1 + 1), wr (s4.2.2 + 1)))) else (some (Fl.ex (s4.1, s4.2.1)))
noncomputable def Wq (p0 : (List Int)) (p1 : Int) : Option ((List Int) × Int) :=
 (ZG (X1) (p0, p1, 0) : Option ((List Int) × Int)).bind fun j1 => some (j1.1, j1.2)
theorem c_laws_markInt64S (St : Nat → Prop) (W w0 : World) (its : List Item) (p0 : (List Int)) (v0_1 : Value) (p1 : Int) (hM : M St W w0 (own NoB (p0 : (List Int)) [v0_1] :: its)) (r : (List Int) × Int) (hF : Wq p0 p1 = some r) :
  Calls Try.prog 61 [v0_1, (vI p1)].toArray w0 (fun en w' => ∃ v, en = .returned v ∧ (v = (vI r.2) ∧ M St W w' (own NoB (r.1 : (List Int)) [v0_1] :: its))) := by
 refine ZC (n := 19) Try.func61 rfl rfl (Nat.le_of_ble_eq_true rfl) rfl ?_
 intro a hE
 unfold Wq at hF
 refine Zc (Ze hE Za (dl rfl) rfl ?_); intro a hE
 refine Zf (wp_seq (Zc (Ze hE Za (dl rfl) rfl ?_))); intro a hE
 refine Zf ?_
 obtain ⟨j1, hl2, hF3⟩ := bind_some hF
 refine ZW (fun a w => Env 19 a [(0, v0_1), (1, (vI j1.2))] ∧ M St W w (own NoB (j1.1 : (List Int)) [v0_1] :: its)) ?_ ?_
 ·skip
  refine wp_block ?_
  refine ZM (fun (s4 : (List Int) × Int × Int) a w => Env 19 a [(0, v0_1), (1, (vI s4.2.1)), (5, (vI s4.2.2))] ∧ M St W w (own NoB (s4.1 : (List Int)) [v0_1] :: its)) hl2 ⟨hE.sub ⟨rfl, rfl, rfl, trivial⟩, hM⟩ ?_
  rintro s4 a w ⟨hE, hM⟩ o7 hs5 hx6
  unfold X1 at hs5
  refine wp_seq (Zc (Zd hE Za (dl rfl) rfl ?_)); intro a hE
  refine Zd hE Za (dl rfl) rfl ?_; intro a hE
  refine Z8 hE Za (dl rfl) rfl Try.underlying46 (hM.ro (pre := []) noB) ?_; intro a hE
  refine Zh hE Za (dl rfl) rfl rfl rfl ?_; intro a hE
  refine Zf ?_
  refine Zt hE rfl ?_ ?_
  ·intro hb8
   have hs5 := Zz hs5 hb8
   refine wp_skip (Zx (wp_seq (wp_block (Zc (Zd hE Za (dl rfl) rfl ?_))))); intro a hE
   refine Zd hE Za (dl rfl) rfl ?_; intro a hE
   refine Zd hE Za (dl rfl) rfl ?_; intro a hE
   obtain ⟨x9, e10, hs5⟩ := bind_some hs5
   have hi11 := ZQ e10
   refine ZK hE Za (dl rfl) rfl rfl Try.underlying46 ty2 (hM.ro (pre := []) noB) hi11.1 ?_; intro a hE
   have hM := hM.toOsl (List.getElem?_eq_some_iff.1 hi11.2).1
   refine s_storeS (i := (s4.2.2).toNat) (k0 := 0) (seg := [(vI s4.2.1)]) (xo := x9) (xn := s4.2.1) hE hM Za rfl rfl rfl ty2 rfl (Flat.cell (s4.2.1 : Int)) hi11.2 (fit_num (m := 1) rfl (by decide)) (Zq rfl) ?_; intro w a hM hE
   have hM := hM.toOwn noB
   refine Zf (wp_region_lit (Zd hE Za (dl rfl) rfl ?_)); intro a hE
   refine Zh hE Za (dl rfl) rfl rfl rfl ?_; intro a hE
   refine Ze hE Za (dl rfl) rfl ?_; intro a hE
   refine Zj (Yj (Zx (wp_region_lit (Zd hE Za (dl rfl) rfl ?_)))); intro a hE
   refine Zh hE Za (dl rfl) rfl rfl rfl ?_; intro a hE
   refine Ze hE Za (dl rfl) rfl ?_; intro a hE
   refine Zj (Zl ?_)
   exact ⟨_, (Option.some.inj hs5).symm, hE.sub ⟨rfl, rfl, rfl, trivial⟩, hM⟩
  ·intro hb8
   have hs5 := ZA hs5 hb8
   refine wp_exit (Zr (Zr (Yk ?_)))
   have ht12 := hx6 _ (Option.some.inj hs5).symm
   subst ht12
   refine Zl ?_
   exact ⟨hE.sub ⟨rfl, rfl, trivial⟩, hM⟩
 ·skip
  rintro a w ⟨hE, hM⟩
  refine Zx (Zc (Zd hE Za (dl rfl) rfl ?_)); intro a hE
  refine Ze hE Za (dl rfl) rfl ?_; intro a hE
  refine Zf ?_
  have hr := Option.some.inj hF3
  subst hr
  exact wp_ret (Zy hE (by rfl) (Zu hE rfl) ⟨_, rfl, rfl, hM⟩)
noncomputable def WN (p0 : GBlobs) (p1 : Int) : Option (GBlobs × Int) :=
 (Wa p0.Keys p1).bind fun r3 => (Wk p0.Data r3.2).bind fun r5 => (Wq p0.Counts r5.2).bind fun r7 => some ((⟨r3.1, r5.1, r7.1⟩ : GBlobs), r7.2)
theorem c_laws_markBlobs (St : Nat → Prop) (W w0 : World) (its : List Item) (p0 : GBlobs) (v0_1 : Value) (v0_2 : Value) (v0_3 : Value) (p1 : Int) (hM : M St W w0 (own NoB (p0.Keys : (List (Vector UInt8 32))) [v0_1] :: own NoB (p0.Data : (List (List UInt8))) [v0_2] :: own NoB (p0.Counts : (List Int)) [v0_3] :: its)) (r : GBlobs × Int) (hF : WN p0 p1 = some r) :
  Calls Try.prog 25 [(Value.agg (cat [[v0_1], [v0_2], [v0_3]]).toArray), (vI p1)].toArray w0 (fun en w' => ∃ v, en = .returned v ∧ (v = (vI r.2) ∧ M St W w' (own NoB (r.1.Keys : (List (Vector UInt8 32))) [v0_1] :: own NoB (r.1.Data : (List (List UInt8))) [v0_2] :: own NoB (r.1.Counts : (List Int)) [v0_3] :: its))) := by
 refine ZC (n := 18) Try.func25 rfl rfl (Nat.le_of_ble_eq_true rfl) rfl ?_
 intro a hE
 unfold WN at hF
 refine Zc (Z5 (cs := cat [[v0_1], [v0_2], [v0_3]]) hE hM Za (dl rfl) rfl rfl ?_); intro b1 w a hM hE
 refine Ze hE Za (dl rfl) rfl ?_; intro a hE
 refine Zf (Zc (Zo hE Za (dl rfl) rfl (VH) ?_)); intro a hE
 refine Zv (v := v0_1) hE Za (dl rfl) rfl ty53 rfl (At.cat (pre := []) (hM.rawAt (pre := [])) cl0) ?_; intro a hE
 refine Zd hE Za (dl rfl) rfl ?_; intro a hE
 have hM := hM.pull (pre := [_])
 obtain ⟨r3, e4, hF⟩ := bind_some hF
 refine Zw (vs := [v0_1, (vI p1)]) hE Za (dl rfl) rfl cb59 (c_laws_markDigestS _ _ _ _ p0.Keys v0_1 p1 hM r3 e4) ?_
 rintro v w a ⟨rfl, hM⟩ hE
 refine Ze hE Za (dl rfl) rfl ?_; intro a hE
 refine Zf (Zc (Zo hE Za (dl rfl) rfl (UE) ?_)); intro a hE
 refine Zv (v := v0_2) hE Za (dl rfl) rfl ty45 rfl (At.cat (pre := [[v0_1]]) (hM.rawAt (pre := [_])) (cl1 (n := 1) (m := 0) rfl cl0)) ?_; intro a hE
 refine Zd hE Za (dl rfl) rfl ?_; intro a hE
 have hM := hM.pull (pre := [_, _])
 obtain ⟨r5, e6, hF⟩ := bind_some hF
 refine Zw (vs := [v0_2, (vI r3.2)]) hE Za (dl rfl) rfl cb60 (c_laws_markByteSS _ _ _ _ p0.Data v0_2 r3.2 hM r5 e6) ?_
 rintro v w a ⟨rfl, hM⟩ hE
 refine Ze hE Za (dl rfl) rfl ?_; intro a hE
 refine Zf (Zc (Zo hE Za (dl rfl) rfl (fd55_2) ?_)); intro a hE
 refine Zv (v := v0_3) hE Za (dl rfl) rfl ty46 rfl (At.cat (pre := [[v0_1], [v0_2]]) (hM.rawAt (pre := [_, _])) (cl1 (n := 1) (m := 1) rfl (cl1 (n := 1) (m := 0) rfl cl0))) ?_; intro a hE
 refine Zd hE Za (dl rfl) rfl ?_; intro a hE
 have hM := hM.pull (pre := [_, _, _])
 obtain ⟨r7, e8, hF⟩ := bind_some hF
 refine Zw (vs := [v0_3, (vI r5.2)]) hE Za (dl rfl) rfl cb61 (c_laws_markInt64S _ _ _ _ p0.Counts v0_3 r5.2 hM r7 e8) ?_
 rintro v w a ⟨rfl, hM⟩ hE
 refine Ze hE Za (dl rfl) rfl ?_; intro a hE
 refine Zf (Zc (Zd hE Za (dl rfl) rfl ?_)); intro a hE
 refine Ze hE Za (dl rfl) rfl ?_; intro a hE
 refine Zf ?_
 have hr := Option.some.inj hF
 subst hr
 have hM := hM.pull (pre := [_])
 have hM := hM.pull (pre := [_, _])
 have hM := (hM.pull (pre := [_, _, _])).drop
 exact wp_ret (Zy hE (by rfl) (Zu hE rfl) ⟨_, rfl, rfl, hM⟩)
noncomputable def Wm (p0 : (List UInt8)) (s5 : Int × Int) : Option (Fl (Int × Int) (Fl Int Int)) :=
 if (decide (s5.2 < (p0.length : Int))) = true then ((idx p0 s5.2).bind fun x10 => if (x10 != (ZE s5.1)) = true then (some (Fl.ex (Fl.ex (-1)))) else (some (Fl.nx (wr (s5.1 + 1), wr (s5.2 + 1))))) else (some (Fl.ex (Fl.nx s5.1)))
noncomputable def XQ (p0 : (List UInt8)) (p1 : Int) : Option (Int) :=
 (ZG (Wm p0) (p1, 0) : Option (Fl Int Int)).bind fun j1 => j1.el (fun s4 => some s4) (fun r => some r)
theorem c_laws_heldByteS (w0 : World) (p0 : (List UInt8)) (v0_1 : Value) (hv0_1 : Ro w0 p0 [v0_1]) (p1 : Int) (r : Int) (hF : XQ p0 p1 = some r) :
  Calls Try.prog 27 [v0_1, (vI p1)].toArray w0 (fun en w' => ∃ v, en = .returned v ∧ (v = (vI r) ∧ Kept (Old w0) w0 w')) := by
 refine ZC (n := 22) Try.func27 rfl rfl (Nat.le_of_ble_eq_true rfl) rfl ?_
 intro a hE
 have hM := M.start w0
 unfold XQ at hF
 refine Zc (Ze hE Za (dl rfl) rfl ?_); intro a hE
 refine Zf (wp_seq (Zc (Ze hE Za (dl rfl) rfl ?_))); intro a hE
 refine Zf ?_
 obtain ⟨j1, hl2, hF3⟩ := bind_some hF
 refine ZW (fun a w => ∃ s4 : Int, j1 = Fl.nx s4 ∧ Env 22 a [(1, (vI s4))] ∧ M (Old w0) w0 w []) ?_ ?_
 ·skip
  refine wp_block ?_
  refine ZM (fun (s5 : Int × Int) a w => Env 22 a [(0, v0_1), (1, (vI s5.1)), (5, (vI s5.2))] ∧ M (Old w0) w0 w []) hl2 ⟨hE.sub ⟨rfl, rfl, rfl, trivial⟩, hM⟩ ?_
  rintro s5 a w ⟨hE, hM⟩ o8 hs6 hx7
  unfold Wm at hs6
  refine wp_seq (Zc (Zd hE Za (dl rfl) rfl ?_)); intro a hE
  refine Zd hE Za (dl rfl) rfl ?_; intro a hE
  refine Z8 hE Za (dl rfl) rfl Try.underlying50 (hM.rd hv0_1) ?_; intro a hE
  refine Zh hE Za (dl rfl) rfl rfl rfl ?_; intro a hE
  refine Zf ?_
  refine Zt hE rfl ?_ ?_
  ·intro hb9
   have hs6 := Zz hs6 hb9
   refine wp_skip (Zx (wp_seq (wp_block (wp_seq (Zc (Zd hE Za (dl rfl) rfl ?_)))))); intro a hE
   refine Zd hE Za (dl rfl) rfl ?_; intro a hE
   obtain ⟨x10, e11, hs6⟩ := bind_some hs6
   have hi12 := ZQ e11
   refine ZK hE Za (dl rfl) rfl rfl Try.underlying50 ty5 (hM.rd hv0_1) hi12.1 ?_; intro a hE
   refine Zv (v := (vB x10)) hE Za (dl rfl) rfl ty5 rfl (Yr (hM.rd hv0_1) hi12.2) ?_; intro a hE
   refine Zd hE Za (dl rfl) rfl ?_; intro a hE
   refine YI hE Za (dl rfl) rfl Try.underlying3 Try.underlying5 ?_; intro a hE
   rw [Yh] at hE
   refine Zh hE Za (dl rfl) rfl rfl (bB_neq x10 (ZE s5.1)) ?_; intro a hE
   refine Zf ?_
   refine Zt hE rfl ?_ ?_
   ·intro hb13
    have hs6 := Zz hs6 hb13
    refine Zc (Ze hE Za (dl rfl) rfl ?_); intro a hE
    refine Zf ?_
    have ht14 := hx7 _ (Option.some.inj hs6).symm
    subst ht14
    have hr := Option.some.inj hF3
    subst hr
    exact wp_ret (ZL (WZ (ZL (ZL (WZ (ZL (ZL (Zy hE rfl (Zu hE rfl) ⟨_, rfl, rfl, hM.kept⟩))))))))
   ·intro hb13
    have hs6 := ZA hs6 hb13
    refine wp_skip (Zx (wp_region_lit (Zd hE Za (dl rfl) rfl ?_))); intro a hE
    refine Zh hE Za (dl rfl) rfl rfl rfl ?_; intro a hE
    refine Ze hE Za (dl rfl) rfl ?_; intro a hE
    refine Zj (Yj (Zx (wp_region_lit (Zd hE Za (dl rfl) rfl ?_)))); intro a hE
    refine Zh hE Za (dl rfl) rfl rfl rfl ?_; intro a hE
    refine Ze hE Za (dl rfl) rfl ?_; intro a hE
    refine Zj (Zl ?_)
    exact ⟨_, (Option.some.inj hs6).symm, hE.sub ⟨rfl, rfl, rfl, trivial⟩, hM⟩
  ·intro hb9
   have hs6 := ZA hs6 hb9
   refine wp_exit (Zr (Zr (Yk ?_)))
   have ht15 := hx7 _ (Option.some.inj hs6).symm
   subst ht15
   refine Zl ?_
   exact ⟨s5.1, rfl, hE.sub ⟨rfl, trivial⟩, hM⟩
 ·skip
  rintro a w ⟨s4, ht, hE, hM⟩
  subst ht
  have hF3 := el_nx hF3
  refine Zx (Zc (Zd hE Za (dl rfl) rfl ?_)); intro a hE
  refine Ze hE Za (dl rfl) rfl ?_; intro a hE
  refine Zf ?_
  have hr := Option.some.inj hF3
  subst hr
  exact wp_ret (Zy hE rfl (Zu hE rfl) ⟨_, rfl, rfl, hM.kept⟩)
noncomputable def Wb (p0 : GBlobs) (p1 : (Vector UInt8 32)) : Option (Bool) :=
 (UG p0 1048576).bind fun r5 => if (decide (r5 < 0)) = true then (some true) else (((Xl p0).bind fun r14 => (YH p1).bind fun r20 => (VG r14 r20).bind fun r22 => some (r22.1, r22.2) : Option ((List UInt8) × Int)).bind fun j8 => (Xl p0).bind fun r29 => ((YH p1).bind fun r42 => (WK r29 r42).bind fun r44 => some (r44.2, r44.1) : Option (Int × (List UInt8))).bind fun j36 => ((YV j36.2 j8.1).bind fun r51 => if (!r51) = true then (some true) else (some (j36.1 != j8.2)) : Option (Bool)).bind fun j48 => if j48 = true then (some false) else (((Xl p0).bind fun r61 => (VB r29 r61).bind fun r70 => some (!r70) : Option (Bool)).bind fun j57 => if j57 = true then (some false) else ((WN r29 1).bind fun r74 => (if (decide (r74.2 < 0)) = true then (some true) else ((YV j36.2 j8.1).bind fun r81 => if (!r81) = true then (some true) else (some (j36.1 != j8.2))) : Option (Bool)).bind fun j76 => if j76 = true then (some false) else ((YM j36.2 1).bind fun r87 => (XQ r87.1 1).bind fun r89 => if (decide (r89 < 0)) = true then (some false) else (if (r89 != r87.2) = true then (some false) else (((Xl p0).bind fun r99 => (YH p1).bind fun r105 => (WK r99 r105).bind fun r107 => some (r107.1, r107.2) : Option ((List UInt8) × Int)).bind fun j93 => ((YV j93.1 j8.1).bind fun r117 => if (!r117) = true then (some true) else (some (j93.2 != j8.2)) : Option (Bool)).bind fun j114 => if j114 = true then (some false) else ((XQ r87.1 1).bind fun r123 => if (decide (r123 < 0)) = true then (some false) else (if (r123 != r87.2) = true then (some false) else (some true)))))))))
end Go.Proofs.Ytifdeoikcebbjaa
