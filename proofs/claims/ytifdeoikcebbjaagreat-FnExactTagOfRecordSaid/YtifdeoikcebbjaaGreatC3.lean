/- The walk of what the law reaches: contracts of functions. -/
import Derived.Test.YtifdeoikcebbjaaGreatC2
set_option linter.unusedVariables false
set_option linter.unusedSimpArgs false
set_option maxRecDepth 20000
set_option maxHeartbeats 400000
namespace Go.Proofs.YtifdeoikcebbjaaGreat
open Go
theorem c_impl_houseCipher (w0 : World) (p0 : Int) (r : GCipher) (hF : Wd p0 = some r) :
  Calls Tryz.prog 186 [(vI p0)].toArray w0 (fun en w' => ∃ v, en = .returned v ∧ (v = (Value.agg (Flat.enc r).toArray) ∧ Kept (Old w0) w0 w')) := by
 refine ZA (n := 61) Tryz.func186 rfl rfl (Nat.le_of_ble_eq_true rfl) rfl ?_
 intro a hE
 have hM := M.start w0
 unfold Wd at hF
 refine Zc (ZE hE hM Za (dl rfl) WL ?_); intro b1 w a hM hE
 refine Zf (Zc (Zd hE Za (dl rfl) rfl ?_)); intro a hE
 refine s_buildStr (parts := [(0, .const (vI 285)), (4, .tmp 9)]) (vs := [(0, (vI 285)), (4, (vI p0))]) (cs := cat [[(vI 285)], Flat.enc (Vector.replicate 256 (0 : UInt8)), Flat.enc (Vector.replicate 4 (Vector.replicate 4 (0 : UInt8))), Flat.enc (Vector.replicate 16 (0 : UInt8)), [(vI p0)]]) hE Za (dl rfl) rfl rfl WL pl173 (W6 (pre := []) (seg := [(vI 0)]) (seg' := [(vI 285)]) (post := [Flat.enc (Vector.replicate 256 (0 : UInt8)), Flat.enc (Vector.replicate 4 (Vector.replicate 4 (0 : UInt8))), Flat.enc (Vector.replicate 16 (0 : UInt8)), [(vI 0)]]) rfl cl0 rfl rfl rfl (W6 (pre := [[(vI 285)], Flat.enc (Vector.replicate 256 (0 : UInt8)), Flat.enc (Vector.replicate 4 (Vector.replicate 4 (0 : UInt8))), Flat.enc (Vector.replicate 16 (0 : UInt8))]) (seg := [(vI 0)]) (seg' := [(vI p0)]) (post := []) rfl (cl1 (n := 1) (m := 288) rfl (cl1 (n := 256) (m := 32) (Flat.len _) (cl1 (n := 16) (m := 16) (Flat.len _) (cl1 (n := 16) (m := 0) (Flat.len _) cl0)))) rfl rfl rfl fill_nil)) ?_; intro a hE
 refine ZE hE hM Za (dl rfl) WL ?_; intro b3 w a hM hE
 refine Zp (seg := cat [[(vI 285)], Flat.enc (Vector.replicate 256 (0 : UInt8)), Flat.enc (Vector.replicate 4 (Vector.replicate 4 (0 : UInt8))), Flat.enc (Vector.replicate 16 (0 : UInt8)), [(vI p0)]]) (cs' := cat [[(vI 285)], Flat.enc (Vector.replicate 256 (0 : UInt8)), Flat.enc (Vector.replicate 4 (Vector.replicate 4 (0 : UInt8))), Flat.enc (Vector.replicate 16 (0 : UInt8)), [(vI p0)]]) hE hM Za rfl rfl rfl WL (ZB (cl1 (n := 1) (m := 289) rfl (cl1 (n := 256) (m := 33) (Flat.len _) (cl1 (n := 16) (m := 17) (Flat.len _) (cl1 (n := 16) (m := 1) (Flat.len _) (cl1 (n := 1) (m := 0) rfl cl0)))))) (Nat.le_of_eq ((Nat.zero_add _).trans (Eq.trans (ZB (cl1 (n := 1) (m := 289) rfl (cl1 (n := 256) (m := 33) (Flat.len _) (cl1 (n := 16) (m := 17) (Flat.len _) (cl1 (n := 16) (m := 1) (Flat.len _) (cl1 (n := 1) (m := 0) rfl cl0)))))) (Eq.symm (ZB (cl1 (n := 1) (m := 289) rfl (cl1 (n := 256) (m := 33) (Flat.len _) (cl1 (n := 16) (m := 17) (Flat.len _) (cl1 (n := 16) (m := 1) (Flat.len _) (cl1 (n := 1) (m := 0) rfl cl0)))))))))) (WH (cc1 (Flat.cell (285 : Int)) (cc1 (Flat.cell _) (cc1 (Flat.cell _) (cc1 (Flat.cell _) (cc1 (Flat.cell (p0 : Int)) cc0)))))) (Zl (Eq.trans (ZB (cl1 (n := 1) (m := 289) rfl (cl1 (n := 256) (m := 33) (Flat.len _) (cl1 (n := 16) (m := 17) (Flat.len _) (cl1 (n := 16) (m := 1) (Flat.len _) (cl1 (n := 1) (m := 0) rfl cl0)))))) (Eq.symm (ZB (cl1 (n := 1) (m := 289) rfl (cl1 (n := 256) (m := 33) (Flat.len _) (cl1 (n := 16) (m := 17) (Flat.len _) (cl1 (n := 16) (m := 1) (Flat.len _) (cl1 (n := 1) (m := 0) rfl cl0))))))))) ?_; intro w a hM hE
 refine Zf (wp_seq (Zc (Zd hE Za (dl rfl) rfl ?_))); intro a hE
 refine Zf ?_
 obtain ⟨j5, hl6, hF7⟩ := bind_some hF
 refine ZS (fun a w => Env 61 a [(2, (ptr b1 0)), (3, (ptr b3 0))] ∧ M (Old w0) w0 w [raw b3 (cat [[(vI 285)], Flat.enc j5, Flat.enc (Vector.replicate 4 (Vector.replicate 4 (0 : UInt8))), Flat.enc (Vector.replicate 16 (0 : UInt8)), [(vI p0)]]), raw b1 (cat [[(vI 0)], Flat.enc (Vector.replicate 256 (0 : UInt8)), Flat.enc (Vector.replicate 4 (Vector.replicate 4 (0 : UInt8))), Flat.enc (Vector.replicate 16 (0 : UInt8)), [(vI 0)]])]) ?_ ?_
 ·skip
  refine wp_block ?_
  refine ZL (fun (s8 : (Vector UInt8 256) × Int) a w => Env 61 a [(2, (ptr b1 0)), (3, (ptr b3 0)), (11, (vI s8.2))] ∧ M (Old w0) w0 w [raw b3 (cat [[(vI 285)], Flat.enc s8.1, Flat.enc (Vector.replicate 4 (Vector.replicate 4 (0 : UInt8))), Flat.enc (Vector.replicate 16 (0 : UInt8)), [(vI p0)]]), raw b1 (cat [[(vI 0)], Flat.enc (Vector.replicate 256 (0 : UInt8)), Flat.enc (Vector.replicate 4 (Vector.replicate 4 (0 : UInt8))), Flat.enc (Vector.replicate 16 (0 : UInt8)), [(vI 0)]])]) hl6 ⟨hE.sub ⟨rfl, rfl, rfl, trivial⟩, hM⟩ ?_
  rintro s8 a w ⟨hE, hM⟩ o11 hs9 hx10
  unfold XM at hs9
  refine Zc (Zh hE Za (dl rfl) rfl rfl rfl ?_); intro a hE
  refine Zf (wp_seq ?_)
  refine Zw hE rfl ?_ ?_
  ·intro hb12
   have hs9 := ZD hs9 hb12
   refine wp_skip (Zz (wp_seq (wp_block (Zc (Zd hE Za (dl rfl) rfl ?_))))); intro a hE
   refine Ze hE Za (dl rfl) rfl ?_; intro a hE
   refine Zf (Zc (Zd hE Za (dl rfl) rfl ?_)); intro a hE
   refine YE hE Za (dl rfl) rfl Tryz.underlying3 Tryz.underlying5 ?_; intro a hE
   rw [Z4] at hE
   obtain ⟨r13, e14, hs9⟩ := bind_some hs9
   refine Zs (vs := [(vI 285), (vB (Zx s8.2))]) hE Za (dl rfl) rfl cb219 (V1 _ 285 (Zx s8.2) r13 e14) ?_
   rintro v w a ⟨rfl, hK⟩ hE
   have hM := hM.keep hK
   refine Ze hE Za (dl rfl) rfl ?_; intro a hE
   refine Zf (wp_region_lit (Zd hE Za (dl rfl) rfl ?_)); intro a hE
   refine Zd hE Za (dl rfl) rfl ?_; intro a hE
   refine Zd hE Za (dl rfl) rfl ?_; intro a hE
   obtain ⟨r15, e16, hs9⟩ := bind_some hs9
   refine Zs (vs := [(vB r13), (vI 1)]) hE Za (dl rfl) rfl cb220 (UX _ r13 1 r15 e16) ?_
   rintro v w a ⟨rfl, hK⟩ hE
   have hM := hM.keep hK
   refine Zh hE Za (dl rfl) rfl rfl (WK r13 r15) ?_; intro a hE
   refine Zd hE Za (dl rfl) rfl ?_; intro a hE
   obtain ⟨r17, e18, hs9⟩ := bind_some hs9
   refine Zs (vs := [(vB r13), (vI 4)]) hE Za (dl rfl) rfl cb220 (UX _ r13 4 r17 e18) ?_
   rintro v w a ⟨rfl, hK⟩ hE
   have hM := hM.keep hK
   refine Zh hE Za (dl rfl) rfl rfl (WK (r13 ^^^ r15) r17) ?_; intro a hE
   refine Zh hE Za (dl rfl) rfl rfl (WK ((r13 ^^^ r15) ^^^ r17) 90) ?_; intro a hE
   refine Zg hE Za (dl rfl) rfl (fd173_1) ?_; intro a hE
   obtain ⟨x20, e21, hs9⟩ := bind_some hs9
   have hi19 := Zi e21
   refine Zo hE Za (dl rfl) rfl rfl Tryz.underlying167 ty5 hi19.1 ?_; intro a hE
   refine Zp (seg := [(vB (((r13 ^^^ r15) ^^^ r17) ^^^ 90))]) (cs' := cat [[(vI 285)], Flat.enc (s8.1.setIfInBounds (s8.2).toNat (((r13 ^^^ r15) ^^^ r17) ^^^ 90)), Flat.enc (Vector.replicate 4 (Vector.replicate 4 (0 : UInt8))), Flat.enc (Vector.replicate 16 (0 : UInt8)), [(vI p0)]]) hE hM Za rfl rfl rfl ty5 rfl (fit_catI (o' := 0 + (s8.2).toNat * 1) (pre := [[(vI 285)]]) (seg := Flat.enc s8.1) (post := [Flat.enc (Vector.replicate 4 (Vector.replicate 4 (0 : UInt8))), Flat.enc (Vector.replicate 16 (0 : UInt8)), [(vI p0)]]) (cl1 (n := 1) (m := 0) rfl cl0) (ZO (v := s8.1) (x := ((r13 ^^^ r15) ^^^ r17) ^^^ 90) hi19.1) (by first | omega | (simp only [Flat.n] <;> omega))) (Flat.cell (((r13 ^^^ r15) ^^^ r17) ^^^ 90 : UInt8)) (splice_catI (o' := 0 + (s8.2).toNat * 1) (pre := [[(vI 285)]]) (seg := Flat.enc s8.1) (post := [Flat.enc (Vector.replicate 4 (Vector.replicate 4 (0 : UInt8))), Flat.enc (Vector.replicate 16 (0 : UInt8)), [(vI p0)]]) (cl1 (n := 1) (m := 0) rfl cl0) (ZO (v := s8.1) (x := ((r13 ^^^ r15) ^^^ r17) ^^^ 90) hi19.1) (ZI (v := s8.1) (x := ((r13 ^^^ r15) ^^^ r17) ^^^ 90) hi19.1) (by first | omega | (simp only [Flat.n] <;> omega))) ?_; intro w a hM hE
   refine Zk (Yl (Zz (wp_region_lit (Zh hE Za (dl rfl) rfl rfl rfl ?_)))); intro a hE
   refine Zd hE Za (dl rfl) rfl ?_; intro a hE
   refine Zk (Zn ?_)
   exact ⟨_, (Option.some.inj hs9).symm, hE.sub ⟨rfl, rfl, rfl, trivial⟩, hM⟩
  ·intro hb12
   have hs9 := ZC hs9 hb12
   refine wp_exit (Zr (Zr (Yk ?_)))
   have ht22 := hx10 _ (Option.some.inj hs9).symm
   subst ht22
   refine Zn ?_
   exact ⟨hE.sub ⟨rfl, rfl, trivial⟩, hM⟩
 ·skip
  rintro a w ⟨hE, hM⟩
  refine Zz (wp_seq (Zc (Zd hE Za (dl rfl) rfl ?_))); intro a hE
  refine Zf ?_
  obtain ⟨j23, hl24, hF25⟩ := bind_some hF7
  refine ZS (fun a w => Env 61 a [(2, (ptr b1 0)), (3, (ptr b3 0))] ∧ M (Old w0) w0 w [raw b3 (cat [[(vI 285)], Flat.enc j5, Flat.enc j23, Flat.enc (Vector.replicate 16 (0 : UInt8)), [(vI p0)]]), raw b1 (cat [[(vI 0)], Flat.enc (Vector.replicate 256 (0 : UInt8)), Flat.enc (Vector.replicate 4 (Vector.replicate 4 (0 : UInt8))), Flat.enc (Vector.replicate 16 (0 : UInt8)), [(vI 0)]])]) ?_ ?_
  ·skip
   refine wp_block ?_
   refine ZL (fun (s26 : (Vector (Vector UInt8 4) 4) × Int) a w => Env 61 a [(2, (ptr b1 0)), (3, (ptr b3 0)), (29, (vI s26.2))] ∧ M (Old w0) w0 w [raw b3 (cat [[(vI 285)], Flat.enc j5, Flat.enc s26.1, Flat.enc (Vector.replicate 16 (0 : UInt8)), [(vI p0)]]), raw b1 (cat [[(vI 0)], Flat.enc (Vector.replicate 256 (0 : UInt8)), Flat.enc (Vector.replicate 4 (Vector.replicate 4 (0 : UInt8))), Flat.enc (Vector.replicate 16 (0 : UInt8)), [(vI 0)]])]) hl24 ⟨hE.sub ⟨rfl, rfl, rfl, trivial⟩, hM⟩ ?_
   rintro s26 a w ⟨hE, hM⟩ o29 hs27 hx28
   unfold WO at hs27
   refine Zc (Zh hE Za (dl rfl) rfl rfl rfl ?_); intro a hE
   refine Zf (wp_seq ?_)
   refine Zw hE rfl ?_ ?_
   ·intro hb30
    have hs27 := ZD hs27 hb30
    refine wp_skip (Zz (wp_seq (wp_block (Zc (Zd hE Za (dl rfl) rfl ?_))))); intro a hE
    refine Ze hE Za (dl rfl) rfl ?_; intro a hE
    refine Zf (Zc (Zd hE Za (dl rfl) rfl ?_)); intro a hE
    refine Zf ?_
    obtain ⟨j31, hl32, hF33⟩ := bind_some hs27
    refine ZS (fun a w => Env 61 a [(2, (ptr b1 0)), (3, (ptr b3 0)), (29, (vI s26.2))] ∧ M (Old w0) w0 w [raw b3 (cat [[(vI 285)], Flat.enc j5, Flat.enc j31, Flat.enc (Vector.replicate 16 (0 : UInt8)), [(vI p0)]]), raw b1 (cat [[(vI 0)], Flat.enc (Vector.replicate 256 (0 : UInt8)), Flat.enc (Vector.replicate 4 (Vector.replicate 4 (0 : UInt8))), Flat.enc (Vector.replicate 16 (0 : UInt8)), [(vI 0)]])]) ?_ ?_
    ·skip
     refine wp_block ?_
     refine ZL (fun (s34 : (Vector (Vector UInt8 4) 4) × Int) a w => Env 61 a [(2, (ptr b1 0)), (3, (ptr b3 0)), (6, (vI s26.2)), (29, (vI s26.2)), (32, (vI s34.2))] ∧ M (Old w0) w0 w [raw b3 (cat [[(vI 285)], Flat.enc j5, Flat.enc s34.1, Flat.enc (Vector.replicate 16 (0 : UInt8)), [(vI p0)]]), raw b1 (cat [[(vI 0)], Flat.enc (Vector.replicate 256 (0 : UInt8)), Flat.enc (Vector.replicate 4 (Vector.replicate 4 (0 : UInt8))), Flat.enc (Vector.replicate 16 (0 : UInt8)), [(vI 0)]])]) hl32 ⟨hE.sub ⟨rfl, rfl, rfl, rfl, rfl, trivial⟩, hM⟩ ?_
     rintro s34 a w ⟨hE, hM⟩ o37 hs35 hx36
     unfold WQ at hs35
     refine Zc (Zh hE Za (dl rfl) rfl rfl rfl ?_); intro a hE
     refine Zf (wp_seq ?_)
     refine Zw hE rfl ?_ ?_
     ·intro hb38
      have hs35 := ZD hs35 hb38
      refine wp_skip (Zz (wp_seq (wp_block (Zc (Zd hE Za (dl rfl) rfl ?_))))); intro a hE
      refine Ze hE Za (dl rfl) rfl ?_; intro a hE
      refine Zf ?_
      obtain ⟨r40, e41, hs35⟩ := bind_some hs35
      obtain ⟨x43, e44, hs35⟩ := bind_some hs35
      have hi42 := Zi e44
      obtain ⟨x46, e47, hs35⟩ := bind_some hs35
      have hi45 := Zi e47
      refine Yo (n := 61) (hd := [_, _, _, _, _, _, _, _, _, _, _]) (tl := [_]) YU rfl rfl [35, 36, 37, 38, 39, 40, 41, 42, 43, 44, 45] (by decide) (fun w => M (Old w0) w0 w [raw b3 (cat [[(vI 285)], Flat.enc j5, Flat.enc s34.1, Flat.enc (Vector.replicate 16 (0 : UInt8)), [(vI p0)]]), raw b1 (cat [[(vI 0)], Flat.enc (Vector.replicate 256 (0 : UInt8)), Flat.enc (Vector.replicate 4 (Vector.replicate 4 (0 : UInt8))), Flat.enc (Vector.replicate 16 (0 : UInt8)), [(vI 0)]])]) (fun j => ([fun v _ => v = (vI s26.2), fun v _ => v = (vI s34.2), fun v _ => v = (vI s26.2), fun v _ => v = (vI s34.2), fun v _ => v = (vI (wr (4 + s34.2))), fun v _ => v = (vI (U4 s26.2 (wr (4 + s34.2)))), fun v _ => v = (vB (Zx (U4 s26.2 (wr (4 + s34.2))))), fun v _ => v = (vB r40), fun v _ => v = (ptr b3 (0 + 257)), fun v _ => v = (ptr b3 (0 + 257 + (s26.2).toNat * 4)), fun v _ => v = (ptr b3 (0 + 257 + (s26.2).toNat * 4 + (s34.2).toNat * 1))] : List (Value → World → Prop)).getD j (fun _ _ => True)) (fun _ _ h hk => h.keep hk) (gup (Zj (Zj (Zj (Zj (Zj (Zj (Zj (Zj (Zj (Zj (Zj Vq)))))))))))) hE hM.drew (ZM (Zb ?_ (Zb ?_ (Zb ?_ (Zb ?_ (Zb ?_ (Zb ?_ (Zb ?_ (Zb ?_ (Zb ?_ (Zb ?_ (Zb ?_ ZH)))))))))))) ?_
      ·intro a w ux39 hE hM hp
       refine Zd hE Za (dl rfl) rfl ?_; intro a hE
       exact ⟨Kept.refl _ _, _, _, rfl, hE, rfl⟩
      ·intro a w ux39 hE hM hp
       refine Zd hE Za (dl rfl) rfl ?_; intro a hE
       exact ⟨Kept.refl _ _, _, _, rfl, hE, rfl⟩
      ·intro a w ux39 hE hM hp
       refine Zd hE Za (dl rfl) rfl ?_; intro a hE
       exact ⟨Kept.refl _ _, _, _, rfl, hE, rfl⟩
      ·intro a w ux39 hE hM hp
       refine Zd hE Za (dl rfl) rfl ?_; intro a hE
       exact ⟨Kept.refl _ _, _, _, rfl, hE, rfl⟩
      ·intro a w ux39 hE hM hp
       have f3 : ux39 3 = (vI s34.2) := hp 0 _ rfl rfl
       refine Zh hE Za (dl rfl) rfl (lk rfl f3) rfl ?_; intro a hE
       exact ⟨Kept.refl _ _, _, _, rfl, hE, rfl⟩
      ·intro a w ux39 hE hM hp
       have f2 : ux39 2 = (vI s26.2) := hp 0 _ rfl rfl
       have f4 : ux39 4 = (vI (wr (4 + s34.2))) := hp 1 _ rfl rfl
       refine Zh hE Za (dl rfl) (lk rfl f2) (lk rfl f4) rfl ?_; intro a hE
       exact ⟨Kept.refl _ _, _, _, rfl, hE, rfl⟩
      ·intro a w ux39 hE hM hp
       have f5 : ux39 5 = (vI (U4 s26.2 (wr (4 + s34.2)))) := hp 0 _ rfl rfl
       refine YE hE Za (dl rfl) (lk rfl f5) Tryz.underlying3 Tryz.underlying5 ?_; intro a hE
       rw [Z4] at hE
       exact ⟨Kept.refl _ _, _, _, rfl, hE, rfl⟩
      ·intro a w ux39 hE hM hp
       have f6 : ux39 6 = (vB (Zx (U4 s26.2 (wr (4 + s34.2))))) := hp 0 _ rfl rfl
       refine Zs (vs := [(vI 285), (vB (Zx (U4 s26.2 (wr (4 + s34.2)))))]) hE Za (dl rfl) (ZZ (ZT rfl (ZT (lk rfl f6) Y7))) cb219 (V1 _ 285 (Zx (U4 s26.2 (wr (4 + s34.2)))) r40 e41) ?_
       rintro v w a ⟨rfl, hK⟩ hE
       exact ⟨hK, _, _, rfl, hE, rfl⟩
      ·intro a w ux39 hE hM hp
       refine Zg hE Za (dl rfl) rfl (fd173_2) ?_; intro a hE
       exact ⟨Kept.refl _ _, _, _, rfl, hE, rfl⟩
      ·intro a w ux39 hE hM hp
       have f0 : ux39 0 = (vI s26.2) := hp 1 _ rfl rfl
       have f8 : ux39 8 = (ptr b3 (0 + 257)) := hp 0 _ rfl rfl
       refine Zo hE Za (dl rfl) (lk rfl f8) (lk rfl f0) Tryz.underlying170 Y8 hi42.1 ?_; intro a hE
       exact ⟨Kept.refl _ _, _, _, rfl, hE, rfl⟩
      ·intro a w ux39 hE hM hp
       have f1 : ux39 1 = (vI s34.2) := hp 1 _ rfl rfl
       have f9 : ux39 9 = (ptr b3 (0 + 257 + (s26.2).toNat * 4)) := hp 0 _ rfl rfl
       refine Zo hE Za (dl rfl) (lk rfl f9) (lk rfl f1) Tryz.underlying168 ty5 hi45.1 ?_; intro a hE
       exact ⟨Kept.refl _ _, _, _, rfl, hE, rfl⟩
      ·intro a w ux39 hE hM hg
       have f0 : ux39 0 = (vI s26.2) := hg 0 (by decide)
       have f1 : ux39 1 = (vI s34.2) := hg 1 (by decide)
       have f2 : ux39 2 = (vI s26.2) := hg 2 (by decide)
       have f3 : ux39 3 = (vI s34.2) := hg 3 (by decide)
       have f4 : ux39 4 = (vI (wr (4 + s34.2))) := hg 4 (by decide)
       have f5 : ux39 5 = (vI (U4 s26.2 (wr (4 + s34.2)))) := hg 5 (by decide)
       have f6 : ux39 6 = (vB (Zx (U4 s26.2 (wr (4 + s34.2))))) := hg 6 (by decide)
       have f7 : ux39 7 = (vB r40) := hg 7 (by decide)
       have f8 : ux39 8 = (ptr b3 (0 + 257)) := hg 8 (by decide)
       have f9 : ux39 9 = (ptr b3 (0 + 257 + (s26.2).toNat * 4)) := hg 9 (by decide)
       have f10 : ux39 10 = (ptr b3 (0 + 257 + (s26.2).toNat * 4 + (s34.2).toNat * 1)) := hg 10 (by decide)
       have hE := hE.sub (e' := [(35, (vI s26.2)), (36, (vI s34.2)), (37, (vI s26.2)), (38, (vI s34.2)), (39, (vI (wr (4 + s34.2)))), (40, (vI (U4 s26.2 (wr (4 + s34.2))))), (41, (vB (Zx (U4 s26.2 (wr (4 + s34.2)))))), (42, (vB r40)), (43, (ptr b3 (0 + 257))), (44, (ptr b3 (0 + 257 + (s26.2).toNat * 4))), (45, (ptr b3 (0 + 257 + (s26.2).toNat * 4 + (s34.2).toNat * 1))), (2, (ptr b1 0)), (3, (ptr b3 0)), (6, (vI s26.2)), (7, (vI s34.2)), (29, (vI s26.2)), (32, (vI s34.2)), (33, (vT (decide (s34.2 < 4)))), (34, (vI s34.2))]) ⟨lk rfl f0, lk rfl f1, lk rfl f2, lk rfl f3, lk rfl f4, lk rfl f5, lk rfl f6, lk rfl f7, lk rfl f8, lk rfl f9, lk rfl f10, rfl, rfl, rfl, rfl, rfl, rfl, rfl, rfl, trivial⟩
       refine Zp (seg := [(vB r40)]) (cs' := cat [[(vI 285)], Flat.enc j5, Flat.enc (s34.1.setIfInBounds (s26.2).toNat (x43.setIfInBounds (s34.2).toNat r40)), Flat.enc (Vector.replicate 16 (0 : UInt8)), [(vI p0)]]) hE hM Za rfl rfl rfl ty5 rfl (fit_catI (o' := (s26.2).toNat * 4 + (0 + (s34.2).toNat * 1)) (pre := [[(vI 285)], Flat.enc j5]) (seg := Flat.enc s34.1) (post := [Flat.enc (Vector.replicate 16 (0 : UInt8)), [(vI p0)]]) (cl1 (n := 1) (m := 256) rfl (cl1 (n := 256) (m := 0) (Flat.len _) cl0)) (Vy (o' := 0 + (s34.2).toNat * 1) hi42 (ZO (v := x43) (x := r40) hi45.1) (by first | omega | (simp only [Flat.n] <;> omega))) (by first | omega | (simp only [Flat.n] <;> omega))) (Flat.cell (r40 : UInt8)) (splice_catI (o' := (s26.2).toNat * 4 + (0 + (s34.2).toNat * 1)) (pre := [[(vI 285)], Flat.enc j5]) (seg := Flat.enc s34.1) (post := [Flat.enc (Vector.replicate 16 (0 : UInt8)), [(vI p0)]]) (cl1 (n := 1) (m := 256) rfl (cl1 (n := 256) (m := 0) (Flat.len _) cl0)) (Vy (o' := 0 + (s34.2).toNat * 1) hi42 (ZO (v := x43) (x := r40) hi45.1) (by first | omega | (simp only [Flat.n] <;> omega))) (WG (o' := 0 + (s34.2).toNat * 1) hi42 (ZO (v := x43) (x := r40) hi45.1) (ZI (v := x43) (x := r40) hi45.1) (by first | omega | (simp only [Flat.n] <;> omega))) (by first | omega | (simp only [Flat.n] <;> omega))) ?_; intro w a hM hE
       refine Zk (Yl (Zz (wp_region_lit (Zh hE Za (dl rfl) rfl rfl rfl ?_)))); intro a hE
       refine Zd hE Za (dl rfl) rfl ?_; intro a hE
       refine Zk (Zn ?_)
       exact ⟨_, (Option.some.inj hs35).symm, hE.sub ⟨rfl, rfl, rfl, rfl, rfl, trivial⟩, hM⟩
     ·intro hb38
      have hs35 := ZC hs35 hb38
      refine wp_exit (Zr (Zr (Yk ?_)))
      have ht48 := hx36 _ (Option.some.inj hs35).symm
      subst ht48
      refine Zn ?_
      exact ⟨hE.sub ⟨rfl, rfl, rfl, trivial⟩, hM⟩
    ·skip
     rintro a w ⟨hE, hM⟩
     refine Yl (Zz (wp_region_lit (Zh hE Za (dl rfl) rfl rfl rfl ?_))); intro a hE
     refine Zd hE Za (dl rfl) rfl ?_; intro a hE
     refine Zk (Zn ?_)
     exact ⟨_, (Option.some.inj hF33).symm, hE.sub ⟨rfl, rfl, rfl, trivial⟩, hM⟩
   ·intro hb30
    have hs27 := ZC hs27 hb30
    refine wp_exit (Zr (Zr (Yk ?_)))
    have ht49 := hx28 _ (Option.some.inj hs27).symm
    subst ht49
    refine Zn ?_
    exact ⟨hE.sub ⟨rfl, rfl, trivial⟩, hM⟩
  ·skip
   rintro a w ⟨hE, hM⟩
   refine Zz (wp_seq (Zc (Zd hE Za (dl rfl) rfl ?_))); intro a hE
   refine Zf ?_
   obtain ⟨j50, hl51, hF52⟩ := bind_some hF25
   refine ZS (fun a w => Env 61 a [(2, (ptr b1 0)), (3, (ptr b3 0))] ∧ M (Old w0) w0 w [raw b3 (cat [[(vI 285)], Flat.enc j5, Flat.enc j23, Flat.enc j50, [(vI p0)]]), raw b1 (cat [[(vI 0)], Flat.enc (Vector.replicate 256 (0 : UInt8)), Flat.enc (Vector.replicate 4 (Vector.replicate 4 (0 : UInt8))), Flat.enc (Vector.replicate 16 (0 : UInt8)), [(vI 0)]])]) ?_ ?_
   ·skip
    refine wp_block ?_
    refine ZL (fun (s53 : (Vector UInt8 16) × Int) a w => Env 61 a [(2, (ptr b1 0)), (3, (ptr b3 0)), (48, (vI s53.2))] ∧ M (Old w0) w0 w [raw b3 (cat [[(vI 285)], Flat.enc j5, Flat.enc j23, Flat.enc s53.1, [(vI p0)]]), raw b1 (cat [[(vI 0)], Flat.enc (Vector.replicate 256 (0 : UInt8)), Flat.enc (Vector.replicate 4 (Vector.replicate 4 (0 : UInt8))), Flat.enc (Vector.replicate 16 (0 : UInt8)), [(vI 0)]])]) hl51 ⟨hE.sub ⟨rfl, rfl, rfl, trivial⟩, hM⟩ ?_
    rintro s53 a w ⟨hE, hM⟩ o56 hs54 hx55
    unfold WN at hs54
    refine Zc (Zh hE Za (dl rfl) rfl rfl rfl ?_); intro a hE
    refine Zf (wp_seq ?_)
    refine Zw hE rfl ?_ ?_
    ·intro hb57
     have hs54 := ZD hs54 hb57
     refine wp_skip (Zz (wp_seq (wp_block (Zc (Zd hE Za (dl rfl) rfl ?_))))); intro a hE
     refine Ze hE Za (dl rfl) rfl ?_; intro a hE
     refine Zf (wp_region_lit (Zd hE Za (dl rfl) rfl ?_)); intro a hE
     refine Zd hE Za (dl rfl) rfl ?_; intro a hE
     refine Zh hE Za (dl rfl) rfl rfl rfl ?_; intro a hE
     refine Zh hE Za (dl rfl) rfl rfl rfl ?_; intro a hE
     refine Zh hE Za (dl rfl) rfl rfl (bI_rem _ _ (by decide)) ?_; intro a hE
     refine YE hE Za (dl rfl) rfl Tryz.underlying3 Tryz.underlying5 ?_; intro a hE
     rw [Z4] at hE
     refine Zg hE Za (dl rfl) rfl (fd173_3) ?_; intro a hE
     obtain ⟨x59, e60, hs54⟩ := bind_some hs54
     have hi58 := Zi e60
     refine Zo hE Za (dl rfl) rfl rfl Tryz.underlying171 ty5 hi58.1 ?_; intro a hE
     refine Zp (seg := [(vB (Zx (Int.tmod (wr ((wr (13 * s53.2)) + 4)) 16)))]) (cs' := cat [[(vI 285)], Flat.enc j5, Flat.enc j23, Flat.enc (s53.1.setIfInBounds (s53.2).toNat (Zx (Int.tmod (wr ((wr (13 * s53.2)) + 4)) 16))), [(vI p0)]]) hE hM Za rfl rfl rfl ty5 rfl (fit_catI (o' := 0 + (s53.2).toNat * 1) (pre := [[(vI 285)], Flat.enc j5, Flat.enc j23]) (seg := Flat.enc s53.1) (post := [[(vI p0)]]) (cl1 (n := 1) (m := 272) rfl (cl1 (n := 256) (m := 16) (Flat.len _) (cl1 (n := 16) (m := 0) (Flat.len _) cl0))) (ZO (v := s53.1) (x := Zx (Int.tmod (wr ((wr (13 * s53.2)) + 4)) 16)) hi58.1) (by first | omega | (simp only [Flat.n] <;> omega))) (Flat.cell (Zx (Int.tmod (wr ((wr (13 * s53.2)) + 4)) 16) : UInt8)) (splice_catI (o' := 0 + (s53.2).toNat * 1) (pre := [[(vI 285)], Flat.enc j5, Flat.enc j23]) (seg := Flat.enc s53.1) (post := [[(vI p0)]]) (cl1 (n := 1) (m := 272) rfl (cl1 (n := 256) (m := 16) (Flat.len _) (cl1 (n := 16) (m := 0) (Flat.len _) cl0))) (ZO (v := s53.1) (x := Zx (Int.tmod (wr ((wr (13 * s53.2)) + 4)) 16)) hi58.1) (ZI (v := s53.1) (x := Zx (Int.tmod (wr ((wr (13 * s53.2)) + 4)) 16)) hi58.1) (by first | omega | (simp only [Flat.n] <;> omega))) ?_; intro w a hM hE
     refine Zk (Yl (Zz (wp_region_lit (Zh hE Za (dl rfl) rfl rfl rfl ?_)))); intro a hE
     refine Zd hE Za (dl rfl) rfl ?_; intro a hE
     refine Zk (Zn ?_)
     exact ⟨_, (Option.some.inj hs54).symm, hE.sub ⟨rfl, rfl, rfl, trivial⟩, hM⟩
    ·intro hb57
     have hs54 := ZC hs54 hb57
     refine wp_exit (Zr (Zr (Yk ?_)))
     have ht61 := hx55 _ (Option.some.inj hs54).symm
     subst ht61
     refine Zn ?_
     exact ⟨hE.sub ⟨rfl, rfl, trivial⟩, hM⟩
   ·skip
    rintro a w ⟨hE, hM⟩
    refine Zz (Zc (Zm (cs := Flat.enc (⟨285, j5, j23, j50, p0⟩ : GCipher)) hE Za (dl rfl) rfl WL rfl (hM.rawAt (pre := [])) (ZB (cl1 (n := 1) (m := 289) rfl (cl1 (n := 256) (m := 33) (Flat.len _) (cl1 (n := 16) (m := 17) (Flat.len _) (cl1 (n := 16) (m := 1) (Flat.len _) (cl1 (n := 1) (m := 0) rfl cl0)))))) ?_)); intro a hE
    have hM := hM.pull (pre := [_])
    refine Zp (seg := cat [[(vI ((⟨285, j5, j23, j50, p0⟩ : GCipher).Field))], Flat.enc ((⟨285, j5, j23, j50, p0⟩ : GCipher).Box), Flat.enc ((⟨285, j5, j23, j50, p0⟩ : GCipher).Mix), Flat.enc ((⟨285, j5, j23, j50, p0⟩ : GCipher).Places), [(vI ((⟨285, j5, j23, j50, p0⟩ : GCipher).Rounds))]]) (cs' := cat [[(vI ((⟨285, j5, j23, j50, p0⟩ : GCipher).Field))], Flat.enc ((⟨285, j5, j23, j50, p0⟩ : GCipher).Box), Flat.enc ((⟨285, j5, j23, j50, p0⟩ : GCipher).Mix), Flat.enc ((⟨285, j5, j23, j50, p0⟩ : GCipher).Places), [(vI ((⟨285, j5, j23, j50, p0⟩ : GCipher).Rounds))]]) hE hM Za rfl rfl rfl WL (ZB (cl1 (n := 1) (m := 289) rfl (cl1 (n := 256) (m := 33) (Flat.len _) (cl1 (n := 16) (m := 17) (Flat.len _) (cl1 (n := 16) (m := 1) (Flat.len _) (cl1 (n := 1) (m := 0) rfl cl0)))))) (Nat.le_of_eq ((Nat.zero_add _).trans (Eq.trans (ZB (cl1 (n := 1) (m := 289) rfl (cl1 (n := 256) (m := 33) (Flat.len _) (cl1 (n := 16) (m := 17) (Flat.len _) (cl1 (n := 16) (m := 1) (Flat.len _) (cl1 (n := 1) (m := 0) rfl cl0)))))) (Eq.symm (ZB (cl1 (n := 1) (m := 289) rfl (cl1 (n := 256) (m := 33) (Flat.len _) (cl1 (n := 16) (m := 17) (Flat.len _) (cl1 (n := 16) (m := 1) (Flat.len _) (cl1 (n := 1) (m := 0) rfl cl0)))))))))) (WH (cc1 (Flat.cell ((⟨285, j5, j23, j50, p0⟩ : GCipher).Field : Int)) (cc1 (Flat.cell _) (cc1 (Flat.cell _) (cc1 (Flat.cell _) (cc1 (Flat.cell ((⟨285, j5, j23, j50, p0⟩ : GCipher).Rounds : Int)) cc0)))))) (Zl (Eq.trans (ZB (cl1 (n := 1) (m := 289) rfl (cl1 (n := 256) (m := 33) (Flat.len _) (cl1 (n := 16) (m := 17) (Flat.len _) (cl1 (n := 16) (m := 1) (Flat.len _) (cl1 (n := 1) (m := 0) rfl cl0)))))) (Eq.symm (ZB (cl1 (n := 1) (m := 289) rfl (cl1 (n := 256) (m := 33) (Flat.len _) (cl1 (n := 16) (m := 17) (Flat.len _) (cl1 (n := 16) (m := 1) (Flat.len _) (cl1 (n := 1) (m := 0) rfl cl0))))))))) ?_; intro w a hM hE
    refine Zf ?_
    have hr := Option.some.inj hF52
    subst hr
    have hq62 : Yq Tryz.prog _ _ (.cell 2 173) _ := ZQ hE rfl WL rfl (hM.rawAt (pre := [])) (ZB (cl1 (n := 1) (m := 289) rfl (cl1 (n := 256) (m := 33) (Flat.len _) (cl1 (n := 16) (m := 17) (Flat.len _) (cl1 (n := 16) (m := 1) (Flat.len _) (cl1 (n := 1) (m := 0) rfl cl0)))))) rfl
    have hM := M.fst (l := []) hM
    exact wp_ret (Zy hE rfl hq62 ⟨_, rfl, rfl, hM.kept⟩)
noncomputable def UT (s8 : (Vector (Vector UInt8 4) 4) × Int) : Option (Fl ((Vector (Vector UInt8 4) 4) × Int) (Vector (Vector UInt8 4) 4)) :=
 if (decide (s8.2 < 4)) = true then ((ZK s8.1 s8.2).bind fun x14 => (ZK x14 s8.2).bind fun x17 => some (Fl.nx ((s8.1.setIfInBounds (s8.2).toNat (x14.setIfInBounds (s8.2).toNat 1)), wr (s8.2 + 1)))) else (some (Fl.ex s8.1))
noncomputable def Wx : Option ((Vector (Vector UInt8 4) 4)) :=
 (ZJ (UT) ((Vector.replicate 4 (Vector.replicate 4 (0 : UInt8))), 0) : Option ((Vector (Vector UInt8 4) 4))).bind fun j5 => some j5
theorem c_impl_UnitMatrix (w0 : World)  (r : (Vector (Vector UInt8 4) 4)) (hF : Wx  = some r) :
  Calls Tryz.prog 238 [].toArray w0 (fun en w' => ∃ v, en = .returned v ∧ (v = (Value.agg (Flat.enc r).toArray) ∧ Kept (Old w0) w0 w')) := by
 refine ZA (n := 13) Tryz.func238 rfl rfl (Nat.le_of_ble_eq_true rfl) rfl ?_
 intro a hE
 have hM := M.start w0
 unfold Wx at hF
 refine Zc (ZE hE hM Za (dl rfl) Uc ?_); intro b1 w a hM hE
 refine Zf (Zc (YO (parts := []) (vs := []) (cs := Flat.enc (Vector.replicate 4 (Vector.replicate 4 (0 : UInt8)))) hE Za (dl rfl) rfl rfl Uc rfl Y8 Yw ?_)); intro a hE
 refine ZE hE hM Za (dl rfl) Uc ?_; intro b3 w a hM hE
 refine Zp (seg := Flat.enc (Vector.replicate 4 (Vector.replicate 4 (0 : UInt8)))) (cs' := Flat.enc (Vector.replicate 4 (Vector.replicate 4 (0 : UInt8)))) hE hM Za rfl rfl rfl Uc (Flat.len _) (zle flq) (Flat.cell _) (Zl flq) ?_; intro w a hM hE
 refine Zf (wp_seq (Zc (Zd hE Za (dl rfl) rfl ?_))); intro a hE
 refine Zf ?_
 obtain ⟨j5, hl6, hF7⟩ := bind_some hF
 refine ZS (fun a w => Env 13 a [(0, (ptr b1 0)), (1, (ptr b3 0))] ∧ M (Old w0) w0 w [raw b3 (Flat.enc j5), raw b1 (Flat.enc (Vector.replicate 4 (Vector.replicate 4 (0 : UInt8))))]) ?_ ?_
 ·skip
  refine wp_block ?_
  refine ZL (fun (s8 : (Vector (Vector UInt8 4) 4) × Int) a w => Env 13 a [(0, (ptr b1 0)), (1, (ptr b3 0)), (4, (vI s8.2))] ∧ M (Old w0) w0 w [raw b3 (Flat.enc s8.1), raw b1 (Flat.enc (Vector.replicate 4 (Vector.replicate 4 (0 : UInt8))))]) hl6 ⟨hE.sub ⟨rfl, rfl, rfl, trivial⟩, hM⟩ ?_
  rintro s8 a w ⟨hE, hM⟩ o11 hs9 hx10
  unfold UT at hs9
  refine Zc (Zh hE Za (dl rfl) rfl rfl rfl ?_); intro a hE
  refine Zf (wp_seq ?_)
  refine Zw hE rfl ?_ ?_
  ·intro hb12
   have hs9 := ZD hs9 hb12
   refine wp_skip (Zz (wp_seq (wp_block (Zc (Zd hE Za (dl rfl) rfl ?_))))); intro a hE
   refine Ze hE Za (dl rfl) rfl ?_; intro a hE
   refine Zf (wp_region_lit (Zd hE Za (dl rfl) rfl ?_)); intro a hE
   refine Zd hE Za (dl rfl) rfl ?_; intro a hE
   obtain ⟨x14, e15, hs9⟩ := bind_some hs9
   have hi13 := Zi e15
   refine Zo hE Za (dl rfl) rfl rfl Tryz.underlying170 Y8 hi13.1 ?_; intro a hE
   obtain ⟨x17, e18, hs9⟩ := bind_some hs9
   have hi16 := Zi e18
   refine Zo hE Za (dl rfl) rfl rfl Tryz.underlying168 ty5 hi16.1 ?_; intro a hE
   refine Zp (seg := [(vB 1)]) (cs' := Flat.enc (s8.1.setIfInBounds (s8.2).toNat (x14.setIfInBounds (s8.2).toNat 1))) hE hM Za rfl rfl rfl ty5 rfl (Vy (o' := 0 + (s8.2).toNat * 1) hi13 (ZO (v := x14) (x := 1) hi16.1) (by first | omega | (simp only [Flat.n] <;> omega))) (Flat.cell (1 : UInt8)) (WG (o' := 0 + (s8.2).toNat * 1) hi13 (ZO (v := x14) (x := 1) hi16.1) (ZI (v := x14) (x := 1) hi16.1) (by first | omega | (simp only [Flat.n] <;> omega))) ?_; intro w a hM hE
   refine Zk (Yl (Zz (wp_region_lit (Zh hE Za (dl rfl) rfl rfl rfl ?_)))); intro a hE
   refine Zd hE Za (dl rfl) rfl ?_; intro a hE
   refine Zk (Zn ?_)
   exact ⟨_, (Option.some.inj hs9).symm, hE.sub ⟨rfl, rfl, rfl, trivial⟩, hM⟩
  ·intro hb12
   have hs9 := ZC hs9 hb12
   refine wp_exit (Zr (Zr (Yk ?_)))
   have ht19 := hx10 _ (Option.some.inj hs9).symm
   subst ht19
   refine Zn ?_
   exact ⟨hE.sub ⟨rfl, rfl, trivial⟩, hM⟩
 ·skip
  rintro a w ⟨hE, hM⟩
  refine Zz (Zc (Zm (cs := Flat.enc j5) hE Za (dl rfl) rfl Uc rfl (hM.rawAt (pre := [])) (Flat.len _) ?_)); intro a hE
  have hM := hM.pull (pre := [_])
  refine Zp (seg := Flat.enc j5) (cs' := Flat.enc j5) hE hM Za rfl rfl rfl Uc (Flat.len _) (zle flq) (Flat.cell _) (Zl flq) ?_; intro w a hM hE
  refine Zf ?_
  have hr := Option.some.inj hF7
  subst hr
  have hq20 : Yq Tryz.prog _ _ (.cell 0 170) _ := ZQ hE rfl Uc rfl (hM.rawAt (pre := [])) (Flat.len _) rfl
  have hM := M.fst (l := []) hM
  exact wp_ret (Zy hE rfl hq20 ⟨_, rfl, rfl, hM.kept⟩)
noncomputable def V5 (s13 : (Vector (Vector UInt8 4) 4) × (Vector (Vector UInt8 4) 4) × Int × UInt8) (s21 : Int) : Option (Fl Int Int) :=
 (if (decide (s21 < 4)) = true then ((ZK s13.1 s21).bind fun x30 => (ZK x30 s13.2.2.1).bind fun x33 => some (x33 == 0)) else (some false) : Option (Bool)).bind fun j25 => if j25 = true then (some (Fl.nx (wr (s21 + 1)))) else (some (Fl.ex s21))
noncomputable def Xv (p0 : Int) (s13 : (Vector (Vector UInt8 4) 4) × (Vector (Vector UInt8 4) 4) × Int × UInt8) (r90 : UInt8) (s95 : (Vector (Vector UInt8 4) 4) × (Vector (Vector UInt8 4) 4) × Int) : Option (Fl ((Vector (Vector UInt8 4) 4) × (Vector (Vector UInt8 4) 4) × Int) ((Vector (Vector UInt8 4) 4) × (Vector (Vector UInt8 4) 4))) :=
 if (decide (s95.2.2 < 4)) = true then ((ZK s95.1 s13.2.2.1).bind fun x102 => (ZK x102 s95.2.2).bind fun x105 => (Z5 p0 x105 r90).bind fun r107 => (ZK s95.2.1 s13.2.2.1).bind fun x110 => (ZK x110 s95.2.2).bind fun x113 => (Z5 p0 x113 r90).bind fun r115 => (ZK s95.1 s13.2.2.1).bind fun x118 => (ZK x118 s95.2.2).bind fun x121 => (ZK s95.2.1 s13.2.2.1).bind fun x124 => (ZK x124 s95.2.2).bind fun x127 => some (Fl.nx ((s95.1.setIfInBounds (s13.2.2.1).toNat (x118.setIfInBounds (s95.2.2).toNat r107)), (s95.2.1.setIfInBounds (s13.2.2.1).toNat (x124.setIfInBounds (s95.2.2).toNat r115)), wr (s95.2.2 + 1)))) else (some (Fl.ex (s95.1, s95.2.1)))
noncomputable def Xm (p0 : Int) (s13 : (Vector (Vector UInt8 4) 4) × (Vector (Vector UInt8 4) 4) × Int × UInt8) (s133 : (Vector (Vector UInt8 4) 4) × (Vector (Vector UInt8 4) 4) × Int) (x145 : UInt8) (s160 : (Vector (Vector UInt8 4) 4) × (Vector (Vector UInt8 4) 4) × Int) : Option (Fl ((Vector (Vector UInt8 4) 4) × (Vector (Vector UInt8 4) 4) × Int) ((Vector (Vector UInt8 4) 4) × (Vector (Vector UInt8 4) 4))) :=
 if (decide (s160.2.2 < 4)) = true then (((ZK s160.1 s133.2.2).bind fun x170 => (ZK x170 s160.2.2).bind fun x173 => (ZK s160.1 s13.2.2.1).bind fun x176 => (ZK x176 s160.2.2).bind fun x179 => (Z5 p0 x145 x179).bind fun r181 => (ZK s160.1 s133.2.2).bind fun x184 => (ZK x184 s160.2.2).bind fun x187 => some (s160.1.setIfInBounds (s133.2.2).toNat (x184.setIfInBounds (s160.2.2).toNat (x173 ^^^ r181))) : Option ((Vector (Vector UInt8 4) 4))).bind fun j165 => (ZK s160.2.1 s133.2.2).bind fun x192 => (ZK x192 s160.2.2).bind fun x195 => (ZK s160.2.1 s13.2.2.1).bind fun x198 => (ZK x198 s160.2.2).bind fun x201 => (Z5 p0 x145 x201).bind fun r203 => (ZK s160.2.1 s133.2.2).bind fun x206 => (ZK x206 s160.2.2).bind fun x209 => some (Fl.nx (j165, (s160.2.1.setIfInBounds (s133.2.2).toNat (x206.setIfInBounds (s160.2.2).toNat (x195 ^^^ r203))), wr (s160.2.2 + 1)))) else (some (Fl.ex (s160.1, s160.2.1)))
noncomputable def Xo (p0 : Int) (s13 : (Vector (Vector UInt8 4) 4) × (Vector (Vector UInt8 4) 4) × Int × UInt8) (s133 : (Vector (Vector UInt8 4) 4) × (Vector (Vector UInt8 4) 4) × Int) : Option (Fl ((Vector (Vector UInt8 4) 4) × (Vector (Vector UInt8 4) 4) × Int) ((Vector (Vector UInt8 4) 4) × (Vector (Vector UInt8 4) 4))) :=
 if (decide (s133.2.2 < 4)) = true then (((ZK s133.1 s133.2.2).bind fun x142 => (ZK x142 s13.2.2.1).bind fun x145 => (if (s133.2.2 != s13.2.2.1) = true then (some (x145 != 0)) else (some false) : Option (Bool)).bind fun j147 => (if j147 = true then ((ZJ (Xm p0 s13 s133 x145) (s133.1, s133.2.1, 0) : Option ((Vector (Vector UInt8 4) 4) × (Vector (Vector UInt8 4) 4))).bind fun j157 => some (j157.1, j157.2)) else (some (s133.1, s133.2.1)) : Option ((Vector (Vector UInt8 4) 4) × (Vector (Vector UInt8 4) 4))).bind fun j153 => some (j153.1, j153.2) : Option ((Vector (Vector UInt8 4) 4) × (Vector (Vector UInt8 4) 4))).bind fun j138 => some (Fl.nx (j138.1, j138.2, wr (s133.2.2 + 1)))) else (some (Fl.ex (s133.1, s133.2.1)))
noncomputable def Yy (p0 : Int) (s13 : (Vector (Vector UInt8 4) 4) × (Vector (Vector UInt8 4) 4) × Int × UInt8) : Option (Fl ((Vector (Vector UInt8 4) 4) × (Vector (Vector UInt8 4) 4) × Int × UInt8) (Fl ((Vector (Vector UInt8 4) 4) × UInt8) (UInt8 × (Vector (Vector UInt8 4) 4)))) :=
 if (decide (s13.2.2.1 < 4)) = true then ((ZJ (V5 s13) s13.2.2.1 : Option (Int)).bind fun j18 => if (j18 == 4) = true then (some (Fl.ex (Fl.ex (0, (Vector.replicate 4 (Vector.replicate 4 (0 : UInt8))))))) else (((ZK s13.1 s13.2.2.1).bind fun x47 => (ZK s13.1 j18).bind fun x50 => (ZK s13.1 j18).bind fun x53 => (ZK (s13.1.setIfInBounds (j18).toNat x47) s13.2.2.1).bind fun x56 => some ((s13.1.setIfInBounds (j18).toNat x47).setIfInBounds (s13.2.2.1).toNat x50) : Option ((Vector (Vector UInt8 4) 4))).bind fun j42 => ((ZK s13.2.1 s13.2.2.1).bind fun x64 => (ZK s13.2.1 j18).bind fun x67 => (ZK s13.2.1 j18).bind fun x70 => (ZK (s13.2.1.setIfInBounds (j18).toNat x64) s13.2.2.1).bind fun x73 => some ((s13.2.1.setIfInBounds (j18).toNat x64).setIfInBounds (s13.2.2.1).toNat x67) : Option ((Vector (Vector UInt8 4) 4))).bind fun j59 => (ZK j42 s13.2.2.1).bind fun x77 => (ZK x77 s13.2.2.1).bind fun x80 => (Z5 p0 s13.2.2.2 x80).bind fun r82 => (ZK j42 s13.2.2.1).bind fun x85 => (ZK x85 s13.2.2.1).bind fun x88 => (Yf p0 x88).bind fun r90 => (ZJ (Xv p0 s13 r90) (j42, j59, 0) : Option ((Vector (Vector UInt8 4) 4) × (Vector (Vector UInt8 4) 4))).bind fun j92 => (ZJ (Xo p0 s13) (j92.1, j92.2, 0) : Option ((Vector (Vector UInt8 4) 4) × (Vector (Vector UInt8 4) 4))).bind fun j130 => some (Fl.nx (j130.1, j130.2, wr (s13.2.2.1 + 1), r82)))) else (some (Fl.ex (Fl.nx (s13.2.1, s13.2.2.2))))
noncomputable def Y4 (p0 : Int) (p1 : (Vector (Vector UInt8 4) 4)) : Option (UInt8 × (Vector (Vector UInt8 4) 4)) :=
 (Wx).bind fun r5 => (ZJ (Yy p0) (p1, r5, 0, 1) : Option (Fl ((Vector (Vector UInt8 4) 4) × UInt8) (UInt8 × (Vector (Vector UInt8 4) 4)))).bind fun j9 => j9.el (fun s12 => (some (s12.1, s12.2) : Option ((Vector (Vector UInt8 4) 4) × UInt8)).bind fun j217 => some (j217.2, j217.1)) (fun r => some r)
theorem c_impl_field_invert (w0 : World) (p0 : Int) (p1 : (Vector (Vector UInt8 4) 4)) (r : UInt8 × (Vector (Vector UInt8 4) 4)) (hF : Y4 p0 p1 = some r) :
  Calls Tryz.prog 215 [(vI p0), (Value.agg (Flat.enc p1).toArray)].toArray w0 (fun en w' => ∃ v, en = .returned v ∧ (v = (Value.tuple [(vB r.1), (Value.agg (Flat.enc r.2).toArray)].toArray) ∧ Kept (Old w0) w0 w')) := by
 refine ZA (n := 153) Tryz.func215 rfl rfl (Nat.le_of_ble_eq_true rfl) rfl ?_
 intro a hE
 have hM := M.start w0
 unfold Y4 at hF
 refine Zc (ZV (cs := Flat.enc p1) hE hM Za (dl rfl) rfl rfl ?_); intro b1 w a hM hE
 refine Ze hE Za (dl rfl) rfl ?_; intro a hE
 refine ZE hE hM Za (dl rfl) Uc ?_; intro b3 w a hM hE
 refine Zf (Zc ?_)
 obtain ⟨r5, e6, hF⟩ := bind_some hF
 refine Zs (vs := []) hE Za (dl rfl) rfl cb238 (c_impl_UnitMatrix _  r5 e6) ?_
 rintro v w a ⟨rfl, hK⟩ hE
 have hM := hM.keep hK
 refine ZE hE hM Za (dl rfl) Uc ?_; intro b7 w a hM hE
 refine Zp (seg := Flat.enc r5) (cs' := Flat.enc r5) hE hM Za rfl rfl rfl Uc (Flat.len _) (zle flq) (Flat.cell _) (Zl flq) ?_; intro w a hM hE
 refine Ze hE Za (dl rfl) rfl ?_; intro a hE
 refine Zf (wp_seq (Zc (Zd hE Za (dl rfl) rfl ?_))); intro a hE
 refine Zf ?_
 obtain ⟨j9, hl10, hF11⟩ := bind_some hF
 refine ZS (fun a w => ∃ s12 : (Vector (Vector UInt8 4) 4) × UInt8, j9 = Fl.nx s12 ∧ Env 153 a [(5, (ptr b3 0)), (6, (ptr b7 0)), (7, (vB s12.2))] ∧ M (Old w0) w0 w [raw b7 (Flat.enc s12.1), raw b3 (Flat.enc (Vector.replicate 4 (Vector.replicate 4 (0 : UInt8))))]) ?_ ?_
 ·skip
  refine wp_block ?_
  refine ZL (fun (s13 : (Vector (Vector UInt8 4) 4) × (Vector (Vector UInt8 4) 4) × Int × UInt8) a w => Env 153 a [(0, (vI p0)), (3, (ptr b1 0)), (5, (ptr b3 0)), (6, (ptr b7 0)), (7, (vB s13.2.2.2)), (16, (vI s13.2.2.1))] ∧ M (Old w0) w0 w [raw b7 (Flat.enc s13.2.1), raw b3 (Flat.enc (Vector.replicate 4 (Vector.replicate 4 (0 : UInt8)))), raw b1 (Flat.enc s13.1)]) hl10 ⟨hE.sub ⟨rfl, rfl, rfl, rfl, rfl, rfl, trivial⟩, hM⟩ ?_
  rintro s13 a w ⟨hE, hM⟩ o16 hs14 hx15
  unfold Yy at hs14
  refine Zc (Zh hE Za (dl rfl) rfl rfl rfl ?_); intro a hE
  refine Zf (wp_seq ?_)
  refine Zw hE rfl ?_ ?_
  ·intro hb17
   have hs14 := ZD hs14 hb17
   refine wp_skip (Zz (wp_seq (wp_block (Zc (Zd hE Za (dl rfl) rfl ?_))))); intro a hE
   refine Ze hE Za (dl rfl) rfl ?_; intro a hE
   refine Zf (Zc (Zd hE Za (dl rfl) rfl ?_)); intro a hE
   refine Ze hE Za (dl rfl) rfl ?_; intro a hE
   refine Zf ?_
   obtain ⟨j18, hl19, hF20⟩ := bind_some hs14
   refine ZR (fun a w => Env 153 a [(0, (vI p0)), (3, (ptr b1 0)), (5, (ptr b3 0)), (6, (ptr b7 0)), (7, (vB s13.2.2.2)), (8, (vI s13.2.2.1)), (9, (vI j18)), (16, (vI s13.2.2.1))] ∧ M (Old w0) w0 w [raw b7 (Flat.enc s13.2.1), raw b3 (Flat.enc (Vector.replicate 4 (Vector.replicate 4 (0 : UInt8)))), raw b1 (Flat.enc s13.1)]) ?_ ?_
   ·skip
    refine wp_block ?_
    refine ZL (fun (s21 : Int) a w => Env 153 a [(0, (vI p0)), (3, (ptr b1 0)), (5, (ptr b3 0)), (6, (ptr b7 0)), (7, (vB s13.2.2.2)), (8, (vI s13.2.2.1)), (9, (vI s21)), (16, (vI s13.2.2.1))] ∧ M (Old w0) w0 w [raw b7 (Flat.enc s13.2.1), raw b3 (Flat.enc (Vector.replicate 4 (Vector.replicate 4 (0 : UInt8)))), raw b1 (Flat.enc s13.1)]) hl19 ⟨hE.sub ⟨rfl, rfl, rfl, rfl, rfl, rfl, rfl, rfl, trivial⟩, hM⟩ ?_
    rintro s21 a w ⟨hE, hM⟩ o24 hs22 hx23
    unfold V5 at hs22
    refine wp_seq ?_
    obtain ⟨j25, hl26, hF27⟩ := bind_some hs22
    refine ZR (fun a w => Env 153 a [(0, (vI p0)), (3, (ptr b1 0)), (5, (ptr b3 0)), (6, (ptr b7 0)), (7, (vB s13.2.2.2)), (8, (vI s13.2.2.1)), (9, (vI s21)), (16, (vI s13.2.2.1)), (29, (vT j25))] ∧ M (Old w0) w0 w [raw b7 (Flat.enc s13.2.1), raw b3 (Flat.enc (Vector.replicate 4 (Vector.replicate 4 (0 : UInt8)))), raw b1 (Flat.enc s13.1)]) ?_ ?_
    ·skip
     refine wp_region_lit (Zd hE Za (dl rfl) rfl ?_); intro a hE
     refine Zh hE Za (dl rfl) rfl rfl rfl ?_; intro a hE
     refine Zd hE Za (dl rfl) rfl ?_; intro a hE
     refine Wj (decide (s21 < 4)) (fun hb28 => ?_) (fun hb28 => ?_)
     ·have hl26 := ZD hl26 hb28
      refine Zd hE (Zv hE rfl (lkb rfl hb28)) (by decide) rfl ?_; intro a hE
      refine Zd hE (Zv hE rfl (lkb rfl hb28)) (by decide) rfl ?_; intro a hE
      obtain ⟨x30, e31, hl26⟩ := bind_some hl26
      have hi29 := Zi e31
      refine Zo hE (Zv hE rfl (lkb rfl hb28)) (by decide) rfl rfl Tryz.underlying170 Y8 hi29.1 ?_; intro a hE
      obtain ⟨x33, e34, hl26⟩ := bind_some hl26
      have hi32 := Zi e34
      refine Zo hE (Zv hE rfl (lkb rfl hb28)) (by decide) rfl rfl Tryz.underlying168 ty5 hi32.1 ?_; intro a hE
      refine Zq (v := (vB x33)) hE (Zv hE rfl (lkb rfl hb28)) (by decide) rfl ty5 rfl (At.vec (At.vec (hM.rawAt (pre := [_, _])) hi29.2) hi32.2) ?_; intro a hE
      refine Zh hE (Zv hE rfl (lkb rfl hb28)) (by decide) rfl rfl (bB_eql x33 0) ?_; intro a hE
      refine Ya hE Za (dl rfl) (lkb rfl hb28) rfl ?_; intro a hE
      refine Zk ?_
      have ht35 := Option.some.inj hl26
      subst ht35
      refine Zn ?_
      exact ⟨hE.sub ⟨rfl, rfl, rfl, rfl, rfl, rfl, rfl, rfl, rfl, trivial⟩, hM⟩
     ·have hl26 := ZC hl26 hb28
      refine Zt hE rfl (lkb rfl hb28) rfl (by decide) ?_; intro a hE
      refine Zt hE rfl (lkb rfl hb28) rfl (by decide) ?_; intro a hE
      refine Zt hE rfl (lkb rfl hb28) rfl (by decide) ?_; intro a hE
      refine Zt hE rfl (lkb rfl hb28) rfl (by decide) ?_; intro a hE
      refine Zt hE rfl (lkb rfl hb28) rfl (by decide) ?_; intro a hE
      refine Zt hE rfl (lkb rfl hb28) rfl (by decide) ?_; intro a hE
      refine YT hE Za (dl rfl) (lkb rfl hb28) rfl ?_; intro a hE
      refine Zk ?_
      have ht36 := Option.some.inj hl26
      subst ht36
      refine Zn ?_
      exact ⟨hE.sub ⟨rfl, rfl, rfl, rfl, rfl, rfl, rfl, rfl, rfl, trivial⟩, hM⟩
    ·skip
     rintro a w ⟨hE, hM⟩
     refine Zw hE rfl ?_ ?_
     ·intro hb37
      have hF27 := ZD hF27 hb37
      refine wp_skip (Zz (wp_block (wp_region_lit (Zd hE Za (dl rfl) rfl ?_)))); intro a hE
      refine Zh hE Za (dl rfl) rfl rfl rfl ?_; intro a hE
      refine Ze hE Za (dl rfl) rfl ?_; intro a hE
      refine Zk (Yl (Zn ?_))
      exact ⟨_, (Option.some.inj hF27).symm, hE.sub ⟨rfl, rfl, rfl, rfl, rfl, rfl, rfl, rfl, trivial⟩, hM⟩
     ·intro hb37
      have hF27 := ZC hF27 hb37
      refine wp_exit (Zr (Zr (Yk ?_)))
      have ht38 := hx23 _ (Option.some.inj hF27).symm
      subst ht38
      refine Zn ?_
      exact ⟨hE.sub ⟨rfl, rfl, rfl, rfl, rfl, rfl, rfl, rfl, trivial⟩, hM⟩
   ·skip
    rintro a w ⟨hE, hM⟩
    refine wp_seq (Zc (Zd hE Za (dl rfl) rfl ?_)); intro a hE
    refine Zh hE Za (dl rfl) rfl rfl rfl ?_; intro a hE
    refine Zf ?_
    refine Zw hE rfl ?_ ?_
    ·intro hb39
     have hF20 := ZD hF20 hb39
     refine Zc (YO (parts := []) (vs := []) (cs := Flat.enc (Vector.replicate 4 (Vector.replicate 4 (0 : UInt8)))) hE Za (dl rfl) rfl rfl Uc rfl Y8 Yw ?_); intro a hE
     refine Ze hE Za (dl rfl) rfl ?_; intro a hE
     have hM := hM.pull (pre := [_])
     refine Zp (seg := Flat.enc (Vector.replicate 4 (Vector.replicate 4 (0 : UInt8)))) (cs' := Flat.enc (Vector.replicate 4 (Vector.replicate 4 (0 : UInt8)))) hE hM Za rfl rfl rfl Uc (Flat.len _) (zle flq) (Flat.cell _) (Zl flq) ?_; intro w a hM hE
     refine Zf ?_
     have ht40 := hx15 _ (Option.some.inj hF20).symm
     subst ht40
     have hr := Option.some.inj hF11
     subst hr
     have hq41 : Yq Tryz.prog _ _ (.cell 5 170) _ := ZQ hE rfl Uc rfl (hM.rawAt (pre := [])) (Flat.len _) rfl
     have hM := M.fst (l := []) hM
     exact wp_ret (ZG (Wg (ZG (ZG (Wg (ZG (ZG (k_ret2 hE rfl (Zu hE rfl) hq41 ⟨_, rfl, rfl, hM.kept⟩))))))))
    ·intro hb39
     have hF20 := ZC hF20 hb39
     refine wp_skip (Zz ?_)
     obtain ⟨j42, hl43, hF44⟩ := bind_some hF20
     refine ZR (fun a w => Env 153 a [(0, (vI p0)), (3, (ptr b1 0)), (5, (ptr b3 0)), (6, (ptr b7 0)), (7, (vB s13.2.2.2)), (8, (vI s13.2.2.1)), (9, (vI j18)), (16, (vI s13.2.2.1))] ∧ M (Old w0) w0 w [raw b7 (Flat.enc s13.2.1), raw b3 (Flat.enc (Vector.replicate 4 (Vector.replicate 4 (0 : UInt8)))), raw b1 (Flat.enc j42)]) ?_ ?_
     ·skip
      have hM := hM.pull (pre := [_, _])
      obtain ⟨x47, e48, hl43⟩ := bind_some hl43
      have hi46 := Zi e48
      obtain ⟨x50, e51, hl43⟩ := bind_some hl43
      have hi49 := Zi e51
      obtain ⟨x53, e54, hl43⟩ := bind_some hl43
      have hi52 := Zi e54
      refine UM (n := 153) (hd := [_, _, _, _, _, _, _, _, _, _]) (tl := [_, _]) YU rfl rfl [35, 36, 37, 38, 39, 40, 41, 42, 43, 162] (by decide) (fun D u w => M (Old w0) w0 w ([raw b7 (Flat.enc s13.2.1), raw b3 (Flat.enc (Vector.replicate 4 (Vector.replicate 4 (0 : UInt8))))] ++ qL ([mkT 9 (raw b1 (Flat.enc s13.1)) (raw b1 (Flat.enc (s13.1.setIfInBounds (j18).toNat x47)))] : Mk) D u) ∧ GOk ([([], fun us v => v = (vI j18)), ([], fun us v => v = (vI s13.2.2.1)), ([], fun us v => v = (vI s13.2.2.1)), ([], fun us v => v = (ptr b1 (0 + (s13.2.2.1).toNat * 4))), ([], fun us v => v = (Value.agg (Flat.enc x47).toArray)), ([], fun us v => v = (vI j18)), ([], fun us v => v = (ptr b1 (0 + (j18).toNat * 4))), ([], fun us v => v = (Value.agg (Flat.enc x50).toArray)), ([], fun us v => v = (ptr b1 (0 + (j18).toNat * 4))), ([], fun us v => True)] : Gs) D u) hE (fun u => ⟨M.qT (M.q0 hM.drew u), gok0⟩) (ZM (Zb ?_ (Zb ?_ (Zb ?_ (Zb ?_ (Zb ?_ (Zb ?_ (Zb ?_ (Zb ?_ (Zb ?_ (Zb ?_ ZH))))))))))) ?_
      ·intro a w ux45 D hE hI hD hdc hp
       have hM0 := hI.1
       have hM := hI.1
       have hM := hM.togA (pre := [_, _]) (Bool.eq_false_iff.2 fun hx => Bool.noConfusion (hD.symm.trans (hdc 9 _ _ rfl (List.mem_of_getElem? (i := 2) rfl) rfl hx)))
       refine Zd hE Za (dl rfl) rfl ?_; intro a hE
       exact ⟨_, _, rfl, hE, M.qKeep hM0 rfl, hI.2.put hD rfl ZW rfl⟩
      ·intro a w ux45 D hE hI hD hdc hp
       have hM0 := hI.1
       refine Zd hE Za (dl rfl) rfl ?_; intro a hE
       exact ⟨_, _, rfl, hE, M.qKeep hM0 rfl, hI.2.put hD rfl ZW rfl⟩
      ·intro a w ux45 D hE hI hD hdc hp
       have hM0 := hI.1
       have hM := hI.1
       have hM := hM.togA (pre := [_, _]) (Bool.eq_false_iff.2 fun hx => Bool.noConfusion (hD.symm.trans (hdc 9 _ _ rfl (List.mem_of_getElem? (i := 4) rfl) rfl hx)))
       refine Zd hE Za (dl rfl) rfl ?_; intro a hE
       exact ⟨_, _, rfl, hE, M.qKeep hM0 rfl, hI.2.put hD rfl ZW rfl⟩
      ·intro a w ux45 D hE hI hD hdc hp
       have d2 : D 2 = true := hp 0 _ rfl rfl
       have g2 := hI.2 2 d2 _ rfl
       have f2 : ux45 2 = (vI s13.2.2.1) := g2.2
       have hM0 := hI.1
       have hM := hI.1
       have hM := hM.togA (pre := [_, _]) (Bool.eq_false_iff.2 fun hx => Bool.noConfusion (hD.symm.trans (hdc 9 _ _ rfl (List.mem_of_getElem? (i := 5) rfl) rfl hx)))
       refine Zo hE Za (dl rfl) rfl (lk rfl f2) Tryz.underlying170 Y8 hi46.1 ?_; intro a hE
       exact ⟨_, _, rfl, hE, M.qKeep hM0 rfl, hI.2.put hD rfl ZW rfl⟩
      ·intro a w ux45 D hE hI hD hdc hp
       have d3 : D 3 = true := hp 0 _ rfl rfl
       have g3 := hI.2 3 d3 _ rfl
       have f3 : ux45 3 = (ptr b1 (0 + (s13.2.2.1).toNat * 4)) := g3.2
       have hM0 := hI.1
       have hM := hI.1
       have hM := hM.togA (pre := [_, _]) (Bool.eq_false_iff.2 fun hx => Bool.noConfusion (hD.symm.trans (hdc 9 _ _ rfl (List.mem_of_getElem? (i := 1) rfl) rfl hx)))
       refine Zm (cs := Flat.enc x47) hE Za (dl rfl) (lk rfl f3) Y8 rfl (At.vec (hM.rawAt (pre := [_, _])) hi46.2) (Flat.len _) ?_; intro a hE
       exact ⟨_, _, rfl, hE, M.qKeep hM0 rfl, hI.2.put hD rfl ZW rfl⟩
      ·intro a w ux45 D hE hI hD hdc hp
       have hM0 := hI.1
       refine Zd hE Za (dl rfl) rfl ?_; intro a hE
       exact ⟨_, _, rfl, hE, M.qKeep hM0 rfl, hI.2.put hD rfl ZW rfl⟩
      ·intro a w ux45 D hE hI hD hdc hp
       have d5 : D 5 = true := hp 0 _ rfl rfl
       have g5 := hI.2 5 d5 _ rfl
       have f5 : ux45 5 = (vI j18) := g5.2
       have hM0 := hI.1
       have hM := hI.1
       have hM := hM.togA (pre := [_, _]) (Bool.eq_false_iff.2 fun hx => Bool.noConfusion (hD.symm.trans (hdc 9 _ _ rfl (List.mem_of_getElem? (i := 8) rfl) rfl hx)))
       refine Zo hE Za (dl rfl) rfl (lk rfl f5) Tryz.underlying170 Y8 hi49.1 ?_; intro a hE
       exact ⟨_, _, rfl, hE, M.qKeep hM0 rfl, hI.2.put hD rfl ZW rfl⟩
      ·intro a w ux45 D hE hI hD hdc hp
       have d6 : D 6 = true := hp 0 _ rfl rfl
       have g6 := hI.2 6 d6 _ rfl
       have f6 : ux45 6 = (ptr b1 (0 + (j18).toNat * 4)) := g6.2
       have hM0 := hI.1
       have hM := hI.1
       have hM := hM.togA (pre := [_, _]) (Bool.eq_false_iff.2 fun hx => Bool.noConfusion (hD.symm.trans (hdc 9 _ _ rfl (List.mem_of_getElem? (i := 9) rfl) rfl hx)))
       refine Zm (cs := Flat.enc x50) hE Za (dl rfl) (lk rfl f6) Y8 rfl (At.vec (hM.rawAt (pre := [_, _])) hi49.2) (Flat.len _) ?_; intro a hE
       exact ⟨_, _, rfl, hE, M.qKeep hM0 rfl, hI.2.put hD rfl ZW rfl⟩
      ·intro a w ux45 D hE hI hD hdc hp
       have d0 : D 0 = true := hp 0 _ rfl rfl
       have g0 := hI.2 0 d0 _ rfl
       have f0 : ux45 0 = (vI j18) := g0.2
       have hM0 := hI.1
       have hM := hI.1
       have hM := hM.togA (pre := [_, _]) (Bool.eq_false_iff.2 fun hx => Bool.noConfusion (hD.symm.trans (hdc 9 _ _ rfl (List.mem_of_getElem? (i := 0) rfl) rfl hx)))
       refine Zo hE Za (dl rfl) rfl (lk rfl f0) Tryz.underlying170 Y8 hi52.1 ?_; intro a hE
       exact ⟨_, _, rfl, hE, M.qKeep hM0 rfl, hI.2.put hD rfl ZW rfl⟩
      ·intro a w ux45 D hE hI hD hdc hp
       have d4 : D 4 = true := hp 1 _ rfl rfl
       have g4 := hI.2 4 d4 _ rfl
       have f4 : ux45 4 = (Value.agg (Flat.enc x47).toArray) := g4.2
       have d8 : D 8 = true := hp 0 _ rfl rfl
       have g8 := hI.2 8 d8 _ rfl
       have f8 : ux45 8 = (ptr b1 (0 + (j18).toNat * 4)) := g8.2
       have hM0 := hI.1
       have hM := hI.1
       have hM := hM.togA (pre := [_, _]) hD
       have hM := hM.pull (pre := [_, _])
       refine Zp (seg := Flat.enc x47) (cs' := Flat.enc (s13.1.setIfInBounds (j18).toNat x47)) hE hM Za (lk rfl f8) (lk rfl f4) rfl Y8 (Flat.len _) (ZO (v := s13.1) (x := x47) hi52.1) (Flat.cell _) (ZI (v := s13.1) (x := x47) hi52.1) ?_; intro w a hM hE
       exact ⟨undef, _, rfl, Env.dummy hE (by decide), M.qTog (mk1 := []) (mk2 := []) hM rfl, hI.2.put hD rfl ZW trivial⟩
      ·intro a w ux45 D hE hI hall
       have hM := hI.1
       have d0 : D 0 = true := hall 0 (by decide)
       have d1 : D 1 = true := hall 1 (by decide)
       have d2 : D 2 = true := hall 2 (by decide)
       have d3 : D 3 = true := hall 3 (by decide)
       have d4 : D 4 = true := hall 4 (by decide)
       have d5 : D 5 = true := hall 5 (by decide)
       have d6 : D 6 = true := hall 6 (by decide)
       have d7 : D 7 = true := hall 7 (by decide)
       have d8 : D 8 = true := hall 8 (by decide)
       have d9 : D 9 = true := hall 9 (by decide)
       have f0 : ux45 0 = (vI j18) := (hI.2 0 d0 _ rfl).2
       have f1 : ux45 1 = (vI s13.2.2.1) := (hI.2 1 d1 _ rfl).2
       have f2 : ux45 2 = (vI s13.2.2.1) := (hI.2 2 d2 _ rfl).2
       have f3 : ux45 3 = (ptr b1 (0 + (s13.2.2.1).toNat * 4)) := (hI.2 3 d3 _ rfl).2
       have f4 : ux45 4 = (Value.agg (Flat.enc x47).toArray) := (hI.2 4 d4 _ rfl).2
       have f5 : ux45 5 = (vI j18) := (hI.2 5 d5 _ rfl).2
       have f6 : ux45 6 = (ptr b1 (0 + (j18).toNat * 4)) := (hI.2 6 d6 _ rfl).2
       have f7 : ux45 7 = (Value.agg (Flat.enc x50).toArray) := (hI.2 7 d7 _ rfl).2
       have f8 : ux45 8 = (ptr b1 (0 + (j18).toNat * 4)) := (hI.2 8 d8 _ rfl).2
       have hM := hM.togB (pre := [_, _]) d9
       have hE := hE.sub (e' := [(35, (vI j18)), (36, (vI s13.2.2.1)), (37, (vI s13.2.2.1)), (38, (ptr b1 (0 + (s13.2.2.1).toNat * 4))), (39, (Value.agg (Flat.enc x47).toArray)), (40, (vI j18)), (41, (ptr b1 (0 + (j18).toNat * 4))), (42, (Value.agg (Flat.enc x50).toArray)), (43, (ptr b1 (0 + (j18).toNat * 4))), (0, (vI p0)), (3, (ptr b1 0)), (5, (ptr b3 0)), (6, (ptr b7 0)), (7, (vB s13.2.2.2)), (8, (vI s13.2.2.1)), (9, (vI j18)), (16, (vI s13.2.2.1)), (32, (vI j18)), (33, (vT (j18 == 4)))]) ⟨lk rfl f0, lk rfl f1, lk rfl f2, lk rfl f3, lk rfl f4, lk rfl f5, lk rfl f6, lk rfl f7, lk rfl f8, rfl, rfl, rfl, rfl, rfl, rfl, rfl, rfl, rfl, rfl, trivial⟩
       obtain ⟨x56, e57, hl43⟩ := bind_some hl43
       have hi55 := Zi e57
       refine Zo hE Za (dl rfl) rfl rfl Tryz.underlying170 Y8 hi55.1 ?_; intro a hE
       have hM := hM.pull (pre := [_, _])
       refine Zp (seg := Flat.enc x50) (cs' := Flat.enc ((s13.1.setIfInBounds (j18).toNat x47).setIfInBounds (s13.2.2.1).toNat x50)) hE hM Za rfl rfl rfl Y8 (Flat.len _) (ZO (v := (s13.1.setIfInBounds (j18).toNat x47)) (x := x50) hi55.1) (Flat.cell _) (ZI (v := (s13.1.setIfInBounds (j18).toNat x47)) (x := x50) hi55.1) ?_; intro w a hM hE
       refine Zk ?_
       have ht58 := Option.some.inj hl43
       subst ht58
       refine Zn ?_
       have hM := hM.pull (pre := [_, _])
       have hM := hM.pull (pre := [_, _])
       exact ⟨hE.sub ⟨rfl, rfl, rfl, rfl, rfl, rfl, rfl, rfl, trivial⟩, hM⟩
     ·skip
      rintro a w ⟨hE, hM⟩
      obtain ⟨j59, hl60, hF61⟩ := bind_some hF44
      refine ZR (fun a w => Env 153 a [(0, (vI p0)), (3, (ptr b1 0)), (5, (ptr b3 0)), (6, (ptr b7 0)), (7, (vB s13.2.2.2)), (8, (vI s13.2.2.1)), (16, (vI s13.2.2.1))] ∧ M (Old w0) w0 w [raw b7 (Flat.enc j59), raw b3 (Flat.enc (Vector.replicate 4 (Vector.replicate 4 (0 : UInt8)))), raw b1 (Flat.enc j42)]) ?_ ?_
      ·skip
       obtain ⟨x64, e65, hl60⟩ := bind_some hl60
       have hi63 := Zi e65
       obtain ⟨x67, e68, hl60⟩ := bind_some hl60
       have hi66 := Zi e68
       obtain ⟨x70, e71, hl60⟩ := bind_some hl60
       have hi69 := Zi e71
       refine UM (n := 153) (hd := [_, _, _, _, _, _, _, _, _, _]) (tl := [_, _]) YU rfl rfl [45, 46, 47, 48, 49, 50, 51, 52, 53, 162] (by decide) (fun D u w => M (Old w0) w0 w ([raw b3 (Flat.enc (Vector.replicate 4 (Vector.replicate 4 (0 : UInt8)))), raw b1 (Flat.enc j42)] ++ qL ([mkT 9 (raw b7 (Flat.enc s13.2.1)) (raw b7 (Flat.enc (s13.2.1.setIfInBounds (j18).toNat x64)))] : Mk) D u) ∧ GOk ([([], fun us v => v = (vI j18)), ([], fun us v => v = (vI s13.2.2.1)), ([], fun us v => v = (vI s13.2.2.1)), ([], fun us v => v = (ptr b7 (0 + (s13.2.2.1).toNat * 4))), ([], fun us v => v = (Value.agg (Flat.enc x64).toArray)), ([], fun us v => v = (vI j18)), ([], fun us v => v = (ptr b7 (0 + (j18).toNat * 4))), ([], fun us v => v = (Value.agg (Flat.enc x67).toArray)), ([], fun us v => v = (ptr b7 (0 + (j18).toNat * 4))), ([], fun us v => True)] : Gs) D u) hE (fun u => ⟨M.qT (M.q0 hM.drew u), gok0⟩) (ZM (Zb ?_ (Zb ?_ (Zb ?_ (Zb ?_ (Zb ?_ (Zb ?_ (Zb ?_ (Zb ?_ (Zb ?_ (Zb ?_ ZH))))))))))) ?_
       ·intro a w ux62 D hE hI hD hdc hp
        have hM0 := hI.1
        have hM := hI.1
        have hM := hM.togA (pre := [_, _]) (Bool.eq_false_iff.2 fun hx => Bool.noConfusion (hD.symm.trans (hdc 9 _ _ rfl (List.mem_of_getElem? (i := 2) rfl) rfl hx)))
        refine Zd hE Za (dl rfl) rfl ?_; intro a hE
        exact ⟨_, _, rfl, hE, M.qKeep hM0 rfl, hI.2.put hD rfl ZW rfl⟩
       ·intro a w ux62 D hE hI hD hdc hp
        have hM0 := hI.1
        refine Zd hE Za (dl rfl) rfl ?_; intro a hE
        exact ⟨_, _, rfl, hE, M.qKeep hM0 rfl, hI.2.put hD rfl ZW rfl⟩
       ·intro a w ux62 D hE hI hD hdc hp
        have hM0 := hI.1
        have hM := hI.1
        have hM := hM.togA (pre := [_, _]) (Bool.eq_false_iff.2 fun hx => Bool.noConfusion (hD.symm.trans (hdc 9 _ _ rfl (List.mem_of_getElem? (i := 4) rfl) rfl hx)))
        refine Zd hE Za (dl rfl) rfl ?_; intro a hE
        exact ⟨_, _, rfl, hE, M.qKeep hM0 rfl, hI.2.put hD rfl ZW rfl⟩
       ·intro a w ux62 D hE hI hD hdc hp
        have d2 : D 2 = true := hp 0 _ rfl rfl
        have g2 := hI.2 2 d2 _ rfl
        have f2 : ux62 2 = (vI s13.2.2.1) := g2.2
        have hM0 := hI.1
        have hM := hI.1
        have hM := hM.togA (pre := [_, _]) (Bool.eq_false_iff.2 fun hx => Bool.noConfusion (hD.symm.trans (hdc 9 _ _ rfl (List.mem_of_getElem? (i := 5) rfl) rfl hx)))
        refine Zo hE Za (dl rfl) rfl (lk rfl f2) Tryz.underlying170 Y8 hi63.1 ?_; intro a hE
        exact ⟨_, _, rfl, hE, M.qKeep hM0 rfl, hI.2.put hD rfl ZW rfl⟩
       ·intro a w ux62 D hE hI hD hdc hp
        have d3 : D 3 = true := hp 0 _ rfl rfl
        have g3 := hI.2 3 d3 _ rfl
        have f3 : ux62 3 = (ptr b7 (0 + (s13.2.2.1).toNat * 4)) := g3.2
        have hM0 := hI.1
        have hM := hI.1
        have hM := hM.togA (pre := [_, _]) (Bool.eq_false_iff.2 fun hx => Bool.noConfusion (hD.symm.trans (hdc 9 _ _ rfl (List.mem_of_getElem? (i := 1) rfl) rfl hx)))
        refine Zm (cs := Flat.enc x64) hE Za (dl rfl) (lk rfl f3) Y8 rfl (At.vec (hM.rawAt (pre := [_, _])) hi63.2) (Flat.len _) ?_; intro a hE
        exact ⟨_, _, rfl, hE, M.qKeep hM0 rfl, hI.2.put hD rfl ZW rfl⟩
       ·intro a w ux62 D hE hI hD hdc hp
        have hM0 := hI.1
        refine Zd hE Za (dl rfl) rfl ?_; intro a hE
        exact ⟨_, _, rfl, hE, M.qKeep hM0 rfl, hI.2.put hD rfl ZW rfl⟩
       ·intro a w ux62 D hE hI hD hdc hp
        have d5 : D 5 = true := hp 0 _ rfl rfl
        have g5 := hI.2 5 d5 _ rfl
        have f5 : ux62 5 = (vI j18) := g5.2
        have hM0 := hI.1
        have hM := hI.1
        have hM := hM.togA (pre := [_, _]) (Bool.eq_false_iff.2 fun hx => Bool.noConfusion (hD.symm.trans (hdc 9 _ _ rfl (List.mem_of_getElem? (i := 8) rfl) rfl hx)))
        refine Zo hE Za (dl rfl) rfl (lk rfl f5) Tryz.underlying170 Y8 hi66.1 ?_; intro a hE
        exact ⟨_, _, rfl, hE, M.qKeep hM0 rfl, hI.2.put hD rfl ZW rfl⟩
       ·intro a w ux62 D hE hI hD hdc hp
        have d6 : D 6 = true := hp 0 _ rfl rfl
        have g6 := hI.2 6 d6 _ rfl
        have f6 : ux62 6 = (ptr b7 (0 + (j18).toNat * 4)) := g6.2
        have hM0 := hI.1
        have hM := hI.1
        have hM := hM.togA (pre := [_, _]) (Bool.eq_false_iff.2 fun hx => Bool.noConfusion (hD.symm.trans (hdc 9 _ _ rfl (List.mem_of_getElem? (i := 9) rfl) rfl hx)))
        refine Zm (cs := Flat.enc x67) hE Za (dl rfl) (lk rfl f6) Y8 rfl (At.vec (hM.rawAt (pre := [_, _])) hi66.2) (Flat.len _) ?_; intro a hE
        exact ⟨_, _, rfl, hE, M.qKeep hM0 rfl, hI.2.put hD rfl ZW rfl⟩
       ·intro a w ux62 D hE hI hD hdc hp
        have d0 : D 0 = true := hp 0 _ rfl rfl
        have g0 := hI.2 0 d0 _ rfl
        have f0 : ux62 0 = (vI j18) := g0.2
        have hM0 := hI.1
        have hM := hI.1
        have hM := hM.togA (pre := [_, _]) (Bool.eq_false_iff.2 fun hx => Bool.noConfusion (hD.symm.trans (hdc 9 _ _ rfl (List.mem_of_getElem? (i := 0) rfl) rfl hx)))
        refine Zo hE Za (dl rfl) rfl (lk rfl f0) Tryz.underlying170 Y8 hi69.1 ?_; intro a hE
        exact ⟨_, _, rfl, hE, M.qKeep hM0 rfl, hI.2.put hD rfl ZW rfl⟩
       ·intro a w ux62 D hE hI hD hdc hp
        have d4 : D 4 = true := hp 1 _ rfl rfl
        have g4 := hI.2 4 d4 _ rfl
        have f4 : ux62 4 = (Value.agg (Flat.enc x64).toArray) := g4.2
        have d8 : D 8 = true := hp 0 _ rfl rfl
        have g8 := hI.2 8 d8 _ rfl
        have f8 : ux62 8 = (ptr b7 (0 + (j18).toNat * 4)) := g8.2
        have hM0 := hI.1
        have hM := hI.1
        have hM := hM.togA (pre := [_, _]) hD
        have hM := hM.pull (pre := [_, _])
        refine Zp (seg := Flat.enc x64) (cs' := Flat.enc (s13.2.1.setIfInBounds (j18).toNat x64)) hE hM Za (lk rfl f8) (lk rfl f4) rfl Y8 (Flat.len _) (ZO (v := s13.2.1) (x := x64) hi69.1) (Flat.cell _) (ZI (v := s13.2.1) (x := x64) hi69.1) ?_; intro w a hM hE
        exact ⟨undef, _, rfl, Env.dummy hE (by decide), M.qTog (mk1 := []) (mk2 := []) hM rfl, hI.2.put hD rfl ZW trivial⟩
       ·intro a w ux62 D hE hI hall
        have hM := hI.1
        have d0 : D 0 = true := hall 0 (by decide)
        have d1 : D 1 = true := hall 1 (by decide)
        have d2 : D 2 = true := hall 2 (by decide)
        have d3 : D 3 = true := hall 3 (by decide)
        have d4 : D 4 = true := hall 4 (by decide)
        have d5 : D 5 = true := hall 5 (by decide)
        have d6 : D 6 = true := hall 6 (by decide)
        have d7 : D 7 = true := hall 7 (by decide)
        have d8 : D 8 = true := hall 8 (by decide)
        have d9 : D 9 = true := hall 9 (by decide)
        have f0 : ux62 0 = (vI j18) := (hI.2 0 d0 _ rfl).2
        have f1 : ux62 1 = (vI s13.2.2.1) := (hI.2 1 d1 _ rfl).2
        have f2 : ux62 2 = (vI s13.2.2.1) := (hI.2 2 d2 _ rfl).2
        have f3 : ux62 3 = (ptr b7 (0 + (s13.2.2.1).toNat * 4)) := (hI.2 3 d3 _ rfl).2
        have f4 : ux62 4 = (Value.agg (Flat.enc x64).toArray) := (hI.2 4 d4 _ rfl).2
        have f5 : ux62 5 = (vI j18) := (hI.2 5 d5 _ rfl).2
        have f6 : ux62 6 = (ptr b7 (0 + (j18).toNat * 4)) := (hI.2 6 d6 _ rfl).2
        have f7 : ux62 7 = (Value.agg (Flat.enc x67).toArray) := (hI.2 7 d7 _ rfl).2
        have f8 : ux62 8 = (ptr b7 (0 + (j18).toNat * 4)) := (hI.2 8 d8 _ rfl).2
        have hM := hM.togB (pre := [_, _]) d9
        have hE := hE.sub (e' := [(45, (vI j18)), (46, (vI s13.2.2.1)), (47, (vI s13.2.2.1)), (48, (ptr b7 (0 + (s13.2.2.1).toNat * 4))), (49, (Value.agg (Flat.enc x64).toArray)), (50, (vI j18)), (51, (ptr b7 (0 + (j18).toNat * 4))), (52, (Value.agg (Flat.enc x67).toArray)), (53, (ptr b7 (0 + (j18).toNat * 4))), (0, (vI p0)), (3, (ptr b1 0)), (5, (ptr b3 0)), (6, (ptr b7 0)), (7, (vB s13.2.2.2)), (8, (vI s13.2.2.1)), (9, (vI j18)), (16, (vI s13.2.2.1))]) ⟨lk rfl f0, lk rfl f1, lk rfl f2, lk rfl f3, lk rfl f4, lk rfl f5, lk rfl f6, lk rfl f7, lk rfl f8, rfl, rfl, rfl, rfl, rfl, rfl, rfl, rfl, trivial⟩
        obtain ⟨x73, e74, hl60⟩ := bind_some hl60
        have hi72 := Zi e74
        refine Zo hE Za (dl rfl) rfl rfl Tryz.underlying170 Y8 hi72.1 ?_; intro a hE
        have hM := hM.pull (pre := [_, _])
        refine Zp (seg := Flat.enc x67) (cs' := Flat.enc ((s13.2.1.setIfInBounds (j18).toNat x64).setIfInBounds (s13.2.2.1).toNat x67)) hE hM Za rfl rfl rfl Y8 (Flat.len _) (ZO (v := (s13.2.1.setIfInBounds (j18).toNat x64)) (x := x67) hi72.1) (Flat.cell _) (ZI (v := (s13.2.1.setIfInBounds (j18).toNat x64)) (x := x67) hi72.1) ?_; intro w a hM hE
        refine Zk ?_
        have ht75 := Option.some.inj hl60
        subst ht75
        refine Zn ?_
        exact ⟨hE.sub ⟨rfl, rfl, rfl, rfl, rfl, rfl, rfl, trivial⟩, hM⟩
      ·skip
       rintro a w ⟨hE, hM⟩
       refine Zc (Zd hE Za (dl rfl) rfl ?_); intro a hE
       refine Zd hE Za (dl rfl) rfl ?_; intro a hE
       refine Zd hE Za (dl rfl) rfl ?_; intro a hE
       refine Zd hE Za (dl rfl) rfl ?_; intro a hE
       obtain ⟨x77, e78, hF61⟩ := bind_some hF61
       have hi76 := Zi e78
       refine Zo hE Za (dl rfl) rfl rfl Tryz.underlying170 Y8 hi76.1 ?_; intro a hE
       obtain ⟨x80, e81, hF61⟩ := bind_some hF61
       have hi79 := Zi e81
       refine Zo hE Za (dl rfl) rfl rfl Tryz.underlying168 ty5 hi79.1 ?_; intro a hE
       refine Zq (v := (vB x80)) hE Za (dl rfl) rfl ty5 rfl (At.vec (At.vec (hM.rawAt (pre := [_, _])) hi76.2) hi79.2) ?_; intro a hE
       obtain ⟨r82, e83, hF61⟩ := bind_some hF61
       refine Zs (vs := [(vI p0), (vB s13.2.2.2), (vB x80)]) hE Za (dl rfl) rfl cb239 (Yz _ p0 s13.2.2.2 x80 r82 e83) ?_
       rintro v w a ⟨rfl, hK⟩ hE
       have hM := hM.keep hK
       refine Ze hE Za (dl rfl) rfl ?_; intro a hE
       refine Zf (Zc (Zd hE Za (dl rfl) rfl ?_)); intro a hE
       refine Zd hE Za (dl rfl) rfl ?_; intro a hE
       refine Zd hE Za (dl rfl) rfl ?_; intro a hE
       obtain ⟨x85, e86, hF61⟩ := bind_some hF61
       have hi84 := Zi e86
       refine Zo hE Za (dl rfl) rfl rfl Tryz.underlying170 Y8 hi84.1 ?_; intro a hE
       obtain ⟨x88, e89, hF61⟩ := bind_some hF61
       have hi87 := Zi e89
       refine Zo hE Za (dl rfl) rfl rfl Tryz.underlying168 ty5 hi87.1 ?_; intro a hE
       refine Zq (v := (vB x88)) hE Za (dl rfl) rfl ty5 rfl (At.vec (At.vec (hM.rawAt (pre := [_, _])) hi84.2) hi87.2) ?_; intro a hE
       obtain ⟨r90, e91, hF61⟩ := bind_some hF61
       refine Zs (vs := [(vI p0), (vB x88)]) hE Za (dl rfl) rfl cb219 (V1 _ p0 x88 r90 e91) ?_
       rintro v w a ⟨rfl, hK⟩ hE
       have hM := hM.keep hK
       refine Ze hE Za (dl rfl) rfl ?_; intro a hE
       refine Zf (wp_seq (Zc (Zd hE Za (dl rfl) rfl ?_))); intro a hE
       refine Zf ?_
       obtain ⟨j92, hl93, hF94⟩ := bind_some hF61
       refine ZS (fun a w => Env 153 a [(0, (vI p0)), (3, (ptr b1 0)), (5, (ptr b3 0)), (6, (ptr b7 0)), (7, (vB r82)), (8, (vI s13.2.2.1)), (16, (vI s13.2.2.1))] ∧ M (Old w0) w0 w [raw b7 (Flat.enc j92.2), raw b3 (Flat.enc (Vector.replicate 4 (Vector.replicate 4 (0 : UInt8)))), raw b1 (Flat.enc j92.1)]) ?_ ?_
       ·skip
        refine wp_block ?_
        refine ZL (fun (s95 : (Vector (Vector UInt8 4) 4) × (Vector (Vector UInt8 4) 4) × Int) a w => Env 153 a [(0, (vI p0)), (3, (ptr b1 0)), (5, (ptr b3 0)), (6, (ptr b7 0)), (7, (vB r82)), (8, (vI s13.2.2.1)), (10, (vB r90)), (16, (vI s13.2.2.1)), (70, (vI s95.2.2))] ∧ M (Old w0) w0 w [raw b7 (Flat.enc s95.2.1), raw b3 (Flat.enc (Vector.replicate 4 (Vector.replicate 4 (0 : UInt8)))), raw b1 (Flat.enc s95.1)]) hl93 ⟨hE.sub ⟨rfl, rfl, rfl, rfl, rfl, rfl, rfl, rfl, rfl, trivial⟩, hM⟩ ?_
        rintro s95 a w ⟨hE, hM⟩ o98 hs96 hx97
        unfold Xv at hs96
        refine Zc (Zh hE Za (dl rfl) rfl rfl rfl ?_); intro a hE
        refine Zf (wp_seq ?_)
        refine Zw hE rfl ?_ ?_
        ·intro hb99
         have hs96 := ZD hs96 hb99
         refine wp_skip (Zz (wp_seq (wp_block (Zc (Zd hE Za (dl rfl) rfl ?_))))); intro a hE
         refine Ze hE Za (dl rfl) rfl ?_; intro a hE
         refine Zf ?_
         have hM := hM.pull (pre := [_, _])
         obtain ⟨x102, e103, hs96⟩ := bind_some hs96
         have hi101 := Zi e103
         obtain ⟨x105, e106, hs96⟩ := bind_some hs96
         have hi104 := Zi e106
         obtain ⟨r107, e108, hs96⟩ := bind_some hs96
         obtain ⟨x110, e111, hs96⟩ := bind_some hs96
         have hi109 := Zi e111
         obtain ⟨x113, e114, hs96⟩ := bind_some hs96
         have hi112 := Zi e114
         obtain ⟨r115, e116, hs96⟩ := bind_some hs96
         obtain ⟨x118, e119, hs96⟩ := bind_some hs96
         have hi117 := Zi e119
         obtain ⟨x121, e122, hs96⟩ := bind_some hs96
         have hi120 := Zi e122
         obtain ⟨x124, e125, hs96⟩ := bind_some hs96
         have hi123 := Zi e125
         refine UM (n := 153) (hd := [_, _, _, _, _, _, _, _, _, _, _, _, _, _, _, _, _, _, _, _, _, _, _, _]) (tl := [_, _]) YU rfl rfl [73, 74, 75, 76, 77, 78, 79, 80, 81, 82, 83, 84, 85, 86, 87, 88, 89, 90, 91, 92, 93, 94, 175, 95] (by decide) (fun D u w => M (Old w0) w0 w ([raw b7 (Flat.enc s95.2.1), raw b3 (Flat.enc (Vector.replicate 4 (Vector.replicate 4 (0 : UInt8))))] ++ qL ([mkT 22 (raw b1 (Flat.enc s95.1)) (raw b1 (Flat.enc (s95.1.setIfInBounds (s13.2.2.1).toNat (x118.setIfInBounds (s95.2.2).toNat r107))))] : Mk) D u) ∧ GOk ([([], fun us v => v = (vI s13.2.2.1)), ([], fun us v => v = (vI s95.2.2)), ([], fun us v => v = (vI s13.2.2.1)), ([], fun us v => v = (vI s95.2.2)), ([], fun us v => v = (vI p0)), ([], fun us v => v = (vI s13.2.2.1)), ([], fun us v => v = (vI s95.2.2)), ([], fun us v => v = (ptr b1 (0 + (s13.2.2.1).toNat * 4))), ([], fun us v => v = (ptr b1 (0 + (s13.2.2.1).toNat * 4 + (s95.2.2).toNat * 1))), ([], fun us v => v = (vB x105)), ([], fun us v => v = (vB r90)), ([], fun us v => v = (vB r107)), ([], fun us v => v = (vI p0)), ([], fun us v => v = (vI s13.2.2.1)), ([], fun us v => v = (vI s95.2.2)), ([], fun us v => v = (ptr b7 (0 + (s13.2.2.1).toNat * 4))), ([], fun us v => v = (ptr b7 (0 + (s13.2.2.1).toNat * 4 + (s95.2.2).toNat * 1))), ([], fun us v => v = (vB x113)), ([], fun us v => v = (vB r90)), ([], fun us v => v = (vB r115)), ([], fun us v => v = (ptr b1 (0 + (s13.2.2.1).toNat * 4))), ([], fun us v => v = (ptr b1 (0 + (s13.2.2.1).toNat * 4 + (s95.2.2).toNat * 1))), ([], fun us v => True), ([], fun us v => v = (ptr b7 (0 + (s13.2.2.1).toNat * 4)))] : Gs) D u) hE (fun u => ⟨M.qT (M.q0 hM.drew u), gok0⟩) (ZM (Zb ?_ (Zb ?_ (Zb ?_ (Zb ?_ (Zb ?_ (Zb ?_ (Zb ?_ (Zb ?_ (Zb ?_ (Zb ?_ (Zb ?_ (Zb ?_ (Zb ?_ (Zb ?_ (Zb ?_ (Zb ?_ (Zb ?_ (Zb ?_ (Zb ?_ (Zb ?_ (Zb ?_ (Zb ?_ (Zb ?_ (Zb ?_ ZH))))))))))))))))))))))))) ?_
         ·intro a w ux100 D hE hI hD hdc hp
          have hM0 := hI.1
          have hM := hI.1
          have hM := hM.togA (pre := [_, _]) (Bool.eq_false_iff.2 fun hx => Bool.noConfusion (hD.symm.trans (hdc 22 _ _ rfl (List.mem_of_getElem? (i := 3) rfl) rfl hx)))
          refine Zd hE Za (dl rfl) rfl ?_; intro a hE
          exact ⟨_, _, rfl, hE, M.qKeep hM0 rfl, hI.2.put hD rfl ZW rfl⟩
         ·intro a w ux100 D hE hI hD hdc hp
          have hM0 := hI.1
          have hM := hI.1
          have hM := hM.togA (pre := [_, _]) (Bool.eq_false_iff.2 fun hx => Bool.noConfusion (hD.symm.trans (hdc 22 _ _ rfl (List.mem_of_getElem? (i := 4) rfl) rfl hx)))
          refine Zd hE Za (dl rfl) rfl ?_; intro a hE
          exact ⟨_, _, rfl, hE, M.qKeep hM0 rfl, hI.2.put hD rfl ZW rfl⟩
         ·intro a w ux100 D hE hI hD hdc hp
          have hM0 := hI.1
          refine Zd hE Za (dl rfl) rfl ?_; intro a hE
          exact ⟨_, _, rfl, hE, M.qKeep hM0 rfl, hI.2.put hD rfl ZW rfl⟩
         ·intro a w ux100 D hE hI hD hdc hp
          have hM0 := hI.1
          refine Zd hE Za (dl rfl) rfl ?_; intro a hE
          exact ⟨_, _, rfl, hE, M.qKeep hM0 rfl, hI.2.put hD rfl ZW rfl⟩
         ·intro a w ux100 D hE hI hD hdc hp
          have hM0 := hI.1
          have hM := hI.1
          have hM := hM.togA (pre := [_, _]) (Bool.eq_false_iff.2 fun hx => Bool.noConfusion (hD.symm.trans (hdc 22 _ _ rfl (List.mem_of_getElem? (i := 7) rfl) rfl hx)))
          refine Zd hE Za (dl rfl) rfl ?_; intro a hE
          exact ⟨_, _, rfl, hE, M.qKeep hM0 rfl, hI.2.put hD rfl ZW rfl⟩
         ·intro a w ux100 D hE hI hD hdc hp
          have hM0 := hI.1
          have hM := hI.1
          have hM := hM.togA (pre := [_, _]) (Bool.eq_false_iff.2 fun hx => Bool.noConfusion (hD.symm.trans (hdc 22 _ _ rfl (List.mem_of_getElem? (i := 8) rfl) rfl hx)))
          refine Zd hE Za (dl rfl) rfl ?_; intro a hE
          exact ⟨_, _, rfl, hE, M.qKeep hM0 rfl, hI.2.put hD rfl ZW rfl⟩
         ·intro a w ux100 D hE hI hD hdc hp
          have hM0 := hI.1
          have hM := hI.1
          have hM := hM.togA (pre := [_, _]) (Bool.eq_false_iff.2 fun hx => Bool.noConfusion (hD.symm.trans (hdc 22 _ _ rfl (List.mem_of_getElem? (i := 9) rfl) rfl hx)))
          refine Zd hE Za (dl rfl) rfl ?_; intro a hE
          exact ⟨_, _, rfl, hE, M.qKeep hM0 rfl, hI.2.put hD rfl ZW rfl⟩
         ·intro a w ux100 D hE hI hD hdc hp
          have d5 : D 5 = true := hp 0 _ rfl rfl
          have g5 := hI.2 5 d5 _ rfl
          have f5 : ux100 5 = (vI s13.2.2.1) := g5.2
          have hM0 := hI.1
          have hM := hI.1
          have hM := hM.togA (pre := [_, _]) (Bool.eq_false_iff.2 fun hx => Bool.noConfusion (hD.symm.trans (hdc 22 _ _ rfl (List.mem_of_getElem? (i := 10) rfl) rfl hx)))
          refine Zo hE Za (dl rfl) rfl (lk rfl f5) Tryz.underlying170 Y8 hi101.1 ?_; intro a hE
          exact ⟨_, _, rfl, hE, M.qKeep hM0 rfl, hI.2.put hD rfl ZW rfl⟩
         ·intro a w ux100 D hE hI hD hdc hp
          have d6 : D 6 = true := hp 1 _ rfl rfl
          have g6 := hI.2 6 d6 _ rfl
          have f6 : ux100 6 = (vI s95.2.2) := g6.2
          have d7 : D 7 = true := hp 0 _ rfl rfl
          have g7 := hI.2 7 d7 _ rfl
          have f7 : ux100 7 = (ptr b1 (0 + (s13.2.2.1).toNat * 4)) := g7.2
          have hM0 := hI.1
          have hM := hI.1
          have hM := hM.togA (pre := [_, _]) (Bool.eq_false_iff.2 fun hx => Bool.noConfusion (hD.symm.trans (hdc 22 _ _ rfl (List.mem_of_getElem? (i := 11) rfl) rfl hx)))
          refine Zo hE Za (dl rfl) (lk rfl f7) (lk rfl f6) Tryz.underlying168 ty5 hi104.1 ?_; intro a hE
          exact ⟨_, _, rfl, hE, M.qKeep hM0 rfl, hI.2.put hD rfl ZW rfl⟩
         ·intro a w ux100 D hE hI hD hdc hp
          have d8 : D 8 = true := hp 0 _ rfl rfl
          have g8 := hI.2 8 d8 _ rfl
          have f8 : ux100 8 = (ptr b1 (0 + (s13.2.2.1).toNat * 4 + (s95.2.2).toNat * 1)) := g8.2
          have hM0 := hI.1
          have hM := hI.1
          have hM := hM.togA (pre := [_, _]) (Bool.eq_false_iff.2 fun hx => Bool.noConfusion (hD.symm.trans (hdc 22 _ _ rfl (List.mem_of_getElem? (i := 12) rfl) rfl hx)))
          refine Zq (v := (vB x105)) hE Za (dl rfl) (lk rfl f8) ty5 rfl (At.vec (At.vec (hM.rawAt (pre := [_, _])) hi101.2) hi104.2) ?_; intro a hE
          exact ⟨_, _, rfl, hE, M.qKeep hM0 rfl, hI.2.put hD rfl ZW rfl⟩
         ·intro a w ux100 D hE hI hD hdc hp
          have hM0 := hI.1
          have hM := hI.1
          have hM := hM.togA (pre := [_, _]) (Bool.eq_false_iff.2 fun hx => Bool.noConfusion (hD.symm.trans (hdc 22 _ _ rfl (List.mem_of_getElem? (i := 13) rfl) rfl hx)))
          refine Zd hE Za (dl rfl) rfl ?_; intro a hE
          exact ⟨_, _, rfl, hE, M.qKeep hM0 rfl, hI.2.put hD rfl ZW rfl⟩
         ·intro a w ux100 D hE hI hD hdc hp
          have d4 : D 4 = true := hp 0 _ rfl rfl
          have g4 := hI.2 4 d4 _ rfl
          have f4 : ux100 4 = (vI p0) := g4.2
          have d9 : D 9 = true := hp 1 _ rfl rfl
          have g9 := hI.2 9 d9 _ rfl
          have f9 : ux100 9 = (vB x105) := g9.2
          have d10 : D 10 = true := hp 2 _ rfl rfl
          have g10 := hI.2 10 d10 _ rfl
          have f10 : ux100 10 = (vB r90) := g10.2
          have hM0 := hI.1
          have hM := hI.1
          have hM := hM.togA (pre := [_, _]) (Bool.eq_false_iff.2 fun hx => Bool.noConfusion (hD.symm.trans (hdc 22 _ _ rfl (List.mem_of_getElem? (i := 1) rfl) rfl hx)))
          refine Zs (vs := [(vI p0), (vB x105), (vB r90)]) hE Za (dl rfl) (ZZ (ZT (lk rfl f4) (ZT (lk rfl f9) (ZT (lk rfl f10) Y7)))) cb239 (Yz _ p0 x105 r90 r107 e108) ?_
          rintro v w a ⟨rfl, hK⟩ hE
          exact ⟨_, _, rfl, hE, M.qKeep (hM0.keep hK) rfl, hI.2.put hD rfl ZW rfl⟩
         ·intro a w ux100 D hE hI hD hdc hp
          have hM0 := hI.1
          refine Zd hE Za (dl rfl) rfl ?_; intro a hE
          exact ⟨_, _, rfl, hE, M.qKeep hM0 rfl, hI.2.put hD rfl ZW rfl⟩
         ·intro a w ux100 D hE hI hD hdc hp
          have hM0 := hI.1
          refine Zd hE Za (dl rfl) rfl ?_; intro a hE
          exact ⟨_, _, rfl, hE, M.qKeep hM0 rfl, hI.2.put hD rfl ZW rfl⟩
         ·intro a w ux100 D hE hI hD hdc hp
          have hM0 := hI.1
          refine Zd hE Za (dl rfl) rfl ?_; intro a hE
          exact ⟨_, _, rfl, hE, M.qKeep hM0 rfl, hI.2.put hD rfl ZW rfl⟩
         ·intro a w ux100 D hE hI hD hdc hp
          have d13 : D 13 = true := hp 0 _ rfl rfl
          have g13 := hI.2 13 d13 _ rfl
          have f13 : ux100 13 = (vI s13.2.2.1) := g13.2
          have hM0 := hI.1
          refine Zo hE Za (dl rfl) rfl (lk rfl f13) Tryz.underlying170 Y8 hi109.1 ?_; intro a hE
          exact ⟨_, _, rfl, hE, M.qKeep hM0 rfl, hI.2.put hD rfl ZW rfl⟩
         ·intro a w ux100 D hE hI hD hdc hp
          have d14 : D 14 = true := hp 1 _ rfl rfl
          have g14 := hI.2 14 d14 _ rfl
          have f14 : ux100 14 = (vI s95.2.2) := g14.2
          have d15 : D 15 = true := hp 0 _ rfl rfl
          have g15 := hI.2 15 d15 _ rfl
          have f15 : ux100 15 = (ptr b7 (0 + (s13.2.2.1).toNat * 4)) := g15.2
          have hM0 := hI.1
          refine Zo hE Za (dl rfl) (lk rfl f15) (lk rfl f14) Tryz.underlying168 ty5 hi112.1 ?_; intro a hE
          exact ⟨_, _, rfl, hE, M.qKeep hM0 rfl, hI.2.put hD rfl ZW rfl⟩
         ·intro a w ux100 D hE hI hD hdc hp
          have d16 : D 16 = true := hp 0 _ rfl rfl
          have g16 := hI.2 16 d16 _ rfl
          have f16 : ux100 16 = (ptr b7 (0 + (s13.2.2.1).toNat * 4 + (s95.2.2).toNat * 1)) := g16.2
          have hM0 := hI.1
          have hM := hI.1
          refine Zq (v := (vB x113)) hE Za (dl rfl) (lk rfl f16) ty5 rfl (At.vec (At.vec (hM.rawAt (pre := [])) hi109.2) hi112.2) ?_; intro a hE
          exact ⟨_, _, rfl, hE, M.qKeep hM0 rfl, hI.2.put hD rfl ZW rfl⟩
         ·intro a w ux100 D hE hI hD hdc hp
          have hM0 := hI.1
          refine Zd hE Za (dl rfl) rfl ?_; intro a hE
          exact ⟨_, _, rfl, hE, M.qKeep hM0 rfl, hI.2.put hD rfl ZW rfl⟩
         ·intro a w ux100 D hE hI hD hdc hp
          have d12 : D 12 = true := hp 0 _ rfl rfl
          have g12 := hI.2 12 d12 _ rfl
          have f12 : ux100 12 = (vI p0) := g12.2
          have d17 : D 17 = true := hp 1 _ rfl rfl
          have g17 := hI.2 17 d17 _ rfl
          have f17 : ux100 17 = (vB x113) := g17.2
          have d18 : D 18 = true := hp 2 _ rfl rfl
          have g18 := hI.2 18 d18 _ rfl
          have f18 : ux100 18 = (vB r90) := g18.2
          have hM0 := hI.1
          have hM := hI.1
          have hM := hM.togA (pre := [_, _]) (Bool.eq_false_iff.2 fun hx => Bool.noConfusion (hD.symm.trans (hdc 22 _ _ rfl (List.mem_of_getElem? (i := 2) rfl) rfl hx)))
          refine Zs (vs := [(vI p0), (vB x113), (vB r90)]) hE Za (dl rfl) (ZZ (ZT (lk rfl f12) (ZT (lk rfl f17) (ZT (lk rfl f18) Y7)))) cb239 (Yz _ p0 x113 r90 r115 e116) ?_
          rintro v w a ⟨rfl, hK⟩ hE
          exact ⟨_, _, rfl, hE, M.qKeep (hM0.keep hK) rfl, hI.2.put hD rfl ZW rfl⟩
         ·intro a w ux100 D hE hI hD hdc hp
          have d0 : D 0 = true := hp 0 _ rfl rfl
          have g0 := hI.2 0 d0 _ rfl
          have f0 : ux100 0 = (vI s13.2.2.1) := g0.2
          have hM0 := hI.1
          refine Zo hE Za (dl rfl) rfl (lk rfl f0) Tryz.underlying170 Y8 hi117.1 ?_; intro a hE
          exact ⟨_, _, rfl, hE, M.qKeep hM0 rfl, hI.2.put hD rfl ZW rfl⟩
         ·intro a w ux100 D hE hI hD hdc hp
          have d1 : D 1 = true := hp 1 _ rfl rfl
          have g1 := hI.2 1 d1 _ rfl
          have f1 : ux100 1 = (vI s95.2.2) := g1.2
          have d20 : D 20 = true := hp 0 _ rfl rfl
          have g20 := hI.2 20 d20 _ rfl
          have f20 : ux100 20 = (ptr b1 (0 + (s13.2.2.1).toNat * 4)) := g20.2
          have hM0 := hI.1
          have hM := hI.1
          have hM := hM.togA (pre := [_, _]) (Bool.eq_false_iff.2 fun hx => Bool.noConfusion (hD.symm.trans (hdc 22 _ _ rfl (List.mem_of_getElem? (i := 0) rfl) rfl hx)))
          refine Zo hE Za (dl rfl) (lk rfl f20) (lk rfl f1) Tryz.underlying168 ty5 hi120.1 ?_; intro a hE
          exact ⟨_, _, rfl, hE, M.qKeep hM0 rfl, hI.2.put hD rfl ZW rfl⟩
         ·intro a w ux100 D hE hI hD hdc hp
          have d11 : D 11 = true := hp 1 _ rfl rfl
          have g11 := hI.2 11 d11 _ rfl
          have f11 : ux100 11 = (vB r107) := g11.2
          have d21 : D 21 = true := hp 0 _ rfl rfl
          have g21 := hI.2 21 d21 _ rfl
          have f21 : ux100 21 = (ptr b1 (0 + (s13.2.2.1).toNat * 4 + (s95.2.2).toNat * 1)) := g21.2
          have hM0 := hI.1
          have hM := hI.1
          have hM := hM.togA (pre := [_, _]) hD
          have hM := hM.pull (pre := [_, _])
          refine Zp (seg := [(vB r107)]) (cs' := Flat.enc (s95.1.setIfInBounds (s13.2.2.1).toNat (x118.setIfInBounds (s95.2.2).toNat r107))) hE hM Za (lk rfl f21) (lk rfl f11) rfl ty5 rfl (Vy (o' := 0 + (s95.2.2).toNat * 1) hi117 (ZO (v := x118) (x := r107) hi120.1) (by first | omega | (simp only [Flat.n] <;> omega))) (Flat.cell (r107 : UInt8)) (WG (o' := 0 + (s95.2.2).toNat * 1) hi117 (ZO (v := x118) (x := r107) hi120.1) (ZI (v := x118) (x := r107) hi120.1) (by first | omega | (simp only [Flat.n] <;> omega))) ?_; intro w a hM hE
          exact ⟨undef, _, rfl, Env.dummy hE (by decide), M.qTog (mk1 := []) (mk2 := []) hM rfl, hI.2.put hD rfl ZW trivial⟩
         ·intro a w ux100 D hE hI hD hdc hp
          have d2 : D 2 = true := hp 0 _ rfl rfl
          have g2 := hI.2 2 d2 _ rfl
          have f2 : ux100 2 = (vI s13.2.2.1) := g2.2
          have hM0 := hI.1
          refine Zo hE Za (dl rfl) rfl (lk rfl f2) Tryz.underlying170 Y8 hi123.1 ?_; intro a hE
          exact ⟨_, _, rfl, hE, M.qKeep hM0 rfl, hI.2.put hD rfl ZW rfl⟩
         ·intro a w ux100 D hE hI hall
          have hM := hI.1
          have d0 : D 0 = true := hall 0 (by decide)
          have d1 : D 1 = true := hall 1 (by decide)
          have d2 : D 2 = true := hall 2 (by decide)
          have d3 : D 3 = true := hall 3 (by decide)
          have d4 : D 4 = true := hall 4 (by decide)
          have d5 : D 5 = true := hall 5 (by decide)
          have d6 : D 6 = true := hall 6 (by decide)
          have d7 : D 7 = true := hall 7 (by decide)
          have d8 : D 8 = true := hall 8 (by decide)
          have d9 : D 9 = true := hall 9 (by decide)
          have d10 : D 10 = true := hall 10 (by decide)
          have d11 : D 11 = true := hall 11 (by decide)
          have d12 : D 12 = true := hall 12 (by decide)
          have d13 : D 13 = true := hall 13 (by decide)
          have d14 : D 14 = true := hall 14 (by decide)
          have d15 : D 15 = true := hall 15 (by decide)
          have d16 : D 16 = true := hall 16 (by decide)
          have d17 : D 17 = true := hall 17 (by decide)
          have d18 : D 18 = true := hall 18 (by decide)
          have d19 : D 19 = true := hall 19 (by decide)
          have d20 : D 20 = true := hall 20 (by decide)
          have d21 : D 21 = true := hall 21 (by decide)
          have d22 : D 22 = true := hall 22 (by decide)
          have d23 : D 23 = true := hall 23 (by decide)
          have f0 : ux100 0 = (vI s13.2.2.1) := (hI.2 0 d0 _ rfl).2
          have f1 : ux100 1 = (vI s95.2.2) := (hI.2 1 d1 _ rfl).2
          have f2 : ux100 2 = (vI s13.2.2.1) := (hI.2 2 d2 _ rfl).2
          have f3 : ux100 3 = (vI s95.2.2) := (hI.2 3 d3 _ rfl).2
          have f4 : ux100 4 = (vI p0) := (hI.2 4 d4 _ rfl).2
          have f5 : ux100 5 = (vI s13.2.2.1) := (hI.2 5 d5 _ rfl).2
          have f6 : ux100 6 = (vI s95.2.2) := (hI.2 6 d6 _ rfl).2
          have f7 : ux100 7 = (ptr b1 (0 + (s13.2.2.1).toNat * 4)) := (hI.2 7 d7 _ rfl).2
          have f8 : ux100 8 = (ptr b1 (0 + (s13.2.2.1).toNat * 4 + (s95.2.2).toNat * 1)) := (hI.2 8 d8 _ rfl).2
          have f9 : ux100 9 = (vB x105) := (hI.2 9 d9 _ rfl).2
          have f10 : ux100 10 = (vB r90) := (hI.2 10 d10 _ rfl).2
          have f11 : ux100 11 = (vB r107) := (hI.2 11 d11 _ rfl).2
          have f12 : ux100 12 = (vI p0) := (hI.2 12 d12 _ rfl).2
          have f13 : ux100 13 = (vI s13.2.2.1) := (hI.2 13 d13 _ rfl).2
          have f14 : ux100 14 = (vI s95.2.2) := (hI.2 14 d14 _ rfl).2
          have f15 : ux100 15 = (ptr b7 (0 + (s13.2.2.1).toNat * 4)) := (hI.2 15 d15 _ rfl).2
          have f16 : ux100 16 = (ptr b7 (0 + (s13.2.2.1).toNat * 4 + (s95.2.2).toNat * 1)) := (hI.2 16 d16 _ rfl).2
          have f17 : ux100 17 = (vB x113) := (hI.2 17 d17 _ rfl).2
          have f18 : ux100 18 = (vB r90) := (hI.2 18 d18 _ rfl).2
          have f19 : ux100 19 = (vB r115) := (hI.2 19 d19 _ rfl).2
          have f20 : ux100 20 = (ptr b1 (0 + (s13.2.2.1).toNat * 4)) := (hI.2 20 d20 _ rfl).2
          have f21 : ux100 21 = (ptr b1 (0 + (s13.2.2.1).toNat * 4 + (s95.2.2).toNat * 1)) := (hI.2 21 d21 _ rfl).2
          have f23 : ux100 23 = (ptr b7 (0 + (s13.2.2.1).toNat * 4)) := (hI.2 23 d23 _ rfl).2
          have hM := hM.togB (pre := [_, _]) d22
          have hE := hE.sub (e' := [(73, (vI s13.2.2.1)), (74, (vI s95.2.2)), (75, (vI s13.2.2.1)), (76, (vI s95.2.2)), (77, (vI p0)), (78, (vI s13.2.2.1)), (79, (vI s95.2.2)), (80, (ptr b1 (0 + (s13.2.2.1).toNat * 4))), (81, (ptr b1 (0 + (s13.2.2.1).toNat * 4 + (s95.2.2).toNat * 1))), (82, (vB x105)), (83, (vB r90)), (84, (vB r107)), (85, (vI p0)), (86, (vI s13.2.2.1)), (87, (vI s95.2.2)), (88, (ptr b7 (0 + (s13.2.2.1).toNat * 4))), (89, (ptr b7 (0 + (s13.2.2.1).toNat * 4 + (s95.2.2).toNat * 1))), (90, (vB x113)), (91, (vB r90)), (92, (vB r115)), (93, (ptr b1 (0 + (s13.2.2.1).toNat * 4))), (94, (ptr b1 (0 + (s13.2.2.1).toNat * 4 + (s95.2.2).toNat * 1))), (95, (ptr b7 (0 + (s13.2.2.1).toNat * 4))), (0, (vI p0)), (3, (ptr b1 0)), (5, (ptr b3 0)), (6, (ptr b7 0)), (7, (vB r82)), (8, (vI s13.2.2.1)), (10, (vB r90)), (11, (vI s95.2.2)), (16, (vI s13.2.2.1)), (70, (vI s95.2.2)), (71, (vT (decide (s95.2.2 < 4)))), (72, (vI s95.2.2))]) ⟨lk rfl f0, lk rfl f1, lk rfl f2, lk rfl f3, lk rfl f4, lk rfl f5, lk rfl f6, lk rfl f7, lk rfl f8, lk rfl f9, lk rfl f10, lk rfl f11, lk rfl f12, lk rfl f13, lk rfl f14, lk rfl f15, lk rfl f16, lk rfl f17, lk rfl f18, lk rfl f19, lk rfl f20, lk rfl f21, lk rfl f23, rfl, rfl, rfl, rfl, rfl, rfl, rfl, rfl, rfl, rfl, rfl, rfl, trivial⟩
          obtain ⟨x127, e128, hs96⟩ := bind_some hs96
          have hi126 := Zi e128
          refine Zo hE Za (dl rfl) rfl rfl Tryz.underlying168 ty5 hi126.1 ?_; intro a hE
          refine Zp (seg := [(vB r115)]) (cs' := Flat.enc (s95.2.1.setIfInBounds (s13.2.2.1).toNat (x124.setIfInBounds (s95.2.2).toNat r115))) hE hM Za rfl rfl rfl ty5 rfl (Vy (o' := 0 + (s95.2.2).toNat * 1) hi123 (ZO (v := x124) (x := r115) hi126.1) (by first | omega | (simp only [Flat.n] <;> omega))) (Flat.cell (r115 : UInt8)) (WG (o' := 0 + (s95.2.2).toNat * 1) hi123 (ZO (v := x124) (x := r115) hi126.1) (ZI (v := x124) (x := r115) hi126.1) (by first | omega | (simp only [Flat.n] <;> omega))) ?_; intro w a hM hE
          refine Zk (Yl (Zz (wp_region_lit (Zh hE Za (dl rfl) rfl rfl rfl ?_)))); intro a hE
          refine Zd hE Za (dl rfl) rfl ?_; intro a hE
          refine Zk (Zn ?_)
          exact ⟨_, (Option.some.inj hs96).symm, hE.sub ⟨rfl, rfl, rfl, rfl, rfl, rfl, rfl, rfl, rfl, trivial⟩, hM⟩
        ·intro hb99
         have hs96 := ZC hs96 hb99
         refine wp_exit (Zr (Zr (Yk ?_)))
         have ht129 := hx97 _ (Option.some.inj hs96).symm
         subst ht129
         refine Zn ?_
         exact ⟨hE.sub ⟨rfl, rfl, rfl, rfl, rfl, rfl, rfl, trivial⟩, hM⟩
       ·skip
        rintro a w ⟨hE, hM⟩
        refine Zz (Zc (Zd hE Za (dl rfl) rfl ?_)); intro a hE
        refine Zf ?_
        obtain ⟨j130, hl131, hF132⟩ := bind_some hF94
        refine ZS (fun a w => Env 153 a [(0, (vI p0)), (3, (ptr b1 0)), (5, (ptr b3 0)), (6, (ptr b7 0)), (7, (vB r82)), (16, (vI s13.2.2.1))] ∧ M (Old w0) w0 w [raw b7 (Flat.enc j130.2), raw b3 (Flat.enc (Vector.replicate 4 (Vector.replicate 4 (0 : UInt8)))), raw b1 (Flat.enc j130.1)]) ?_ ?_
        ·skip
         refine wp_block ?_
         refine ZL (fun (s133 : (Vector (Vector UInt8 4) 4) × (Vector (Vector UInt8 4) 4) × Int) a w => Env 153 a [(0, (vI p0)), (3, (ptr b1 0)), (5, (ptr b3 0)), (6, (ptr b7 0)), (7, (vB r82)), (8, (vI s13.2.2.1)), (16, (vI s13.2.2.1)), (98, (vI s133.2.2))] ∧ M (Old w0) w0 w [raw b7 (Flat.enc s133.2.1), raw b3 (Flat.enc (Vector.replicate 4 (Vector.replicate 4 (0 : UInt8)))), raw b1 (Flat.enc s133.1)]) hl131 ⟨hE.sub ⟨rfl, rfl, rfl, rfl, rfl, rfl, rfl, rfl, trivial⟩, hM⟩ ?_
         rintro s133 a w ⟨hE, hM⟩ o136 hs134 hx135
         unfold Xo at hs134
         refine Zc (Zh hE Za (dl rfl) rfl rfl rfl ?_); intro a hE
         refine Zf (wp_seq ?_)
         refine Zw hE rfl ?_ ?_
         ·intro hb137
          have hs134 := ZD hs134 hb137
          refine wp_skip (Zz ?_)
          obtain ⟨j138, hl139, hF140⟩ := bind_some hs134
          refine ZR (fun a w => Env 153 a [(0, (vI p0)), (3, (ptr b1 0)), (5, (ptr b3 0)), (6, (ptr b7 0)), (7, (vB r82)), (8, (vI s13.2.2.1)), (16, (vI s13.2.2.1)), (98, (vI s133.2.2))] ∧ M (Old w0) w0 w [raw b7 (Flat.enc j138.2), raw b3 (Flat.enc (Vector.replicate 4 (Vector.replicate 4 (0 : UInt8)))), raw b1 (Flat.enc j138.1)]) ?_ ?_
          ·skip
           refine wp_block (Zc (Zd hE Za (dl rfl) rfl ?_)); intro a hE
           refine Ze hE Za (dl rfl) rfl ?_; intro a hE
           refine Zf (Zc (Zd hE Za (dl rfl) rfl ?_)); intro a hE
           refine Zd hE Za (dl rfl) rfl ?_; intro a hE
           obtain ⟨x142, e143, hl139⟩ := bind_some hl139
           have hi141 := Zi e143
           refine Zo hE Za (dl rfl) rfl rfl Tryz.underlying170 Y8 hi141.1 ?_; intro a hE
           obtain ⟨x145, e146, hl139⟩ := bind_some hl139
           have hi144 := Zi e146
           refine Zo hE Za (dl rfl) rfl rfl Tryz.underlying168 ty5 hi144.1 ?_; intro a hE
           refine Zq (v := (vB x145)) hE Za (dl rfl) rfl ty5 rfl (At.vec (At.vec (hM.rawAt (pre := [_, _])) hi141.2) hi144.2) ?_; intro a hE
           refine Ze hE Za (dl rfl) rfl ?_; intro a hE
           refine Zf ?_
           obtain ⟨j147, hl148, hF149⟩ := bind_some hl139
           refine ZR (fun a w => Env 153 a [(0, (vI p0)), (3, (ptr b1 0)), (5, (ptr b3 0)), (6, (ptr b7 0)), (7, (vB r82)), (8, (vI s13.2.2.1)), (12, (vI s133.2.2)), (13, (vB x145)), (16, (vI s13.2.2.1)), (98, (vI s133.2.2)), (112, (vT j147))] ∧ M (Old w0) w0 w [raw b7 (Flat.enc s133.2.1), raw b3 (Flat.enc (Vector.replicate 4 (Vector.replicate 4 (0 : UInt8)))), raw b1 (Flat.enc s133.1)]) ?_ ?_
           ·skip
            refine wp_region_lit (Zd hE Za (dl rfl) rfl ?_); intro a hE
            refine Zd hE Za (dl rfl) rfl ?_; intro a hE
            refine Zh hE Za (dl rfl) rfl rfl rfl ?_; intro a hE
            refine Zd hE Za (dl rfl) rfl ?_; intro a hE
            refine Wj (s133.2.2 != s13.2.2.1) (fun hb150 => ?_) (fun hb150 => ?_)
            ·have hl148 := ZD hl148 hb150
             refine Zd hE (Zv hE rfl (lkb rfl hb150)) (by decide) rfl ?_; intro a hE
             refine Zh hE (Zv hE rfl (lkb rfl hb150)) (by decide) rfl rfl (bB_neq x145 0) ?_; intro a hE
             refine Ya hE Za (dl rfl) (lkb rfl hb150) rfl ?_; intro a hE
             refine Zk ?_
             have ht151 := Option.some.inj hl148
             subst ht151
             refine Zn ?_
             exact ⟨hE.sub ⟨rfl, rfl, rfl, rfl, rfl, rfl, rfl, rfl, rfl, rfl, rfl, trivial⟩, hM⟩
            ·have hl148 := ZC hl148 hb150
             refine Zt hE rfl (lkb rfl hb150) rfl (by decide) ?_; intro a hE
             refine Zt hE rfl (lkb rfl hb150) rfl (by decide) ?_; intro a hE
             refine YT hE Za (dl rfl) (lkb rfl hb150) rfl ?_; intro a hE
             refine Zk ?_
             have ht152 := Option.some.inj hl148
             subst ht152
             refine Zn ?_
             exact ⟨hE.sub ⟨rfl, rfl, rfl, rfl, rfl, rfl, rfl, rfl, rfl, rfl, rfl, trivial⟩, hM⟩
           ·skip
            rintro a w ⟨hE, hM⟩
            obtain ⟨j153, hl154, hF155⟩ := bind_some hF149
            refine ZS (fun a w => Env 153 a [(0, (vI p0)), (3, (ptr b1 0)), (5, (ptr b3 0)), (6, (ptr b7 0)), (7, (vB r82)), (8, (vI s13.2.2.1)), (16, (vI s13.2.2.1)), (98, (vI s133.2.2))] ∧ M (Old w0) w0 w [raw b7 (Flat.enc j153.2), raw b3 (Flat.enc (Vector.replicate 4 (Vector.replicate 4 (0 : UInt8)))), raw b1 (Flat.enc j153.1)]) ?_ ?_
            ·skip
             refine Zw hE rfl ?_ ?_
             ·intro hb156
              have hl154 := ZD hl154 hb156
              refine Zc (Zd hE Za (dl rfl) rfl ?_); intro a hE
              refine Zf ?_
              obtain ⟨j157, hl158, hF159⟩ := bind_some hl154
              refine ZS (fun a w => Env 153 a [(0, (vI p0)), (3, (ptr b1 0)), (5, (ptr b3 0)), (6, (ptr b7 0)), (7, (vB r82)), (8, (vI s13.2.2.1)), (16, (vI s13.2.2.1)), (98, (vI s133.2.2))] ∧ M (Old w0) w0 w [raw b7 (Flat.enc j157.2), raw b3 (Flat.enc (Vector.replicate 4 (Vector.replicate 4 (0 : UInt8)))), raw b1 (Flat.enc j157.1)]) ?_ ?_
              ·skip
               refine wp_block ?_
               refine ZL (fun (s160 : (Vector (Vector UInt8 4) 4) × (Vector (Vector UInt8 4) 4) × Int) a w => Env 153 a [(0, (vI p0)), (3, (ptr b1 0)), (5, (ptr b3 0)), (6, (ptr b7 0)), (7, (vB r82)), (8, (vI s13.2.2.1)), (12, (vI s133.2.2)), (13, (vB x145)), (16, (vI s13.2.2.1)), (98, (vI s133.2.2)), (113, (vI s160.2.2))] ∧ M (Old w0) w0 w [raw b7 (Flat.enc s160.2.1), raw b3 (Flat.enc (Vector.replicate 4 (Vector.replicate 4 (0 : UInt8)))), raw b1 (Flat.enc s160.1)]) hl158 ⟨hE.sub ⟨rfl, rfl, rfl, rfl, rfl, rfl, rfl, rfl, rfl, rfl, rfl, trivial⟩, hM⟩ ?_
               rintro s160 a w ⟨hE, hM⟩ o163 hs161 hx162
               unfold Xm at hs161
               refine Zc (Zh hE Za (dl rfl) rfl rfl rfl ?_); intro a hE
               refine Zf (wp_seq ?_)
               refine Zw hE rfl ?_ ?_
               ·intro hb164
                have hs161 := ZD hs161 hb164
                refine wp_skip (Zz (wp_seq (wp_block (Zc (Zd hE Za (dl rfl) rfl ?_))))); intro a hE
                refine Ze hE Za (dl rfl) rfl ?_; intro a hE
                refine Zf ?_
                obtain ⟨j165, hl166, hF167⟩ := bind_some hs161
                refine ZR (fun a w => Env 153 a [(0, (vI p0)), (3, (ptr b1 0)), (5, (ptr b3 0)), (6, (ptr b7 0)), (7, (vB r82)), (8, (vI s13.2.2.1)), (12, (vI s133.2.2)), (13, (vB x145)), (14, (vI s160.2.2)), (16, (vI s13.2.2.1)), (98, (vI s133.2.2)), (113, (vI s160.2.2))] ∧ M (Old w0) w0 w [raw b7 (Flat.enc s160.2.1), raw b3 (Flat.enc (Vector.replicate 4 (Vector.replicate 4 (0 : UInt8)))), raw b1 (Flat.enc j165)]) ?_ ?_
                ·skip
                 obtain ⟨x170, e171, hl166⟩ := bind_some hl166
                 have hi169 := Zi e171
                 obtain ⟨x173, e174, hl166⟩ := bind_some hl166
                 have hi172 := Zi e174
                 obtain ⟨x176, e177, hl166⟩ := bind_some hl166
                 have hi175 := Zi e177
                 obtain ⟨x179, e180, hl166⟩ := bind_some hl166
                 have hi178 := Zi e180
                 obtain ⟨r181, e182, hl166⟩ := bind_some hl166
                 obtain ⟨x184, e185, hl166⟩ := bind_some hl166
                 have hi183 := Zi e185
                 obtain ⟨x187, e188, hl166⟩ := bind_some hl166
                 have hi186 := Zi e188
                 refine Yo (n := 153) (hd := [_, _, _, _, _, _, _, _, _, _, _, _, _, _, _, _]) (tl := [_]) YU rfl rfl [116, 117, 118, 119, 120, 121, 122, 123, 124, 125, 126, 127, 128, 129, 130, 131] (by decide) (fun w => M (Old w0) w0 w [raw b7 (Flat.enc s160.2.1), raw b3 (Flat.enc (Vector.replicate 4 (Vector.replicate 4 (0 : UInt8)))), raw b1 (Flat.enc s160.1)]) (fun j => ([fun v _ => v = (vI s133.2.2), fun v _ => v = (vI s160.2.2), fun v _ => v = (ptr b1 (0 + (s133.2.2).toNat * 4)), fun v _ => v = (ptr b1 (0 + (s133.2.2).toNat * 4 + (s160.2.2).toNat * 1)), fun v _ => v = (vB x173), fun v _ => v = (vI p0), fun v _ => v = (vB x145), fun v _ => v = (vI s13.2.2.1), fun v _ => v = (vI s160.2.2), fun v _ => v = (ptr b1 (0 + (s13.2.2.1).toNat * 4)), fun v _ => v = (ptr b1 (0 + (s13.2.2.1).toNat * 4 + (s160.2.2).toNat * 1)), fun v _ => v = (vB x179), fun v _ => v = (vB r181), fun v _ => v = (vB (x173 ^^^ r181)), fun v _ => v = (ptr b1 (0 + (s133.2.2).toNat * 4)), fun v _ => v = (ptr b1 (0 + (s133.2.2).toNat * 4 + (s160.2.2).toNat * 1))] : List (Value → World → Prop)).getD j (fun _ _ => True)) (fun _ _ h hk => h.keep hk) (gup (Zj (Zj (Zj (Zj (Zj (Zj (Zj (Zj (Zj (Zj (Zj (Zj (Zj (Zj (Zj (Zj Vq))))))))))))))))) hE hM.drew (ZM (Zb ?_ (Zb ?_ (Zb ?_ (Zb ?_ (Zb ?_ (Zb ?_ (Zb ?_ (Zb ?_ (Zb ?_ (Zb ?_ (Zb ?_ (Zb ?_ (Zb ?_ (Zb ?_ (Zb ?_ (Zb ?_ ZH))))))))))))))))) ?_
                 ·intro a w ux168 hE hM hp
                  refine Zd hE Za (dl rfl) rfl ?_; intro a hE
                  exact ⟨Kept.refl _ _, _, _, rfl, hE, rfl⟩
                 ·intro a w ux168 hE hM hp
                  refine Zd hE Za (dl rfl) rfl ?_; intro a hE
                  exact ⟨Kept.refl _ _, _, _, rfl, hE, rfl⟩
                 ·intro a w ux168 hE hM hp
                  have f0 : ux168 0 = (vI s133.2.2) := hp 0 _ rfl rfl
                  refine Zo hE Za (dl rfl) rfl (lk rfl f0) Tryz.underlying170 Y8 hi169.1 ?_; intro a hE
                  exact ⟨Kept.refl _ _, _, _, rfl, hE, rfl⟩
                 ·intro a w ux168 hE hM hp
                  have f1 : ux168 1 = (vI s160.2.2) := hp 1 _ rfl rfl
                  have f2 : ux168 2 = (ptr b1 (0 + (s133.2.2).toNat * 4)) := hp 0 _ rfl rfl
                  refine Zo hE Za (dl rfl) (lk rfl f2) (lk rfl f1) Tryz.underlying168 ty5 hi172.1 ?_; intro a hE
                  exact ⟨Kept.refl _ _, _, _, rfl, hE, rfl⟩
                 ·intro a w ux168 hE hM hp
                  have f3 : ux168 3 = (ptr b1 (0 + (s133.2.2).toNat * 4 + (s160.2.2).toNat * 1)) := hp 0 _ rfl rfl
                  refine Zq (v := (vB x173)) hE Za (dl rfl) (lk rfl f3) ty5 rfl (At.vec (At.vec (hM.rawAt (pre := [_, _])) hi169.2) hi172.2) ?_; intro a hE
                  exact ⟨Kept.refl _ _, _, _, rfl, hE, rfl⟩
                 ·intro a w ux168 hE hM hp
                  refine Zd hE Za (dl rfl) rfl ?_; intro a hE
                  exact ⟨Kept.refl _ _, _, _, rfl, hE, rfl⟩
                 ·intro a w ux168 hE hM hp
                  refine Zd hE Za (dl rfl) rfl ?_; intro a hE
                  exact ⟨Kept.refl _ _, _, _, rfl, hE, rfl⟩
                 ·intro a w ux168 hE hM hp
                  refine Zd hE Za (dl rfl) rfl ?_; intro a hE
                  exact ⟨Kept.refl _ _, _, _, rfl, hE, rfl⟩
                 ·intro a w ux168 hE hM hp
                  refine Zd hE Za (dl rfl) rfl ?_; intro a hE
                  exact ⟨Kept.refl _ _, _, _, rfl, hE, rfl⟩
                 ·intro a w ux168 hE hM hp
                  have f7 : ux168 7 = (vI s13.2.2.1) := hp 0 _ rfl rfl
                  refine Zo hE Za (dl rfl) rfl (lk rfl f7) Tryz.underlying170 Y8 hi175.1 ?_; intro a hE
                  exact ⟨Kept.refl _ _, _, _, rfl, hE, rfl⟩
                 ·intro a w ux168 hE hM hp
                  have f8 : ux168 8 = (vI s160.2.2) := hp 1 _ rfl rfl
                  have f9 : ux168 9 = (ptr b1 (0 + (s13.2.2.1).toNat * 4)) := hp 0 _ rfl rfl
                  refine Zo hE Za (dl rfl) (lk rfl f9) (lk rfl f8) Tryz.underlying168 ty5 hi178.1 ?_; intro a hE
                  exact ⟨Kept.refl _ _, _, _, rfl, hE, rfl⟩
                 ·intro a w ux168 hE hM hp
                  have f10 : ux168 10 = (ptr b1 (0 + (s13.2.2.1).toNat * 4 + (s160.2.2).toNat * 1)) := hp 0 _ rfl rfl
                  refine Zq (v := (vB x179)) hE Za (dl rfl) (lk rfl f10) ty5 rfl (At.vec (At.vec (hM.rawAt (pre := [_, _])) hi175.2) hi178.2) ?_; intro a hE
                  exact ⟨Kept.refl _ _, _, _, rfl, hE, rfl⟩
                 ·intro a w ux168 hE hM hp
                  have f5 : ux168 5 = (vI p0) := hp 0 _ rfl rfl
                  have f6 : ux168 6 = (vB x145) := hp 1 _ rfl rfl
                  have f11 : ux168 11 = (vB x179) := hp 2 _ rfl rfl
                  refine Zs (vs := [(vI p0), (vB x145), (vB x179)]) hE Za (dl rfl) (ZZ (ZT (lk rfl f5) (ZT (lk rfl f6) (ZT (lk rfl f11) Y7)))) cb239 (Yz _ p0 x145 x179 r181 e182) ?_
                  rintro v w a ⟨rfl, hK⟩ hE
                  exact ⟨hK, _, _, rfl, hE, rfl⟩
                 ·intro a w ux168 hE hM hp
                  have f4 : ux168 4 = (vB x173) := hp 0 _ rfl rfl
                  have f12 : ux168 12 = (vB r181) := hp 1 _ rfl rfl
                  refine Zh hE Za (dl rfl) (lk rfl f4) (lk rfl f12) (WK x173 r181) ?_; intro a hE
                  exact ⟨Kept.refl _ _, _, _, rfl, hE, rfl⟩
                 ·intro a w ux168 hE hM hp
                  have f0 : ux168 0 = (vI s133.2.2) := hp 0 _ rfl rfl
                  refine Zo hE Za (dl rfl) rfl (lk rfl f0) Tryz.underlying170 Y8 hi183.1 ?_; intro a hE
                  exact ⟨Kept.refl _ _, _, _, rfl, hE, rfl⟩
                 ·intro a w ux168 hE hM hp
                  have f1 : ux168 1 = (vI s160.2.2) := hp 1 _ rfl rfl
                  have f14 : ux168 14 = (ptr b1 (0 + (s133.2.2).toNat * 4)) := hp 0 _ rfl rfl
                  refine Zo hE Za (dl rfl) (lk rfl f14) (lk rfl f1) Tryz.underlying168 ty5 hi186.1 ?_; intro a hE
                  exact ⟨Kept.refl _ _, _, _, rfl, hE, rfl⟩
                 ·intro a w ux168 hE hM hg
                  have f0 : ux168 0 = (vI s133.2.2) := hg 0 (by decide)
                  have f1 : ux168 1 = (vI s160.2.2) := hg 1 (by decide)
                  have f2 : ux168 2 = (ptr b1 (0 + (s133.2.2).toNat * 4)) := hg 2 (by decide)
                  have f3 : ux168 3 = (ptr b1 (0 + (s133.2.2).toNat * 4 + (s160.2.2).toNat * 1)) := hg 3 (by decide)
                  have f4 : ux168 4 = (vB x173) := hg 4 (by decide)
                  have f5 : ux168 5 = (vI p0) := hg 5 (by decide)
                  have f6 : ux168 6 = (vB x145) := hg 6 (by decide)
                  have f7 : ux168 7 = (vI s13.2.2.1) := hg 7 (by decide)
                  have f8 : ux168 8 = (vI s160.2.2) := hg 8 (by decide)
                  have f9 : ux168 9 = (ptr b1 (0 + (s13.2.2.1).toNat * 4)) := hg 9 (by decide)
                  have f10 : ux168 10 = (ptr b1 (0 + (s13.2.2.1).toNat * 4 + (s160.2.2).toNat * 1)) := hg 10 (by decide)
                  have f11 : ux168 11 = (vB x179) := hg 11 (by decide)
                  have f12 : ux168 12 = (vB r181) := hg 12 (by decide)
                  have f13 : ux168 13 = (vB (x173 ^^^ r181)) := hg 13 (by decide)
                  have f14 : ux168 14 = (ptr b1 (0 + (s133.2.2).toNat * 4)) := hg 14 (by decide)
                  have f15 : ux168 15 = (ptr b1 (0 + (s133.2.2).toNat * 4 + (s160.2.2).toNat * 1)) := hg 15 (by decide)
                  have hE := hE.sub (e' := [(116, (vI s133.2.2)), (117, (vI s160.2.2)), (118, (ptr b1 (0 + (s133.2.2).toNat * 4))), (119, (ptr b1 (0 + (s133.2.2).toNat * 4 + (s160.2.2).toNat * 1))), (120, (vB x173)), (121, (vI p0)), (122, (vB x145)), (123, (vI s13.2.2.1)), (124, (vI s160.2.2)), (125, (ptr b1 (0 + (s13.2.2.1).toNat * 4))), (126, (ptr b1 (0 + (s13.2.2.1).toNat * 4 + (s160.2.2).toNat * 1))), (127, (vB x179)), (128, (vB r181)), (129, (vB (x173 ^^^ r181))), (130, (ptr b1 (0 + (s133.2.2).toNat * 4))), (131, (ptr b1 (0 + (s133.2.2).toNat * 4 + (s160.2.2).toNat * 1))), (0, (vI p0)), (3, (ptr b1 0)), (5, (ptr b3 0)), (6, (ptr b7 0)), (7, (vB r82)), (8, (vI s13.2.2.1)), (12, (vI s133.2.2)), (13, (vB x145)), (14, (vI s160.2.2)), (16, (vI s13.2.2.1)), (98, (vI s133.2.2)), (113, (vI s160.2.2)), (114, (vT (decide (s160.2.2 < 4)))), (115, (vI s160.2.2))]) ⟨lk rfl f0, lk rfl f1, lk rfl f2, lk rfl f3, lk rfl f4, lk rfl f5, lk rfl f6, lk rfl f7, lk rfl f8, lk rfl f9, lk rfl f10, lk rfl f11, lk rfl f12, lk rfl f13, lk rfl f14, lk rfl f15, rfl, rfl, rfl, rfl, rfl, rfl, rfl, rfl, rfl, rfl, rfl, rfl, rfl, rfl, trivial⟩
                  have hM := hM.pull (pre := [_, _])
                  refine Zp (seg := [(vB (x173 ^^^ r181))]) (cs' := Flat.enc (s160.1.setIfInBounds (s133.2.2).toNat (x184.setIfInBounds (s160.2.2).toNat (x173 ^^^ r181)))) hE hM Za rfl rfl rfl ty5 rfl (Vy (o' := 0 + (s160.2.2).toNat * 1) hi183 (ZO (v := x184) (x := x173 ^^^ r181) hi186.1) (by first | omega | (simp only [Flat.n] <;> omega))) (Flat.cell (x173 ^^^ r181 : UInt8)) (WG (o' := 0 + (s160.2.2).toNat * 1) hi183 (ZO (v := x184) (x := x173 ^^^ r181) hi186.1) (ZI (v := x184) (x := x173 ^^^ r181) hi186.1) (by first | omega | (simp only [Flat.n] <;> omega))) ?_; intro w a hM hE
                  refine Zk ?_
                  have ht189 := Option.some.inj hl166
                  subst ht189
                  refine Zn ?_
                  have hM := hM.pull (pre := [_, _])
                  have hM := hM.pull (pre := [_, _])
                  exact ⟨hE.sub ⟨rfl, rfl, rfl, rfl, rfl, rfl, rfl, rfl, rfl, rfl, rfl, rfl, trivial⟩, hM⟩
                ·skip
                 rintro a w ⟨hE, hM⟩
                 obtain ⟨x192, e193, hF167⟩ := bind_some hF167
                 have hi191 := Zi e193
                 obtain ⟨x195, e196, hF167⟩ := bind_some hF167
                 have hi194 := Zi e196
                 obtain ⟨x198, e199, hF167⟩ := bind_some hF167
                 have hi197 := Zi e199
                 obtain ⟨x201, e202, hF167⟩ := bind_some hF167
                 have hi200 := Zi e202
                 obtain ⟨r203, e204, hF167⟩ := bind_some hF167
                 obtain ⟨x206, e207, hF167⟩ := bind_some hF167
                 have hi205 := Zi e207
                 obtain ⟨x209, e210, hF167⟩ := bind_some hF167
                 have hi208 := Zi e210
                 refine Yo (n := 153) (hd := [_, _, _, _, _, _, _, _, _, _, _, _, _, _, _, _]) (tl := [_]) YU rfl rfl [132, 133, 134, 135, 136, 137, 138, 139, 140, 141, 142, 143, 144, 145, 146, 147] (by decide) (fun w => M (Old w0) w0 w [raw b7 (Flat.enc s160.2.1), raw b3 (Flat.enc (Vector.replicate 4 (Vector.replicate 4 (0 : UInt8)))), raw b1 (Flat.enc j165)]) (fun j => ([fun v _ => v = (vI s133.2.2), fun v _ => v = (vI s160.2.2), fun v _ => v = (ptr b7 (0 + (s133.2.2).toNat * 4)), fun v _ => v = (ptr b7 (0 + (s133.2.2).toNat * 4 + (s160.2.2).toNat * 1)), fun v _ => v = (vB x195), fun v _ => v = (vI p0), fun v _ => v = (vB x145), fun v _ => v = (vI s13.2.2.1), fun v _ => v = (vI s160.2.2), fun v _ => v = (ptr b7 (0 + (s13.2.2.1).toNat * 4)), fun v _ => v = (ptr b7 (0 + (s13.2.2.1).toNat * 4 + (s160.2.2).toNat * 1)), fun v _ => v = (vB x201), fun v _ => v = (vB r203), fun v _ => v = (vB (x195 ^^^ r203)), fun v _ => v = (ptr b7 (0 + (s133.2.2).toNat * 4)), fun v _ => v = (ptr b7 (0 + (s133.2.2).toNat * 4 + (s160.2.2).toNat * 1))] : List (Value → World → Prop)).getD j (fun _ _ => True)) (fun _ _ h hk => h.keep hk) (gup (Zj (Zj (Zj (Zj (Zj (Zj (Zj (Zj (Zj (Zj (Zj (Zj (Zj (Zj (Zj (Zj Vq))))))))))))))))) hE hM.drew (ZM (Zb ?_ (Zb ?_ (Zb ?_ (Zb ?_ (Zb ?_ (Zb ?_ (Zb ?_ (Zb ?_ (Zb ?_ (Zb ?_ (Zb ?_ (Zb ?_ (Zb ?_ (Zb ?_ (Zb ?_ (Zb ?_ ZH))))))))))))))))) ?_
                 ·intro a w ux190 hE hM hp
                  refine Zd hE Za (dl rfl) rfl ?_; intro a hE
                  exact ⟨Kept.refl _ _, _, _, rfl, hE, rfl⟩
                 ·intro a w ux190 hE hM hp
                  refine Zd hE Za (dl rfl) rfl ?_; intro a hE
                  exact ⟨Kept.refl _ _, _, _, rfl, hE, rfl⟩
                 ·intro a w ux190 hE hM hp
                  have f0 : ux190 0 = (vI s133.2.2) := hp 0 _ rfl rfl
                  refine Zo hE Za (dl rfl) rfl (lk rfl f0) Tryz.underlying170 Y8 hi191.1 ?_; intro a hE
                  exact ⟨Kept.refl _ _, _, _, rfl, hE, rfl⟩
                 ·intro a w ux190 hE hM hp
                  have f1 : ux190 1 = (vI s160.2.2) := hp 1 _ rfl rfl
                  have f2 : ux190 2 = (ptr b7 (0 + (s133.2.2).toNat * 4)) := hp 0 _ rfl rfl
                  refine Zo hE Za (dl rfl) (lk rfl f2) (lk rfl f1) Tryz.underlying168 ty5 hi194.1 ?_; intro a hE
                  exact ⟨Kept.refl _ _, _, _, rfl, hE, rfl⟩
                 ·intro a w ux190 hE hM hp
                  have f3 : ux190 3 = (ptr b7 (0 + (s133.2.2).toNat * 4 + (s160.2.2).toNat * 1)) := hp 0 _ rfl rfl
                  refine Zq (v := (vB x195)) hE Za (dl rfl) (lk rfl f3) ty5 rfl (At.vec (At.vec (hM.rawAt (pre := [])) hi191.2) hi194.2) ?_; intro a hE
                  exact ⟨Kept.refl _ _, _, _, rfl, hE, rfl⟩
                 ·intro a w ux190 hE hM hp
                  refine Zd hE Za (dl rfl) rfl ?_; intro a hE
                  exact ⟨Kept.refl _ _, _, _, rfl, hE, rfl⟩
                 ·intro a w ux190 hE hM hp
                  refine Zd hE Za (dl rfl) rfl ?_; intro a hE
                  exact ⟨Kept.refl _ _, _, _, rfl, hE, rfl⟩
                 ·intro a w ux190 hE hM hp
                  refine Zd hE Za (dl rfl) rfl ?_; intro a hE
                  exact ⟨Kept.refl _ _, _, _, rfl, hE, rfl⟩
                 ·intro a w ux190 hE hM hp
                  refine Zd hE Za (dl rfl) rfl ?_; intro a hE
                  exact ⟨Kept.refl _ _, _, _, rfl, hE, rfl⟩
                 ·intro a w ux190 hE hM hp
                  have f7 : ux190 7 = (vI s13.2.2.1) := hp 0 _ rfl rfl
                  refine Zo hE Za (dl rfl) rfl (lk rfl f7) Tryz.underlying170 Y8 hi197.1 ?_; intro a hE
                  exact ⟨Kept.refl _ _, _, _, rfl, hE, rfl⟩
                 ·intro a w ux190 hE hM hp
                  have f8 : ux190 8 = (vI s160.2.2) := hp 1 _ rfl rfl
                  have f9 : ux190 9 = (ptr b7 (0 + (s13.2.2.1).toNat * 4)) := hp 0 _ rfl rfl
                  refine Zo hE Za (dl rfl) (lk rfl f9) (lk rfl f8) Tryz.underlying168 ty5 hi200.1 ?_; intro a hE
                  exact ⟨Kept.refl _ _, _, _, rfl, hE, rfl⟩
                 ·intro a w ux190 hE hM hp
                  have f10 : ux190 10 = (ptr b7 (0 + (s13.2.2.1).toNat * 4 + (s160.2.2).toNat * 1)) := hp 0 _ rfl rfl
                  refine Zq (v := (vB x201)) hE Za (dl rfl) (lk rfl f10) ty5 rfl (At.vec (At.vec (hM.rawAt (pre := [])) hi197.2) hi200.2) ?_; intro a hE
                  exact ⟨Kept.refl _ _, _, _, rfl, hE, rfl⟩
                 ·intro a w ux190 hE hM hp
                  have f5 : ux190 5 = (vI p0) := hp 0 _ rfl rfl
                  have f6 : ux190 6 = (vB x145) := hp 1 _ rfl rfl
                  have f11 : ux190 11 = (vB x201) := hp 2 _ rfl rfl
                  refine Zs (vs := [(vI p0), (vB x145), (vB x201)]) hE Za (dl rfl) (ZZ (ZT (lk rfl f5) (ZT (lk rfl f6) (ZT (lk rfl f11) Y7)))) cb239 (Yz _ p0 x145 x201 r203 e204) ?_
                  rintro v w a ⟨rfl, hK⟩ hE
                  exact ⟨hK, _, _, rfl, hE, rfl⟩
                 ·intro a w ux190 hE hM hp
                  have f4 : ux190 4 = (vB x195) := hp 0 _ rfl rfl
                  have f12 : ux190 12 = (vB r203) := hp 1 _ rfl rfl
                  refine Zh hE Za (dl rfl) (lk rfl f4) (lk rfl f12) (WK x195 r203) ?_; intro a hE
                  exact ⟨Kept.refl _ _, _, _, rfl, hE, rfl⟩
                 ·intro a w ux190 hE hM hp
                  have f0 : ux190 0 = (vI s133.2.2) := hp 0 _ rfl rfl
                  refine Zo hE Za (dl rfl) rfl (lk rfl f0) Tryz.underlying170 Y8 hi205.1 ?_; intro a hE
                  exact ⟨Kept.refl _ _, _, _, rfl, hE, rfl⟩
                 ·intro a w ux190 hE hM hp
                  have f1 : ux190 1 = (vI s160.2.2) := hp 1 _ rfl rfl
                  have f14 : ux190 14 = (ptr b7 (0 + (s133.2.2).toNat * 4)) := hp 0 _ rfl rfl
                  refine Zo hE Za (dl rfl) (lk rfl f14) (lk rfl f1) Tryz.underlying168 ty5 hi208.1 ?_; intro a hE
                  exact ⟨Kept.refl _ _, _, _, rfl, hE, rfl⟩
                 ·intro a w ux190 hE hM hg
                  have f0 : ux190 0 = (vI s133.2.2) := hg 0 (by decide)
                  have f1 : ux190 1 = (vI s160.2.2) := hg 1 (by decide)
                  have f2 : ux190 2 = (ptr b7 (0 + (s133.2.2).toNat * 4)) := hg 2 (by decide)
                  have f3 : ux190 3 = (ptr b7 (0 + (s133.2.2).toNat * 4 + (s160.2.2).toNat * 1)) := hg 3 (by decide)
                  have f4 : ux190 4 = (vB x195) := hg 4 (by decide)
                  have f5 : ux190 5 = (vI p0) := hg 5 (by decide)
                  have f6 : ux190 6 = (vB x145) := hg 6 (by decide)
                  have f7 : ux190 7 = (vI s13.2.2.1) := hg 7 (by decide)
                  have f8 : ux190 8 = (vI s160.2.2) := hg 8 (by decide)
                  have f9 : ux190 9 = (ptr b7 (0 + (s13.2.2.1).toNat * 4)) := hg 9 (by decide)
                  have f10 : ux190 10 = (ptr b7 (0 + (s13.2.2.1).toNat * 4 + (s160.2.2).toNat * 1)) := hg 10 (by decide)
                  have f11 : ux190 11 = (vB x201) := hg 11 (by decide)
                  have f12 : ux190 12 = (vB r203) := hg 12 (by decide)
                  have f13 : ux190 13 = (vB (x195 ^^^ r203)) := hg 13 (by decide)
                  have f14 : ux190 14 = (ptr b7 (0 + (s133.2.2).toNat * 4)) := hg 14 (by decide)
                  have f15 : ux190 15 = (ptr b7 (0 + (s133.2.2).toNat * 4 + (s160.2.2).toNat * 1)) := hg 15 (by decide)
                  have hE := hE.sub (e' := [(132, (vI s133.2.2)), (133, (vI s160.2.2)), (134, (ptr b7 (0 + (s133.2.2).toNat * 4))), (135, (ptr b7 (0 + (s133.2.2).toNat * 4 + (s160.2.2).toNat * 1))), (136, (vB x195)), (137, (vI p0)), (138, (vB x145)), (139, (vI s13.2.2.1)), (140, (vI s160.2.2)), (141, (ptr b7 (0 + (s13.2.2.1).toNat * 4))), (142, (ptr b7 (0 + (s13.2.2.1).toNat * 4 + (s160.2.2).toNat * 1))), (143, (vB x201)), (144, (vB r203)), (145, (vB (x195 ^^^ r203))), (146, (ptr b7 (0 + (s133.2.2).toNat * 4))), (147, (ptr b7 (0 + (s133.2.2).toNat * 4 + (s160.2.2).toNat * 1))), (0, (vI p0)), (3, (ptr b1 0)), (5, (ptr b3 0)), (6, (ptr b7 0)), (7, (vB r82)), (8, (vI s13.2.2.1)), (12, (vI s133.2.2)), (13, (vB x145)), (14, (vI s160.2.2)), (16, (vI s13.2.2.1)), (98, (vI s133.2.2)), (113, (vI s160.2.2))]) ⟨lk rfl f0, lk rfl f1, lk rfl f2, lk rfl f3, lk rfl f4, lk rfl f5, lk rfl f6, lk rfl f7, lk rfl f8, lk rfl f9, lk rfl f10, lk rfl f11, lk rfl f12, lk rfl f13, lk rfl f14, lk rfl f15, rfl, rfl, rfl, rfl, rfl, rfl, rfl, rfl, rfl, rfl, rfl, rfl, trivial⟩
                  refine Zp (seg := [(vB (x195 ^^^ r203))]) (cs' := Flat.enc (s160.2.1.setIfInBounds (s133.2.2).toNat (x206.setIfInBounds (s160.2.2).toNat (x195 ^^^ r203)))) hE hM Za rfl rfl rfl ty5 rfl (Vy (o' := 0 + (s160.2.2).toNat * 1) hi205 (ZO (v := x206) (x := x195 ^^^ r203) hi208.1) (by first | omega | (simp only [Flat.n] <;> omega))) (Flat.cell (x195 ^^^ r203 : UInt8)) (WG (o' := 0 + (s160.2.2).toNat * 1) hi205 (ZO (v := x206) (x := x195 ^^^ r203) hi208.1) (ZI (v := x206) (x := x195 ^^^ r203) hi208.1) (by first | omega | (simp only [Flat.n] <;> omega))) ?_; intro w a hM hE
                  refine Zk (Yl (Zz (wp_region_lit (Zh hE Za (dl rfl) rfl rfl rfl ?_)))); intro a hE
                  refine Zd hE Za (dl rfl) rfl ?_; intro a hE
                  refine Zk (Zn ?_)
                  exact ⟨_, (Option.some.inj hF167).symm, hE.sub ⟨rfl, rfl, rfl, rfl, rfl, rfl, rfl, rfl, rfl, rfl, rfl, trivial⟩, hM⟩
               ·intro hb164
                have hs161 := ZC hs161 hb164
                refine wp_exit (Zr (Zr (Yk ?_)))
                have ht211 := hx162 _ (Option.some.inj hs161).symm
                subst ht211
                refine Zn ?_
                exact ⟨hE.sub ⟨rfl, rfl, rfl, rfl, rfl, rfl, rfl, rfl, trivial⟩, hM⟩
              ·skip
               rintro a w ⟨hE, hM⟩
               have ht212 := Option.some.inj hF159
               subst ht212
               refine Zn ?_
               exact ⟨hE.sub ⟨rfl, rfl, rfl, rfl, rfl, rfl, rfl, rfl, trivial⟩, hM⟩
             ·intro hb156
              have hl154 := ZC hl154 hb156
              refine wp_skip ?_
              have ht213 := Option.some.inj hl154
              subst ht213
              refine Zn ?_
              exact ⟨hE.sub ⟨rfl, rfl, rfl, rfl, rfl, rfl, rfl, rfl, trivial⟩, hM⟩
            ·skip
             rintro a w ⟨hE, hM⟩
             refine Yl ?_
             have ht214 := Option.some.inj hF155
             subst ht214
             refine Zn ?_
             exact ⟨hE.sub ⟨rfl, rfl, rfl, rfl, rfl, rfl, rfl, rfl, trivial⟩, hM⟩
          ·skip
           rintro a w ⟨hE, hM⟩
           refine wp_region_lit (Zh hE Za (dl rfl) rfl rfl rfl ?_); intro a hE
           refine Zd hE Za (dl rfl) rfl ?_; intro a hE
           refine Zk (Zn ?_)
           exact ⟨_, (Option.some.inj hF140).symm, hE.sub ⟨rfl, rfl, rfl, rfl, rfl, rfl, rfl, rfl, trivial⟩, hM⟩
         ·intro hb137
          have hs134 := ZC hs134 hb137
          refine wp_exit (Zr (Zr (Yk ?_)))
          have ht215 := hx135 _ (Option.some.inj hs134).symm
          subst ht215
          refine Zn ?_
          exact ⟨hE.sub ⟨rfl, rfl, rfl, rfl, rfl, rfl, trivial⟩, hM⟩
        ·skip
         rintro a w ⟨hE, hM⟩
         refine Yl (Zz (wp_region_lit (Zh hE Za (dl rfl) rfl rfl rfl ?_))); intro a hE
         refine Zd hE Za (dl rfl) rfl ?_; intro a hE
         refine Zk (Zn ?_)
         exact ⟨_, (Option.some.inj hF132).symm, hE.sub ⟨rfl, rfl, rfl, rfl, rfl, rfl, trivial⟩, hM⟩
  ·intro hb17
   have hs14 := ZC hs14 hb17
   refine wp_exit (Zr (Zr (Yk ?_)))
   have ht216 := hx15 _ (Option.some.inj hs14).symm
   subst ht216
   refine Zn ?_
   have hM := hM.pull (pre := [_])
   have hM := hM.pull (pre := [_])
   have hM := M.fst (l := [_, _]) hM
   exact ⟨(s13.2.1, s13.2.2.2), rfl, hE.sub ⟨rfl, rfl, rfl, trivial⟩, hM⟩
 ·skip
  rintro a w ⟨s12, ht, hE, hM⟩
  subst ht
  have hF11 := el_nx hF11
  refine Zz ?_
  obtain ⟨j217, hl218, hF219⟩ := bind_some hF11
  refine ZR (fun a w => Env 153 a [(4, (vB j217.2)), (5, (ptr b3 0))] ∧ M (Old w0) w0 w [raw b3 (Flat.enc j217.1)]) ?_ ?_
  ·skip
   refine Yo (n := 153) (hd := [_, _, _]) (tl := [_]) YU rfl rfl [151, 152, 4] (by decide) (fun w => M (Old w0) w0 w [raw b7 (Flat.enc s12.1), raw b3 (Flat.enc (Vector.replicate 4 (Vector.replicate 4 (0 : UInt8))))]) (fun j => ([fun v _ => v = (vB s12.2), fun v _ => v = (Value.agg (Flat.enc s12.1).toArray), fun v _ => v = (vB s12.2)] : List (Value → World → Prop)).getD j (fun _ _ => True)) (fun _ _ h hk => h.keep hk) (gup (Zj (Zj (Zj Vq)))) hE hM.drew (ZM (Zb ?_ (Zb ?_ (Zb ?_ ZH)))) ?_
   ·intro a w ux220 hE hM hp
    refine Zd hE Za (dl rfl) rfl ?_; intro a hE
    exact ⟨Kept.refl _ _, _, _, rfl, hE, rfl⟩
   ·intro a w ux220 hE hM hp
    refine Zm (cs := Flat.enc s12.1) hE Za (dl rfl) rfl Uc rfl (hM.rawAt (pre := [])) (Flat.len _) ?_; intro a hE
    exact ⟨Kept.refl _ _, _, _, rfl, hE, rfl⟩
   ·intro a w ux220 hE hM hp
    have f0 : ux220 0 = (vB s12.2) := hp 0 _ rfl rfl
    refine Ze hE Za (dl rfl) (lk rfl f0) ?_; intro a hE
    exact ⟨Kept.refl _ _, _, _, rfl, hE, rfl⟩
   ·intro a w ux220 hE hM hg
    have f0 : ux220 0 = (vB s12.2) := hg 0 (by decide)
    have f1 : ux220 1 = (Value.agg (Flat.enc s12.1).toArray) := hg 1 (by decide)
    have f2 : ux220 2 = (vB s12.2) := hg 2 (by decide)
    have hE := hE.sub (e' := [(151, (vB s12.2)), (152, (Value.agg (Flat.enc s12.1).toArray)), (4, (vB s12.2)), (5, (ptr b3 0)), (6, (ptr b7 0)), (7, (vB s12.2))]) ⟨lk rfl f0, lk rfl f1, lk rfl f2, rfl, rfl, rfl, trivial⟩
    have hM := hM.pull (pre := [_])
    refine Zp (seg := Flat.enc s12.1) (cs' := Flat.enc s12.1) hE hM Za rfl rfl rfl Uc (Flat.len _) (zle flq) (Flat.cell _) (Zl flq) ?_; intro w a hM hE
    refine Zk ?_
    have ht221 := Option.some.inj hl218
    subst ht221
    refine Zn ?_
    have hM := M.fst (l := [_]) hM
    exact ⟨hE.sub ⟨rfl, rfl, trivial⟩, hM⟩
  ·skip
   rintro a w ⟨hE, hM⟩
   have hr := Option.some.inj hF219
   subst hr
   have hq222 : Yq Tryz.prog _ _ (.cell 5 170) _ := ZQ hE rfl Uc rfl (hM.rawAt (pre := [])) (Flat.len _) rfl
   have hM := M.fst (l := []) hM
   exact wp_ret (k_ret2 hE rfl (Zu hE rfl) hq222 ⟨_, rfl, rfl, hM.kept⟩)
noncomputable def Y5 (p0 : (Vector UInt8 256)) (s10 : (Vector UInt8 256) × Int) : Option (Fl ((Vector UInt8 256) × Int) (Vector UInt8 256)) :=
 if (decide (s10.2 < 256)) = true then ((ZK p0 s10.2).bind fun x15 => (ZK s10.1 (bI x15)).bind fun x19 => some (Fl.nx ((s10.1.setIfInBounds ((bI x15)).toNat (Zx s10.2)), wr (s10.2 + 1)))) else (some (Fl.ex s10.1))
noncomputable def X5 (p0 : (Vector UInt8 256)) : Option ((Vector UInt8 256)) :=
 (ZJ (Y5 p0) ((Vector.replicate 256 (0 : UInt8)), 0) : Option ((Vector UInt8 256))).bind fun j7 => some j7
theorem c_impl_Box_inverse (w0 : World) (p0 : (Vector UInt8 256)) (r : (Vector UInt8 256)) (hF : X5 p0 = some r) :
  Calls Tryz.prog 216 [(Value.agg (Flat.enc p0).toArray)].toArray w0 (fun en w' => ∃ v, en = .returned v ∧ (v = (Value.agg (Flat.enc r).toArray) ∧ Kept (Old w0) w0 w')) := by
 refine ZA (n := 18) Tryz.func216 rfl rfl (Nat.le_of_ble_eq_true rfl) rfl ?_
 intro a hE
 have hM := M.start w0
 unfold X5 at hF
 refine Zc (ZV (cs := Flat.enc p0) hE hM Za (dl rfl) rfl rfl ?_); intro b1 w a hM hE
 refine ZE hE hM Za (dl rfl) Xd ?_; intro b3 w a hM hE
 refine Zf (Zc (YO (parts := []) (vs := []) (cs := Flat.enc (Vector.replicate 256 (0 : UInt8))) hE Za (dl rfl) rfl rfl Xd rfl ty5 Yw ?_)); intro a hE
 refine ZE hE hM Za (dl rfl) Xd ?_; intro b5 w a hM hE
 refine Zp (seg := Flat.enc (Vector.replicate 256 (0 : UInt8))) (cs' := Flat.enc (Vector.replicate 256 (0 : UInt8))) hE hM Za rfl rfl rfl Xd (Flat.len _) (zle flq) (Flat.cell _) (Zl flq) ?_; intro w a hM hE
 refine Zf (wp_seq (Zc (Zm (cs := Flat.enc p0) hE Za (dl rfl) rfl Xd rfl (hM.rawAt (pre := [_, _])) (Flat.len _) ?_))); intro a hE
 refine Zd hE Za (dl rfl) rfl ?_; intro a hE
 refine Zf ?_
 obtain ⟨j7, hl8, hF9⟩ := bind_some hF
 refine ZS (fun a w => Env 18 a [(2, (ptr b3 0)), (3, (ptr b5 0))] ∧ M (Old w0) w0 w [raw b5 (Flat.enc j7), raw b3 (Flat.enc (Vector.replicate 256 (0 : UInt8)))]) ?_ ?_
 ·skip
  refine wp_block ?_
  have hM := hM.pull (pre := [_])
  have hM := hM.pull (pre := [_])
  have hM := M.fst (l := [_, _]) hM
  refine ZL (fun (s10 : (Vector UInt8 256) × Int) a w => Env 18 a [(2, (ptr b3 0)), (3, (ptr b5 0)), (7, (Value.agg (Flat.enc p0).toArray)), (8, (vI s10.2))] ∧ M (Old w0) w0 w [raw b5 (Flat.enc s10.1), raw b3 (Flat.enc (Vector.replicate 256 (0 : UInt8)))]) hl8 ⟨hE.sub ⟨rfl, rfl, rfl, rfl, trivial⟩, hM⟩ ?_
  rintro s10 a w ⟨hE, hM⟩ o13 hs11 hx12
  unfold Y5 at hs11
  refine Zc (Zh hE Za (dl rfl) rfl rfl rfl ?_); intro a hE
  refine Zf (wp_seq ?_)
  refine Zw hE rfl ?_ ?_
  ·intro hb14
   have hs11 := ZD hs11 hb14
   refine wp_skip (Zz (wp_seq (wp_block (Zc (Zd hE Za (dl rfl) rfl ?_))))); intro a hE
   obtain ⟨x15, e16, hs11⟩ := bind_some hs11
   have hi17 := Zi e16
   refine s_indexV hE Za (dl rfl) rfl rfl Tryz.underlying167 ty5 rfl rfl hi17 rfl ?_; intro a hE
   refine Ze hE Za (dl rfl) rfl ?_; intro a hE
   refine Ze hE Za (dl rfl) rfl ?_; intro a hE
   refine Zf (wp_region_lit (Zd hE Za (dl rfl) rfl ?_)); intro a hE
   refine Zd hE Za (dl rfl) rfl ?_; intro a hE
   refine YE hE Za (dl rfl) rfl Tryz.underlying3 Tryz.underlying5 ?_; intro a hE
   rw [Z4] at hE
   obtain ⟨x19, e20, hs11⟩ := bind_some hs11
   have hi18 := Zi e20
   refine Zo hE Za (dl rfl) rfl rfl Tryz.underlying167 ty5 hi18.1 ?_; intro a hE
   refine Zp (seg := [(vB (Zx s10.2))]) (cs' := Flat.enc (s10.1.setIfInBounds ((bI x15)).toNat (Zx s10.2))) hE hM Za rfl rfl rfl ty5 rfl (ZO (v := s10.1) (x := Zx s10.2) hi18.1) (Flat.cell (Zx s10.2 : UInt8)) (ZI (v := s10.1) (x := Zx s10.2) hi18.1) ?_; intro w a hM hE
   refine Zk (Yl (Zz (wp_region_lit (Zh hE Za (dl rfl) rfl rfl rfl ?_)))); intro a hE
   refine Zd hE Za (dl rfl) rfl ?_; intro a hE
   refine Zk (Zn ?_)
   exact ⟨_, (Option.some.inj hs11).symm, hE.sub ⟨rfl, rfl, rfl, rfl, trivial⟩, hM⟩
  ·intro hb14
   have hs11 := ZC hs11 hb14
   refine wp_exit (Zr (Zr (Yk ?_)))
   have ht21 := hx12 _ (Option.some.inj hs11).symm
   subst ht21
   refine Zn ?_
   exact ⟨hE.sub ⟨rfl, rfl, trivial⟩, hM⟩
 ·skip
  rintro a w ⟨hE, hM⟩
  refine Zz (Zc (Zm (cs := Flat.enc j7) hE Za (dl rfl) rfl Xd rfl (hM.rawAt (pre := [])) (Flat.len _) ?_)); intro a hE
  have hM := hM.pull (pre := [_])
  refine Zp (seg := Flat.enc j7) (cs' := Flat.enc j7) hE hM Za rfl rfl rfl Xd (Flat.len _) (zle flq) (Flat.cell _) (Zl flq) ?_; intro w a hM hE
  refine Zf ?_
  have hr := Option.some.inj hF9
  subst hr
  have hq22 : Yq Tryz.prog _ _ (.cell 2 167) _ := ZQ hE rfl Xd rfl (hM.rawAt (pre := [])) (Flat.len _) rfl
  have hM := M.fst (l := []) hM
  exact wp_ret (Zy hE rfl hq22 ⟨_, rfl, rfl, hM.kept⟩)
noncomputable def YD (p0 : (Vector UInt8 16)) (s10 : (Vector UInt8 16) × Int) : Option (Fl ((Vector UInt8 16) × Int) (Vector UInt8 16)) :=
 if (decide (s10.2 < 16)) = true then ((ZK p0 s10.2).bind fun x15 => (ZK s10.1 (bI x15)).bind fun x19 => some (Fl.nx ((s10.1.setIfInBounds ((bI x15)).toNat (Zx s10.2)), wr (s10.2 + 1)))) else (some (Fl.ex s10.1))
noncomputable def Xe (p0 : (Vector UInt8 16)) : Option ((Vector UInt8 16)) :=
 (ZJ (YD p0) ((Vector.replicate 16 (0 : UInt8)), 0) : Option ((Vector UInt8 16))).bind fun j7 => some j7
theorem c_impl_Places_inverse (w0 : World) (p0 : (Vector UInt8 16)) (r : (Vector UInt8 16)) (hF : Xe p0 = some r) :
  Calls Tryz.prog 217 [(Value.agg (Flat.enc p0).toArray)].toArray w0 (fun en w' => ∃ v, en = .returned v ∧ (v = (Value.agg (Flat.enc r).toArray) ∧ Kept (Old w0) w0 w')) := by
 refine ZA (n := 18) Tryz.func217 rfl rfl (Nat.le_of_ble_eq_true rfl) rfl ?_
 intro a hE
 have hM := M.start w0
 unfold Xe at hF
 refine Zc (ZV (cs := Flat.enc p0) hE hM Za (dl rfl) rfl rfl ?_); intro b1 w a hM hE
 refine ZE hE hM Za (dl rfl) ty171 ?_; intro b3 w a hM hE
 refine Zf (Zc (YO (parts := []) (vs := []) (cs := Flat.enc (Vector.replicate 16 (0 : UInt8))) hE Za (dl rfl) rfl rfl ty171 rfl ty5 Yw ?_)); intro a hE
 refine ZE hE hM Za (dl rfl) ty171 ?_; intro b5 w a hM hE
 refine Zp (seg := Flat.enc (Vector.replicate 16 (0 : UInt8))) (cs' := Flat.enc (Vector.replicate 16 (0 : UInt8))) hE hM Za rfl rfl rfl ty171 (Flat.len _) (zle flq) (Flat.cell _) (Zl flq) ?_; intro w a hM hE
 refine Zf (wp_seq (Zc (Zm (cs := Flat.enc p0) hE Za (dl rfl) rfl ty171 rfl (hM.rawAt (pre := [_, _])) (Flat.len _) ?_))); intro a hE
 refine Zd hE Za (dl rfl) rfl ?_; intro a hE
 refine Zf ?_
 obtain ⟨j7, hl8, hF9⟩ := bind_some hF
 refine ZS (fun a w => Env 18 a [(2, (ptr b3 0)), (3, (ptr b5 0))] ∧ M (Old w0) w0 w [raw b5 (Flat.enc j7), raw b3 (Flat.enc (Vector.replicate 16 (0 : UInt8)))]) ?_ ?_
 ·skip
  refine wp_block ?_
  have hM := hM.pull (pre := [_])
  have hM := hM.pull (pre := [_])
  have hM := M.fst (l := [_, _]) hM
  refine ZL (fun (s10 : (Vector UInt8 16) × Int) a w => Env 18 a [(2, (ptr b3 0)), (3, (ptr b5 0)), (7, (Value.agg (Flat.enc p0).toArray)), (8, (vI s10.2))] ∧ M (Old w0) w0 w [raw b5 (Flat.enc s10.1), raw b3 (Flat.enc (Vector.replicate 16 (0 : UInt8)))]) hl8 ⟨hE.sub ⟨rfl, rfl, rfl, rfl, trivial⟩, hM⟩ ?_
  rintro s10 a w ⟨hE, hM⟩ o13 hs11 hx12
  unfold YD at hs11
  refine Zc (Zh hE Za (dl rfl) rfl rfl rfl ?_); intro a hE
  refine Zf (wp_seq ?_)
  refine Zw hE rfl ?_ ?_
  ·intro hb14
   have hs11 := ZD hs11 hb14
   refine wp_skip (Zz (wp_seq (wp_block (Zc (Zd hE Za (dl rfl) rfl ?_))))); intro a hE
   obtain ⟨x15, e16, hs11⟩ := bind_some hs11
   have hi17 := Zi e16
   refine s_indexV hE Za (dl rfl) rfl rfl Tryz.underlying171 ty5 rfl rfl hi17 rfl ?_; intro a hE
   refine Ze hE Za (dl rfl) rfl ?_; intro a hE
   refine Ze hE Za (dl rfl) rfl ?_; intro a hE
   refine Zf (wp_region_lit (Zd hE Za (dl rfl) rfl ?_)); intro a hE
   refine Zd hE Za (dl rfl) rfl ?_; intro a hE
   refine YE hE Za (dl rfl) rfl Tryz.underlying3 Tryz.underlying5 ?_; intro a hE
   rw [Z4] at hE
   obtain ⟨x19, e20, hs11⟩ := bind_some hs11
   have hi18 := Zi e20
   refine Zo hE Za (dl rfl) rfl rfl Tryz.underlying171 ty5 hi18.1 ?_; intro a hE
   refine Zp (seg := [(vB (Zx s10.2))]) (cs' := Flat.enc (s10.1.setIfInBounds ((bI x15)).toNat (Zx s10.2))) hE hM Za rfl rfl rfl ty5 rfl (ZO (v := s10.1) (x := Zx s10.2) hi18.1) (Flat.cell (Zx s10.2 : UInt8)) (ZI (v := s10.1) (x := Zx s10.2) hi18.1) ?_; intro w a hM hE
   refine Zk (Yl (Zz (wp_region_lit (Zh hE Za (dl rfl) rfl rfl rfl ?_)))); intro a hE
   refine Zd hE Za (dl rfl) rfl ?_; intro a hE
   refine Zk (Zn ?_)
   exact ⟨_, (Option.some.inj hs11).symm, hE.sub ⟨rfl, rfl, rfl, rfl, trivial⟩, hM⟩
  ·intro hb14
   have hs11 := ZC hs11 hb14
   refine wp_exit (Zr (Zr (Yk ?_)))
   have ht21 := hx12 _ (Option.some.inj hs11).symm
   subst ht21
   refine Zn ?_
   exact ⟨hE.sub ⟨rfl, rfl, trivial⟩, hM⟩
 ·skip
  rintro a w ⟨hE, hM⟩
  refine Zz (Zc (Zm (cs := Flat.enc j7) hE Za (dl rfl) rfl ty171 rfl (hM.rawAt (pre := [])) (Flat.len _) ?_)); intro a hE
  have hM := hM.pull (pre := [_])
  refine Zp (seg := Flat.enc j7) (cs' := Flat.enc j7) hE hM Za rfl rfl rfl ty171 (Flat.len _) (zle flq) (Flat.cell _) (Zl flq) ?_; intro w a hM hE
  refine Zf ?_
  have hr := Option.some.inj hF9
  subst hr
  have hq22 : Yq Tryz.prog _ _ (.cell 2 171) _ := ZQ hE rfl ty171 rfl (hM.rawAt (pre := [])) (Flat.len _) rfl
  have hM := M.fst (l := []) hM
  exact wp_ret (Zy hE rfl hq22 ⟨_, rfl, rfl, hM.kept⟩)
noncomputable def XX (s8 : (Vector (Vector (Vector UInt8 256) 4) 4) × Int) (s19 : (Vector (Vector (Vector UInt8 256) 4) 4) × Int) (s30 : (Vector (Vector (Vector UInt8 256) 4) 4) × Int) (r35 : UInt8) (s40 : (Vector (Vector (Vector UInt8 256) 4) 4) × Int) : Option (Fl ((Vector (Vector (Vector UInt8 256) 4) 4) × Int) (Vector (Vector (Vector UInt8 256) 4) 4)) :=
 if (decide (s40.2 < s30.2)) = true then ((ZK s40.1 s8.2).bind fun x47 => (ZK x47 s19.2).bind fun x50 => (ZK x50 s40.2).bind fun x53 => (ZK s40.1 s8.2).bind fun x56 => (ZK x56 s19.2).bind fun x59 => (ZK x59 (orI s30.2 s40.2)).bind fun x62 => some (Fl.nx ((s40.1.setIfInBounds (s8.2).toNat (x56.setIfInBounds (s19.2).toNat (x59.setIfInBounds ((orI s30.2 s40.2)).toNat (r35 ^^^ x53)))), wr (s40.2 + 1)))) else (some (Fl.ex s40.1))
noncomputable def XU (p0 : Int) (s8 : (Vector (Vector (Vector UInt8 256) 4) 4) × Int) (s19 : (Vector (Vector (Vector UInt8 256) 4) 4) × Int) (x24 : UInt8) (s30 : (Vector (Vector (Vector UInt8 256) 4) 4) × Int) : Option (Fl ((Vector (Vector (Vector UInt8 256) 4) 4) × Int) (Vector (Vector (Vector UInt8 256) 4) 4)) :=
 if (decide (s30.2 < 256)) = true then ((Z5 p0 x24 (Zx s30.2)).bind fun r35 => (ZJ (XX s8 s19 s30 r35) (s30.1, 0) : Option ((Vector (Vector (Vector UInt8 256) 4) 4))).bind fun j37 => some (Fl.nx (j37, wr (s30.2 * 2)))) else (some (Fl.ex s30.1))
noncomputable def XR (p0 : Int) (s8 : (Vector (Vector (Vector UInt8 256) 4) 4) × Int) (x14 : (Vector UInt8 4)) (s19 : (Vector (Vector (Vector UInt8 256) 4) 4) × Int) : Option (Fl ((Vector (Vector (Vector UInt8 256) 4) 4) × Int) (Vector (Vector (Vector UInt8 256) 4) 4)) :=
 if (decide (s19.2 < 4)) = true then ((ZK x14 s19.2).bind fun x24 => (ZJ (XU p0 s8 s19 x24) (s19.1, 1) : Option ((Vector (Vector (Vector UInt8 256) 4) 4))).bind fun j27 => some (Fl.nx (j27, wr (s19.2 + 1)))) else (some (Fl.ex s19.1))
noncomputable def XY (p0 : Int) (p1 : (Vector (Vector UInt8 4) 4)) (s8 : (Vector (Vector (Vector UInt8 256) 4) 4) × Int) : Option (Fl ((Vector (Vector (Vector UInt8 256) 4) 4) × Int) (Vector (Vector (Vector UInt8 256) 4) 4)) :=
 if (decide (s8.2 < 4)) = true then ((ZK p1 s8.2).bind fun x14 => (ZJ (XR p0 s8 x14) (s8.1, 0) : Option ((Vector (Vector (Vector UInt8 256) 4) 4))).bind fun j16 => some (Fl.nx (j16, wr (s8.2 + 1)))) else (some (Fl.ex s8.1))
noncomputable def Wl (p0 : Int) (p1 : (Vector (Vector UInt8 4) 4)) : Option ((Ref (Vector (Vector (Vector UInt8 256) 4) 4))) :=
 (ZJ (XY p0 p1) ((Vector.replicate 4 (Vector.replicate 4 (Vector.replicate 256 (0 : UInt8)))), 0) : Option ((Vector (Vector (Vector UInt8 256) 4) 4))).bind fun j5 => some (⟨j5⟩ : (Ref (Vector (Vector (Vector UInt8 256) 4) 4)))
theorem c_impl_newMixer (w0 : World) (p0 : Int) (p1 : (Vector (Vector UInt8 4) 4)) (r : (Ref (Vector (Vector (Vector UInt8 256) 4) 4))) (hF : Wl p0 p1 = some r) :
  Calls Tryz.prog 218 [(vI p0), (Value.agg (Flat.enc p1).toArray)].toArray w0 (fun en w' => ∃ v, en = .returned v ∧ (∃ (y1 : Value), v = y1 ∧ Fr w0 w' [own NoB (r : (Ref (Vector (Vector (Vector UInt8 256) 4) 4))) [y1]] ∧ Kept (Old w0) w0 w')) := by
 refine ZA (n := 62) Tryz.func218 rfl rfl (Nat.le_of_ble_eq_true rfl) rfl ?_
 intro a hE
 have hM := M.start w0
 unfold Wl at hF
 refine Zc (ZV (cs := Flat.enc p1) hE hM Za (dl rfl) rfl rfl ?_); intro b1 w a hM hE
 refine Ze hE Za (dl rfl) rfl ?_; intro a hE
 refine Zf (Zc (YO (parts := []) (vs := []) (cs := Flat.enc (Vector.replicate 4 (Vector.replicate 4 (Vector.replicate 256 (0 : UInt8))))) hE Za (dl rfl) rfl rfl ty267 rfl ty265 Yw ?_)); intro a hE
 refine ZV (cs := Flat.enc (Vector.replicate 4 (Vector.replicate 4 (Vector.replicate 256 (0 : UInt8))))) hE hM Za (dl rfl) rfl rfl ?_; intro b3 w a hM hE
 refine Ze hE Za (dl rfl) rfl ?_; intro a hE
 refine Zf (wp_seq (Zc (Zd hE Za (dl rfl) rfl ?_))); intro a hE
 refine Zf ?_
 obtain ⟨j5, hl6, hF7⟩ := bind_some hF
 refine ZS (fun a w => Env 62 a [(5, (ptr b3 0))] ∧ M (Old w0) w0 w [raw b3 (Flat.enc j5)]) ?_ ?_
 ·skip
  refine wp_block ?_
  refine ZL (fun (s8 : (Vector (Vector (Vector UInt8 256) 4) 4) × Int) a w => Env 62 a [(0, (vI p0)), (3, (ptr b1 0)), (5, (ptr b3 0)), (14, (vI s8.2))] ∧ M (Old w0) w0 w [raw b3 (Flat.enc s8.1), raw b1 (Flat.enc p1)]) hl6 ⟨hE.sub ⟨rfl, rfl, rfl, rfl, trivial⟩, hM⟩ ?_
  rintro s8 a w ⟨hE, hM⟩ o11 hs9 hx10
  unfold XY at hs9
  refine Zc (Zh hE Za (dl rfl) rfl rfl rfl ?_); intro a hE
  refine Zf (wp_seq ?_)
  refine Zw hE rfl ?_ ?_
  ·intro hb12
   have hs9 := ZD hs9 hb12
   refine wp_skip (Zz (wp_seq (wp_block (Zc (Zd hE Za (dl rfl) rfl ?_))))); intro a hE
   refine Ze hE Za (dl rfl) rfl ?_; intro a hE
   refine Zf (Zc (Zd hE Za (dl rfl) rfl ?_)); intro a hE
   obtain ⟨x14, e15, hs9⟩ := bind_some hs9
   have hi13 := Zi e15
   refine Zo hE Za (dl rfl) rfl rfl Tryz.underlying170 Y8 hi13.1 ?_; intro a hE
   refine Zm (cs := Flat.enc x14) hE Za (dl rfl) rfl Y8 rfl (At.vec (hM.rawAt (pre := [_])) hi13.2) (Flat.len _) ?_; intro a hE
   refine Zd hE Za (dl rfl) rfl ?_; intro a hE
   refine Zf ?_
   obtain ⟨j16, hl17, hF18⟩ := bind_some hs9
   refine ZS (fun a w => Env 62 a [(0, (vI p0)), (3, (ptr b1 0)), (5, (ptr b3 0)), (14, (vI s8.2))] ∧ M (Old w0) w0 w [raw b3 (Flat.enc j16), raw b1 (Flat.enc p1)]) ?_ ?_
   ·skip
    refine wp_block ?_
    refine ZL (fun (s19 : (Vector (Vector (Vector UInt8 256) 4) 4) × Int) a w => Env 62 a [(0, (vI p0)), (3, (ptr b1 0)), (5, (ptr b3 0)), (6, (vI s8.2)), (14, (vI s8.2)), (19, (Value.agg (Flat.enc x14).toArray)), (20, (vI s19.2))] ∧ M (Old w0) w0 w [raw b3 (Flat.enc s19.1), raw b1 (Flat.enc p1)]) hl17 ⟨hE.sub ⟨rfl, rfl, rfl, rfl, rfl, rfl, rfl, trivial⟩, hM⟩ ?_
    rintro s19 a w ⟨hE, hM⟩ o22 hs20 hx21
    unfold XR at hs20
    refine Zc (Zh hE Za (dl rfl) rfl rfl rfl ?_); intro a hE
    refine Zf (wp_seq ?_)
    refine Zw hE rfl ?_ ?_
    ·intro hb23
     have hs20 := ZD hs20 hb23
     refine wp_skip (Zz (wp_seq (wp_block (Zc (Zd hE Za (dl rfl) rfl ?_))))); intro a hE
     obtain ⟨x24, e25, hs20⟩ := bind_some hs20
     have hi26 := Zi e25
     refine s_indexV hE Za (dl rfl) rfl rfl Tryz.underlying168 ty5 rfl rfl hi26 rfl ?_; intro a hE
     refine Ze hE Za (dl rfl) rfl ?_; intro a hE
     refine Ze hE Za (dl rfl) rfl ?_; intro a hE
     refine Zf (Zc (Ze hE Za (dl rfl) rfl ?_)); intro a hE
     refine Zf ?_
     obtain ⟨j27, hl28, hF29⟩ := bind_some hs20
     refine ZS (fun a w => Env 62 a [(0, (vI p0)), (3, (ptr b1 0)), (5, (ptr b3 0)), (6, (vI s8.2)), (14, (vI s8.2)), (19, (Value.agg (Flat.enc x14).toArray)), (20, (vI s19.2))] ∧ M (Old w0) w0 w [raw b3 (Flat.enc j27), raw b1 (Flat.enc p1)]) ?_ ?_
     ·skip
      refine wp_block ?_
      refine ZL (fun (s30 : (Vector (Vector (Vector UInt8 256) 4) 4) × Int) a w => Env 62 a [(0, (vI p0)), (3, (ptr b1 0)), (5, (ptr b3 0)), (6, (vI s8.2)), (7, (vI s19.2)), (8, (vB x24)), (9, (vI s30.2)), (14, (vI s8.2)), (19, (Value.agg (Flat.enc x14).toArray)), (20, (vI s19.2))] ∧ M (Old w0) w0 w [raw b3 (Flat.enc s30.1), raw b1 (Flat.enc p1)]) hl28 ⟨hE.sub ⟨rfl, rfl, rfl, rfl, rfl, rfl, rfl, rfl, rfl, rfl, trivial⟩, hM⟩ ?_
      rintro s30 a w ⟨hE, hM⟩ o33 hs31 hx32
      unfold XU at hs31
      refine wp_seq (Zc (Zd hE Za (dl rfl) rfl ?_)); intro a hE
      refine Zh hE Za (dl rfl) rfl rfl rfl ?_; intro a hE
      refine Zf ?_
      refine Zw hE rfl ?_ ?_
      ·intro hb34
       have hs31 := ZD hs31 hb34
       refine wp_skip (Zz (wp_seq (wp_block (Zc (Zd hE Za (dl rfl) rfl ?_))))); intro a hE
       refine Zd hE Za (dl rfl) rfl ?_; intro a hE
       refine Zd hE Za (dl rfl) rfl ?_; intro a hE
       refine YE hE Za (dl rfl) rfl Tryz.underlying3 Tryz.underlying5 ?_; intro a hE
       rw [Z4] at hE
       obtain ⟨r35, e36, hs31⟩ := bind_some hs31
       refine Zs (vs := [(vI p0), (vB x24), (vB (Zx s30.2))]) hE Za (dl rfl) rfl cb239 (Yz _ p0 x24 (Zx s30.2) r35 e36) ?_
       rintro v w a ⟨rfl, hK⟩ hE
       have hM := hM.keep hK
       refine Ze hE Za (dl rfl) rfl ?_; intro a hE
       refine Zf (Zc (Zd hE Za (dl rfl) rfl ?_)); intro a hE
       refine Zd hE Za (dl rfl) rfl ?_; intro a hE
       refine Zf ?_
       obtain ⟨j37, hl38, hF39⟩ := bind_some hs31
       refine ZS (fun a w => Env 62 a [(0, (vI p0)), (3, (ptr b1 0)), (5, (ptr b3 0)), (6, (vI s8.2)), (7, (vI s19.2)), (8, (vB x24)), (9, (vI s30.2)), (14, (vI s8.2)), (19, (Value.agg (Flat.enc x14).toArray)), (20, (vI s19.2))] ∧ M (Old w0) w0 w [raw b3 (Flat.enc j37), raw b1 (Flat.enc p1)]) ?_ ?_
       ·skip
        refine wp_block ?_
        refine ZL (fun (s40 : (Vector (Vector (Vector UInt8 256) 4) 4) × Int) a w => Env 62 a [(0, (vI p0)), (3, (ptr b1 0)), (5, (ptr b3 0)), (6, (vI s8.2)), (7, (vI s19.2)), (8, (vB x24)), (9, (vI s30.2)), (10, (vB r35)), (14, (vI s8.2)), (19, (Value.agg (Flat.enc x14).toArray)), (20, (vI s19.2)), (33, (vI s30.2)), (34, (vI s40.2))] ∧ M (Old w0) w0 w [raw b3 (Flat.enc s40.1), raw b1 (Flat.enc p1)]) hl38 ⟨hE.sub ⟨rfl, rfl, rfl, rfl, rfl, rfl, rfl, rfl, rfl, rfl, rfl, rfl, rfl, trivial⟩, hM⟩ ?_
        rintro s40 a w ⟨hE, hM⟩ o43 hs41 hx42
        unfold XX at hs41
        refine Zc (Zh hE Za (dl rfl) rfl rfl rfl ?_); intro a hE
        refine Zf (wp_seq ?_)
        refine Zw hE rfl ?_ ?_
        ·intro hb44
         have hs41 := ZD hs41 hb44
         refine wp_skip (Zz (wp_seq (wp_block (Zc (Zd hE Za (dl rfl) rfl ?_))))); intro a hE
         refine Ze hE Za (dl rfl) rfl ?_; intro a hE
         refine Zf ?_
         obtain ⟨x47, e48, hs41⟩ := bind_some hs41
         have hi46 := Zi e48
         obtain ⟨x50, e51, hs41⟩ := bind_some hs41
         have hi49 := Zi e51
         obtain ⟨x53, e54, hs41⟩ := bind_some hs41
         have hi52 := Zi e54
         obtain ⟨x56, e57, hs41⟩ := bind_some hs41
         have hi55 := Zi e57
         obtain ⟨x59, e60, hs41⟩ := bind_some hs41
         have hi58 := Zi e60
         obtain ⟨x62, e63, hs41⟩ := bind_some hs41
         have hi61 := Zi e63
         refine Yo (n := 62) (hd := [_, _, _, _, _, _, _, _, _, _, _, _, _, _, _, _, _, _, _, _, _]) (tl := [_]) YU rfl rfl [37, 38, 39, 40, 41, 42, 43, 44, 45, 46, 47, 48, 49, 50, 51, 52, 53, 54, 55, 56, 57] (by decide) (fun w => M (Old w0) w0 w [raw b3 (Flat.enc s40.1), raw b1 (Flat.enc p1)]) (fun j => ([fun v _ => v = (ptr b3 0), fun v _ => v = (vI s8.2), fun v _ => v = (vI s19.2), fun v _ => v = (vI s30.2), fun v _ => v = (vI s40.2), fun v _ => v = (vI (orI s30.2 s40.2)), fun v _ => v = (vB r35), fun v _ => v = (ptr b3 0), fun v _ => v = (vI s8.2), fun v _ => v = (vI s19.2), fun v _ => v = (vI s40.2), fun v _ => v = (ptr b3 0), fun v _ => v = (ptr b3 (0 + (s8.2).toNat * 1024)), fun v _ => v = (ptr b3 (0 + (s8.2).toNat * 1024 + (s19.2).toNat * 256)), fun v _ => v = (ptr b3 (0 + (s8.2).toNat * 1024 + (s19.2).toNat * 256 + (s40.2).toNat * 1)), fun v _ => v = (vB x53), fun v _ => v = (vB (r35 ^^^ x53)), fun v _ => v = (ptr b3 0), fun v _ => v = (ptr b3 (0 + (s8.2).toNat * 1024)), fun v _ => v = (ptr b3 (0 + (s8.2).toNat * 1024 + (s19.2).toNat * 256)), fun v _ => v = (ptr b3 (0 + (s8.2).toNat * 1024 + (s19.2).toNat * 256 + ((orI s30.2 s40.2)).toNat * 1))] : List (Value → World → Prop)).getD j (fun _ _ => True)) (fun _ _ h hk => h.keep hk) (gup (Zj (Zj (Zj (Zj (Zj (Zj (Zj (Zj (Zj (Zj (Zj (Zj (Zj (Zj (Zj (Zj (Zj (Zj (Zj (Zj (Zj Vq)))))))))))))))))))))) hE hM.drew (ZM (Zb ?_ (Zb ?_ (Zb ?_ (Zb ?_ (Zb ?_ (Zb ?_ (Zb ?_ (Zb ?_ (Zb ?_ (Zb ?_ (Zb ?_ (Zb ?_ (Zb ?_ (Zb ?_ (Zb ?_ (Zb ?_ (Zb ?_ (Zb ?_ (Zb ?_ (Zb ?_ (Zb ?_ ZH)))))))))))))))))))))) ?_
         ·intro a w ux45 hE hM hp
          refine Zd hE Za (dl rfl) rfl ?_; intro a hE
          exact ⟨Kept.refl _ _, _, _, rfl, hE, rfl⟩
         ·intro a w ux45 hE hM hp
          refine Zd hE Za (dl rfl) rfl ?_; intro a hE
          exact ⟨Kept.refl _ _, _, _, rfl, hE, rfl⟩
         ·intro a w ux45 hE hM hp
          refine Zd hE Za (dl rfl) rfl ?_; intro a hE
          exact ⟨Kept.refl _ _, _, _, rfl, hE, rfl⟩
         ·intro a w ux45 hE hM hp
          refine Zd hE Za (dl rfl) rfl ?_; intro a hE
          exact ⟨Kept.refl _ _, _, _, rfl, hE, rfl⟩
         ·intro a w ux45 hE hM hp
          refine Zd hE Za (dl rfl) rfl ?_; intro a hE
          exact ⟨Kept.refl _ _, _, _, rfl, hE, rfl⟩
         ·intro a w ux45 hE hM hp
          have f3 : ux45 3 = (vI s30.2) := hp 0 _ rfl rfl
          have f4 : ux45 4 = (vI s40.2) := hp 1 _ rfl rfl
          refine Zh hE Za (dl rfl) (lk rfl f3) (lk rfl f4) rfl ?_; intro a hE
          exact ⟨Kept.refl _ _, _, _, rfl, hE, rfl⟩
         ·intro a w ux45 hE hM hp
          refine Zd hE Za (dl rfl) rfl ?_; intro a hE
          exact ⟨Kept.refl _ _, _, _, rfl, hE, rfl⟩
         ·intro a w ux45 hE hM hp
          refine Zd hE Za (dl rfl) rfl ?_; intro a hE
          exact ⟨Kept.refl _ _, _, _, rfl, hE, rfl⟩
         ·intro a w ux45 hE hM hp
          refine Zd hE Za (dl rfl) rfl ?_; intro a hE
          exact ⟨Kept.refl _ _, _, _, rfl, hE, rfl⟩
         ·intro a w ux45 hE hM hp
          refine Zd hE Za (dl rfl) rfl ?_; intro a hE
          exact ⟨Kept.refl _ _, _, _, rfl, hE, rfl⟩
         ·intro a w ux45 hE hM hp
          refine Zd hE Za (dl rfl) rfl ?_; intro a hE
          exact ⟨Kept.refl _ _, _, _, rfl, hE, rfl⟩
         ·intro a w ux45 hE hM hp
          have f7 : ux45 7 = (ptr b3 0) := hp 0 _ rfl rfl
          refine XI hE Za (dl rfl) (lk rfl f7) ?_; intro a hE
          exact ⟨Kept.refl _ _, _, _, rfl, hE, rfl⟩
         ·intro a w ux45 hE hM hp
          have f8 : ux45 8 = (vI s8.2) := hp 1 _ rfl rfl
          have f11 : ux45 11 = (ptr b3 0) := hp 0 _ rfl rfl
          refine Zo hE Za (dl rfl) (lk rfl f11) (lk rfl f8) Tryz.underlying267 ty265 hi46.1 ?_; intro a hE
          exact ⟨Kept.refl _ _, _, _, rfl, hE, rfl⟩
         ·intro a w ux45 hE hM hp
          have f9 : ux45 9 = (vI s19.2) := hp 1 _ rfl rfl
          have f12 : ux45 12 = (ptr b3 (0 + (s8.2).toNat * 1024)) := hp 0 _ rfl rfl
          refine Zo hE Za (dl rfl) (lk rfl f12) (lk rfl f9) Tryz.underlying265 ty166 hi49.1 ?_; intro a hE
          exact ⟨Kept.refl _ _, _, _, rfl, hE, rfl⟩
         ·intro a w ux45 hE hM hp
          have f10 : ux45 10 = (vI s40.2) := hp 1 _ rfl rfl
          have f13 : ux45 13 = (ptr b3 (0 + (s8.2).toNat * 1024 + (s19.2).toNat * 256)) := hp 0 _ rfl rfl
          refine Zo hE Za (dl rfl) (lk rfl f13) (lk rfl f10) Tryz.underlying166 ty5 hi52.1 ?_; intro a hE
          exact ⟨Kept.refl _ _, _, _, rfl, hE, rfl⟩
         ·intro a w ux45 hE hM hp
          have f14 : ux45 14 = (ptr b3 (0 + (s8.2).toNat * 1024 + (s19.2).toNat * 256 + (s40.2).toNat * 1)) := hp 0 _ rfl rfl
          refine Zq (v := (vB x53)) hE Za (dl rfl) (lk rfl f14) ty5 rfl (At.vec (At.vec (At.vec (hM.rawAt (pre := [])) hi46.2) hi49.2) hi52.2) ?_; intro a hE
          exact ⟨Kept.refl _ _, _, _, rfl, hE, rfl⟩
         ·intro a w ux45 hE hM hp
          have f6 : ux45 6 = (vB r35) := hp 0 _ rfl rfl
          have f15 : ux45 15 = (vB x53) := hp 1 _ rfl rfl
          refine Zh hE Za (dl rfl) (lk rfl f6) (lk rfl f15) (WK r35 x53) ?_; intro a hE
          exact ⟨Kept.refl _ _, _, _, rfl, hE, rfl⟩
         ·intro a w ux45 hE hM hp
          have f0 : ux45 0 = (ptr b3 0) := hp 0 _ rfl rfl
          refine XI hE Za (dl rfl) (lk rfl f0) ?_; intro a hE
          exact ⟨Kept.refl _ _, _, _, rfl, hE, rfl⟩
         ·intro a w ux45 hE hM hp
          have f1 : ux45 1 = (vI s8.2) := hp 1 _ rfl rfl
          have f17 : ux45 17 = (ptr b3 0) := hp 0 _ rfl rfl
          refine Zo hE Za (dl rfl) (lk rfl f17) (lk rfl f1) Tryz.underlying267 ty265 hi55.1 ?_; intro a hE
          exact ⟨Kept.refl _ _, _, _, rfl, hE, rfl⟩
         ·intro a w ux45 hE hM hp
          have f2 : ux45 2 = (vI s19.2) := hp 1 _ rfl rfl
          have f18 : ux45 18 = (ptr b3 (0 + (s8.2).toNat * 1024)) := hp 0 _ rfl rfl
          refine Zo hE Za (dl rfl) (lk rfl f18) (lk rfl f2) Tryz.underlying265 ty166 hi58.1 ?_; intro a hE
          exact ⟨Kept.refl _ _, _, _, rfl, hE, rfl⟩
         ·intro a w ux45 hE hM hp
          have f5 : ux45 5 = (vI (orI s30.2 s40.2)) := hp 1 _ rfl rfl
          have f19 : ux45 19 = (ptr b3 (0 + (s8.2).toNat * 1024 + (s19.2).toNat * 256)) := hp 0 _ rfl rfl
          refine Zo hE Za (dl rfl) (lk rfl f19) (lk rfl f5) Tryz.underlying166 ty5 hi61.1 ?_; intro a hE
          exact ⟨Kept.refl _ _, _, _, rfl, hE, rfl⟩
         ·intro a w ux45 hE hM hg
          have f0 : ux45 0 = (ptr b3 0) := hg 0 (by decide)
          have f1 : ux45 1 = (vI s8.2) := hg 1 (by decide)
          have f2 : ux45 2 = (vI s19.2) := hg 2 (by decide)
          have f3 : ux45 3 = (vI s30.2) := hg 3 (by decide)
          have f4 : ux45 4 = (vI s40.2) := hg 4 (by decide)
          have f5 : ux45 5 = (vI (orI s30.2 s40.2)) := hg 5 (by decide)
          have f6 : ux45 6 = (vB r35) := hg 6 (by decide)
          have f7 : ux45 7 = (ptr b3 0) := hg 7 (by decide)
          have f8 : ux45 8 = (vI s8.2) := hg 8 (by decide)
          have f9 : ux45 9 = (vI s19.2) := hg 9 (by decide)
          have f10 : ux45 10 = (vI s40.2) := hg 10 (by decide)
          have f11 : ux45 11 = (ptr b3 0) := hg 11 (by decide)
          have f12 : ux45 12 = (ptr b3 (0 + (s8.2).toNat * 1024)) := hg 12 (by decide)
          have f13 : ux45 13 = (ptr b3 (0 + (s8.2).toNat * 1024 + (s19.2).toNat * 256)) := hg 13 (by decide)
          have f14 : ux45 14 = (ptr b3 (0 + (s8.2).toNat * 1024 + (s19.2).toNat * 256 + (s40.2).toNat * 1)) := hg 14 (by decide)
          have f15 : ux45 15 = (vB x53) := hg 15 (by decide)
          have f16 : ux45 16 = (vB (r35 ^^^ x53)) := hg 16 (by decide)
          have f17 : ux45 17 = (ptr b3 0) := hg 17 (by decide)
          have f18 : ux45 18 = (ptr b3 (0 + (s8.2).toNat * 1024)) := hg 18 (by decide)
          have f19 : ux45 19 = (ptr b3 (0 + (s8.2).toNat * 1024 + (s19.2).toNat * 256)) := hg 19 (by decide)
          have f20 : ux45 20 = (ptr b3 (0 + (s8.2).toNat * 1024 + (s19.2).toNat * 256 + ((orI s30.2 s40.2)).toNat * 1)) := hg 20 (by decide)
          have hE := hE.sub (e' := [(37, (ptr b3 0)), (38, (vI s8.2)), (39, (vI s19.2)), (40, (vI s30.2)), (41, (vI s40.2)), (42, (vI (orI s30.2 s40.2))), (43, (vB r35)), (44, (ptr b3 0)), (45, (vI s8.2)), (46, (vI s19.2)), (47, (vI s40.2)), (48, (ptr b3 0)), (49, (ptr b3 (0 + (s8.2).toNat * 1024))), (50, (ptr b3 (0 + (s8.2).toNat * 1024 + (s19.2).toNat * 256))), (51, (ptr b3 (0 + (s8.2).toNat * 1024 + (s19.2).toNat * 256 + (s40.2).toNat * 1))), (52, (vB x53)), (53, (vB (r35 ^^^ x53))), (54, (ptr b3 0)), (55, (ptr b3 (0 + (s8.2).toNat * 1024))), (56, (ptr b3 (0 + (s8.2).toNat * 1024 + (s19.2).toNat * 256))), (57, (ptr b3 (0 + (s8.2).toNat * 1024 + (s19.2).toNat * 256 + ((orI s30.2 s40.2)).toNat * 1))), (0, (vI p0)), (3, (ptr b1 0)), (5, (ptr b3 0)), (6, (vI s8.2)), (7, (vI s19.2)), (8, (vB x24)), (9, (vI s30.2)), (10, (vB r35)), (11, (vI s40.2)), (14, (vI s8.2)), (19, (Value.agg (Flat.enc x14).toArray)), (20, (vI s19.2)), (33, (vI s30.2)), (34, (vI s40.2)), (35, (vT (decide (s40.2 < s30.2)))), (36, (vI s40.2))]) ⟨lk rfl f0, lk rfl f1, lk rfl f2, lk rfl f3, lk rfl f4, lk rfl f5, lk rfl f6, lk rfl f7, lk rfl f8, lk rfl f9, lk rfl f10, lk rfl f11, lk rfl f12, lk rfl f13, lk rfl f14, lk rfl f15, lk rfl f16, lk rfl f17, lk rfl f18, lk rfl f19, lk rfl f20, rfl, rfl, rfl, rfl, rfl, rfl, rfl, rfl, rfl, rfl, rfl, rfl, rfl, rfl, rfl, rfl, trivial⟩
          refine Zp (seg := [(vB (r35 ^^^ x53))]) (cs' := Flat.enc (s40.1.setIfInBounds (s8.2).toNat (x56.setIfInBounds (s19.2).toNat (x59.setIfInBounds ((orI s30.2 s40.2)).toNat (r35 ^^^ x53))))) hE hM Za rfl rfl rfl ty5 rfl (Vy (o' := (s19.2).toNat * 256 + (0 + ((orI s30.2 s40.2)).toNat * 1)) hi55 (Vy (o' := 0 + ((orI s30.2 s40.2)).toNat * 1) hi58 (ZO (v := x59) (x := r35 ^^^ x53) hi61.1) (by first | omega | (simp only [Flat.n] <;> omega))) (by first | omega | (simp only [Flat.n] <;> omega))) (Flat.cell (r35 ^^^ x53 : UInt8)) (WG (o' := (s19.2).toNat * 256 + (0 + ((orI s30.2 s40.2)).toNat * 1)) hi55 (Vy (o' := 0 + ((orI s30.2 s40.2)).toNat * 1) hi58 (ZO (v := x59) (x := r35 ^^^ x53) hi61.1) (by first | omega | (simp only [Flat.n] <;> omega))) (WG (o' := 0 + ((orI s30.2 s40.2)).toNat * 1) hi58 (ZO (v := x59) (x := r35 ^^^ x53) hi61.1) (ZI (v := x59) (x := r35 ^^^ x53) hi61.1) (by first | omega | (simp only [Flat.n] <;> omega))) (by first | omega | (simp only [Flat.n] <;> omega))) ?_; intro w a hM hE
          refine Zk (Yl (Zz (wp_region_lit (Zh hE Za (dl rfl) rfl rfl rfl ?_)))); intro a hE
          refine Zd hE Za (dl rfl) rfl ?_; intro a hE
          refine Zk (Zn ?_)
          exact ⟨_, (Option.some.inj hs41).symm, hE.sub ⟨rfl, rfl, rfl, rfl, rfl, rfl, rfl, rfl, rfl, rfl, rfl, rfl, rfl, trivial⟩, hM⟩
        ·intro hb44
         have hs41 := ZC hs41 hb44
         refine wp_exit (Zr (Zr (Yk ?_)))
         have ht64 := hx42 _ (Option.some.inj hs41).symm
         subst ht64
         refine Zn ?_
         exact ⟨hE.sub ⟨rfl, rfl, rfl, rfl, rfl, rfl, rfl, rfl, rfl, rfl, trivial⟩, hM⟩
       ·skip
        rintro a w ⟨hE, hM⟩
        refine Yl (Zz (wp_region_lit (Zd hE Za (dl rfl) rfl ?_))); intro a hE
        refine Zh hE Za (dl rfl) rfl rfl rfl ?_; intro a hE
        refine Ze hE Za (dl rfl) rfl ?_; intro a hE
        refine Zk (Zn ?_)
        exact ⟨_, (Option.some.inj hF39).symm, hE.sub ⟨rfl, rfl, rfl, rfl, rfl, rfl, rfl, rfl, rfl, rfl, trivial⟩, hM⟩
      ·intro hb34
       have hs31 := ZC hs31 hb34
       refine wp_exit (Zr (Zr (Yk ?_)))
       have ht65 := hx32 _ (Option.some.inj hs31).symm
       subst ht65
       refine Zn ?_
       exact ⟨hE.sub ⟨rfl, rfl, rfl, rfl, rfl, rfl, rfl, trivial⟩, hM⟩
     ·skip
      rintro a w ⟨hE, hM⟩
      refine Yl (Zz (wp_region_lit (Zh hE Za (dl rfl) rfl rfl rfl ?_))); intro a hE
      refine Zd hE Za (dl rfl) rfl ?_; intro a hE
      refine Zk (Zn ?_)
      exact ⟨_, (Option.some.inj hF29).symm, hE.sub ⟨rfl, rfl, rfl, rfl, rfl, rfl, rfl, trivial⟩, hM⟩
    ·intro hb23
     have hs20 := ZC hs20 hb23
     refine wp_exit (Zr (Zr (Yk ?_)))
     have ht66 := hx21 _ (Option.some.inj hs20).symm
     subst ht66
     refine Zn ?_
     exact ⟨hE.sub ⟨rfl, rfl, rfl, rfl, trivial⟩, hM⟩
   ·skip
    rintro a w ⟨hE, hM⟩
    refine Yl (Zz (wp_region_lit (Zh hE Za (dl rfl) rfl rfl rfl ?_))); intro a hE
    refine Zd hE Za (dl rfl) rfl ?_; intro a hE
    refine Zk (Zn ?_)
    exact ⟨_, (Option.some.inj hF18).symm, hE.sub ⟨rfl, rfl, rfl, rfl, trivial⟩, hM⟩
  ·intro hb12
   have hs9 := ZC hs9 hb12
   refine wp_exit (Zr (Zr (Yk ?_)))
   have ht67 := hx10 _ (Option.some.inj hs9).symm
   subst ht67
   refine Zn ?_
   have hM := M.fst (l := [_]) hM
   exact ⟨hE.sub ⟨rfl, trivial⟩, hM⟩
 ·skip
  rintro a w ⟨hE, hM⟩
  refine Zz (Zc (Zd hE Za (dl rfl) rfl ?_)); intro a hE
  refine Ze hE Za (dl rfl) rfl ?_; intro a hE
  refine Zf ?_
  have hM := M.toRefF (x := j5) hM
  have hr := Option.some.inj hF7
  subst hr
  exact wp_ret (Zy hE rfl (Zu hE rfl) ⟨_, rfl, (ptr b3 0), rfl, hM.outF (locNO W2), hM.kept⟩)
noncomputable def W4 (p0 : GCipher) : Option ((Ref Gengine)) :=
 (Y4 p0.Field p0.Mix).bind fun r3 => (X5 p0.Box).bind fun r8 => (Xe p0.Places).bind fun r10 => (Wl p0.Field p0.Mix).bind fun r12 => (Wl p0.Field r3.2).bind fun r15 => some (⟨(⟨p0.Box, r8, p0.Places, r10, r12, r15, p0.Rounds⟩ : Gengine)⟩ : (Ref Gengine))
theorem c_impl_newEngine (w0 : World) (p0 : GCipher) (r : (Ref Gengine)) (hF : W4 p0 = some r) :
  Calls Tryz.prog 185 [(Value.agg (Flat.enc p0).toArray)].toArray w0 (fun en w' => ∃ v, en = .returned v ∧ (∃ (y1 : Value), v = y1 ∧ Fr w0 w' [own NoB (r : (Ref Gengine)) [y1]] ∧ Kept (Old w0) w0 w')) := by
 refine ZA (n := 36) Tryz.func185 rfl rfl (Nat.le_of_ble_eq_true rfl) rfl ?_
 intro a hE
 have hM := M.start w0
 unfold W4 at hF
 refine Zc (ZV (cs := cat [[(vI p0.Field)], Flat.enc p0.Box, Flat.enc p0.Mix, Flat.enc p0.Places, [(vI p0.Rounds)]]) hE hM Za (dl rfl) rfl rfl ?_); intro b1 w a hM hE
 refine Ze hE Za (dl rfl) rfl ?_; intro a hE
 refine Zf (Zc (Zg hE Za (dl rfl) rfl (fd173_0) ?_)); intro a hE
 refine Zq (v := (vI p0.Field)) hE Za (dl rfl) rfl ty2 rfl (At.cat (pre := []) (hM.rawAt (pre := [])) cl0) ?_; intro a hE
 refine Zg hE Za (dl rfl) rfl (fd173_2) ?_; intro a hE
 refine Zm (cs := Flat.enc p0.Mix) hE Za (dl rfl) rfl Uc rfl (At.cat (pre := [[(vI p0.Field)], Flat.enc p0.Box]) (hM.rawAt (pre := [])) (cl1 (n := 1) (m := 256) rfl (cl1 (n := 256) (m := 0) (Flat.len _) cl0))) (Flat.len _) ?_; intro a hE
 obtain ⟨r3, e4, hF⟩ := bind_some hF
 refine Zs (vs := [(vI p0.Field), (Value.agg (Flat.enc p0.Mix).toArray)]) hE Za (dl rfl) rfl cb215 (c_impl_field_invert _ p0.Field p0.Mix r3 e4) ?_
 rintro v w a ⟨rfl, hK⟩ hE
 have hM := hM.keep hK
 refine Zd hE Za (dl rfl) rfl ?_; intro a hE
 refine VN hE Za (dl rfl) rfl rfl ?_; intro a hE
 refine VN hE Za (dl rfl) rfl rfl ?_; intro a hE
 refine ZE hE hM Za (dl rfl) Uc ?_; intro b5 w a hM hE
 refine Ze hE Za (dl rfl) rfl ?_; intro a hE
 refine Zp (seg := Flat.enc r3.2) (cs' := Flat.enc r3.2) hE hM Za rfl rfl rfl Uc (Flat.len _) (zle flq) (Flat.cell _) (Zl flq) ?_; intro w a hM hE
 refine Zf (wp_seq ?_)
 obtain ⟨r8, e9, hF⟩ := bind_some hF
 obtain ⟨r10, e11, hF⟩ := bind_some hF
 obtain ⟨r12, e13, hF⟩ := bind_some hF
 obtain ⟨r15, e16, hF⟩ := bind_some hF
 refine c_draw2 (n := 36) (hd := [_, _, _, _, _, _, _, _, _, _, _, _, _, _, _, _, _, _, _, _, _]) (tl := [_, _, _]) (its := [raw b5 (Flat.enc r3.2), raw b1 (cat [[(vI p0.Field)], Flat.enc p0.Box, Flat.enc p0.Mix, Flat.enc p0.Places, [(vI p0.Rounds)]])]) YU rfl rfl [13, 14, 15, 16, 17, 18, 19, 20, 21, 22, 23, 24, 25, 26, 27, 28, 29, 30, 31, 32, 33] (by decide) [(14, fun v => own NoB (r12 : (Ref (Vector (Vector (Vector UInt8 256) 4) 4))) [v]), (18, fun v => own NoB (r15 : (Ref (Vector (Vector (Vector UInt8 256) 4) 4))) [v])] rfl (fun j => ([fun v => v = (ptr b1 (0 + 1)), fun v => v = (Value.agg (Flat.enc p0.Box).toArray), fun v => v = (ptr b1 (0 + 1)), fun v => v = (Value.agg (Flat.enc p0.Box).toArray), fun v => v = (Value.agg (Flat.enc r8).toArray), fun v => v = (ptr b1 (0 + 273)), fun v => v = (Value.agg (Flat.enc p0.Places).toArray), fun v => v = (ptr b1 (0 + 273)), fun v => v = (Value.agg (Flat.enc p0.Places).toArray), fun v => v = (Value.agg (Flat.enc r10).toArray), fun v => v = (ptr b1 (0 + 0)), fun v => v = (vI p0.Field), fun v => v = (ptr b1 (0 + 257)), fun v => v = (Value.agg (Flat.enc p0.Mix).toArray), fun v => True, fun v => v = (ptr b1 (0 + 0)), fun v => v = (vI p0.Field), fun v => v = (Value.agg (Flat.enc r3.2).toArray), fun v => True, fun v => v = (ptr b1 (0 + 289)), fun v => v = (vI p0.Rounds)] : List (Value → Prop)).getD j (fun _ => True)) hE hM.drew (ZM (Zb ?_ (Zb ?_ (Zb ?_ (Zb ?_ (Zb ?_ (Zb ?_ (Zb ?_ (Zb ?_ (Zb ?_ (Zb ?_ (Zb ?_ (Zb ?_ (Zb ?_ (Zb ?_ (Zb ?_ (Zb ?_ (Zb ?_ (Zb ?_ (Zb ?_ (Zb ?_ (Zb ?_ ZH)))))))))))))))))))))) ?_
 ·intro a w ux7 D hE hM hD hp
  have hM0 := hM
  refine Zg hE Za (dl rfl) rfl (fd173_1) ?_; intro a hE
  exact ⟨_, _, rfl, hE, rfl, hM0.optKeep rfl⟩
 ·intro a w ux7 D hE hM hD hp
  have f0 : ux7 0 = (ptr b1 (0 + 1)) := (hp 0 _ rfl rfl).2
  have hM0 := hM
  have hM : M (Old w0) w0 w [raw b5 (Flat.enc r3.2), raw b1 (cat [[(vI p0.Field)], Flat.enc p0.Box, Flat.enc p0.Mix, Flat.enc p0.Places, [(vI p0.Rounds)]]), opt (D 14) (own NoB (r12 : (Ref (Vector (Vector (Vector UInt8 256) 4) 4))) [(ux7 14)]), opt (D 18) (own NoB (r15 : (Ref (Vector (Vector (Vector UInt8 256) 4) 4))) [(ux7 18)])] := hM
  refine Zm (cs := Flat.enc p0.Box) hE Za (dl rfl) (lk rfl f0) Xd rfl (At.cat (pre := [[(vI p0.Field)]]) (hM.rawAt (pre := [_])) (cl1 (n := 1) (m := 0) rfl cl0)) (Flat.len _) ?_; intro a hE
  exact ⟨_, _, rfl, hE, rfl, hM0.optKeep rfl⟩
 ·intro a w ux7 D hE hM hD hp
  have hM0 := hM
  refine Zg hE Za (dl rfl) rfl (fd173_1) ?_; intro a hE
  exact ⟨_, _, rfl, hE, rfl, hM0.optKeep rfl⟩
 ·intro a w ux7 D hE hM hD hp
  have f2 : ux7 2 = (ptr b1 (0 + 1)) := (hp 0 _ rfl rfl).2
  have hM0 := hM
  have hM : M (Old w0) w0 w [raw b5 (Flat.enc r3.2), raw b1 (cat [[(vI p0.Field)], Flat.enc p0.Box, Flat.enc p0.Mix, Flat.enc p0.Places, [(vI p0.Rounds)]]), opt (D 14) (own NoB (r12 : (Ref (Vector (Vector (Vector UInt8 256) 4) 4))) [(ux7 14)]), opt (D 18) (own NoB (r15 : (Ref (Vector (Vector (Vector UInt8 256) 4) 4))) [(ux7 18)])] := hM
  refine Zm (cs := Flat.enc p0.Box) hE Za (dl rfl) (lk rfl f2) Xd rfl (At.cat (pre := [[(vI p0.Field)]]) (hM.rawAt (pre := [_])) (cl1 (n := 1) (m := 0) rfl cl0)) (Flat.len _) ?_; intro a hE
  exact ⟨_, _, rfl, hE, rfl, hM0.optKeep rfl⟩
 ·intro a w ux7 D hE hM hD hp
  have f3 : ux7 3 = (Value.agg (Flat.enc p0.Box).toArray) := (hp 0 _ rfl rfl).2
  have hM0 := hM
  refine Zs (vs := [(Value.agg (Flat.enc p0.Box).toArray)]) hE Za (dl rfl) (ZZ (ZT (lk rfl f3) Y7)) cb216 (c_impl_Box_inverse _ p0.Box r8 e9) ?_
  rintro v w a ⟨rfl, hK⟩ hE
  exact ⟨_, _, rfl, hE, rfl, (hM0.keep hK).optKeep rfl⟩
 ·intro a w ux7 D hE hM hD hp
  have hM0 := hM
  refine Zg hE Za (dl rfl) rfl (fd173_3) ?_; intro a hE
  exact ⟨_, _, rfl, hE, rfl, hM0.optKeep rfl⟩
 ·intro a w ux7 D hE hM hD hp
  have f5 : ux7 5 = (ptr b1 (0 + 273)) := (hp 0 _ rfl rfl).2
  have hM0 := hM
  have hM : M (Old w0) w0 w [raw b5 (Flat.enc r3.2), raw b1 (cat [[(vI p0.Field)], Flat.enc p0.Box, Flat.enc p0.Mix, Flat.enc p0.Places, [(vI p0.Rounds)]]), opt (D 14) (own NoB (r12 : (Ref (Vector (Vector (Vector UInt8 256) 4) 4))) [(ux7 14)]), opt (D 18) (own NoB (r15 : (Ref (Vector (Vector (Vector UInt8 256) 4) 4))) [(ux7 18)])] := hM
  refine Zm (cs := Flat.enc p0.Places) hE Za (dl rfl) (lk rfl f5) ty171 rfl (At.cat (pre := [[(vI p0.Field)], Flat.enc p0.Box, Flat.enc p0.Mix]) (hM.rawAt (pre := [_])) (cl1 (n := 1) (m := 272) rfl (cl1 (n := 256) (m := 16) (Flat.len _) (cl1 (n := 16) (m := 0) (Flat.len _) cl0)))) (Flat.len _) ?_; intro a hE
  exact ⟨_, _, rfl, hE, rfl, hM0.optKeep rfl⟩
 ·intro a w ux7 D hE hM hD hp
  have hM0 := hM
  refine Zg hE Za (dl rfl) rfl (fd173_3) ?_; intro a hE
  exact ⟨_, _, rfl, hE, rfl, hM0.optKeep rfl⟩
 ·intro a w ux7 D hE hM hD hp
  have f7 : ux7 7 = (ptr b1 (0 + 273)) := (hp 0 _ rfl rfl).2
  have hM0 := hM
  have hM : M (Old w0) w0 w [raw b5 (Flat.enc r3.2), raw b1 (cat [[(vI p0.Field)], Flat.enc p0.Box, Flat.enc p0.Mix, Flat.enc p0.Places, [(vI p0.Rounds)]]), opt (D 14) (own NoB (r12 : (Ref (Vector (Vector (Vector UInt8 256) 4) 4))) [(ux7 14)]), opt (D 18) (own NoB (r15 : (Ref (Vector (Vector (Vector UInt8 256) 4) 4))) [(ux7 18)])] := hM
  refine Zm (cs := Flat.enc p0.Places) hE Za (dl rfl) (lk rfl f7) ty171 rfl (At.cat (pre := [[(vI p0.Field)], Flat.enc p0.Box, Flat.enc p0.Mix]) (hM.rawAt (pre := [_])) (cl1 (n := 1) (m := 272) rfl (cl1 (n := 256) (m := 16) (Flat.len _) (cl1 (n := 16) (m := 0) (Flat.len _) cl0)))) (Flat.len _) ?_; intro a hE
  exact ⟨_, _, rfl, hE, rfl, hM0.optKeep rfl⟩
 ·intro a w ux7 D hE hM hD hp
  have f8 : ux7 8 = (Value.agg (Flat.enc p0.Places).toArray) := (hp 0 _ rfl rfl).2
  have hM0 := hM
  refine Zs (vs := [(Value.agg (Flat.enc p0.Places).toArray)]) hE Za (dl rfl) (ZZ (ZT (lk rfl f8) Y7)) cb217 (c_impl_Places_inverse _ p0.Places r10 e11) ?_
  rintro v w a ⟨rfl, hK⟩ hE
  exact ⟨_, _, rfl, hE, rfl, (hM0.keep hK).optKeep rfl⟩
 ·intro a w ux7 D hE hM hD hp
  have hM0 := hM
  refine Zg hE Za (dl rfl) rfl (fd173_0) ?_; intro a hE
  exact ⟨_, _, rfl, hE, rfl, hM0.optKeep rfl⟩
 ·intro a w ux7 D hE hM hD hp
  have f10 : ux7 10 = (ptr b1 (0 + 0)) := (hp 0 _ rfl rfl).2
  have hM0 := hM
  have hM : M (Old w0) w0 w [raw b5 (Flat.enc r3.2), raw b1 (cat [[(vI p0.Field)], Flat.enc p0.Box, Flat.enc p0.Mix, Flat.enc p0.Places, [(vI p0.Rounds)]]), opt (D 14) (own NoB (r12 : (Ref (Vector (Vector (Vector UInt8 256) 4) 4))) [(ux7 14)]), opt (D 18) (own NoB (r15 : (Ref (Vector (Vector (Vector UInt8 256) 4) 4))) [(ux7 18)])] := hM
  refine Zq (v := (vI p0.Field)) hE Za (dl rfl) (lk rfl f10) ty2 rfl (At.cat (pre := []) (hM.rawAt (pre := [_])) cl0) ?_; intro a hE
  exact ⟨_, _, rfl, hE, rfl, hM0.optKeep rfl⟩
 ·intro a w ux7 D hE hM hD hp
  have hM0 := hM
  refine Zg hE Za (dl rfl) rfl (fd173_2) ?_; intro a hE
  exact ⟨_, _, rfl, hE, rfl, hM0.optKeep rfl⟩
 ·intro a w ux7 D hE hM hD hp
  have f12 : ux7 12 = (ptr b1 (0 + 257)) := (hp 0 _ rfl rfl).2
  have hM0 := hM
  have hM : M (Old w0) w0 w [raw b5 (Flat.enc r3.2), raw b1 (cat [[(vI p0.Field)], Flat.enc p0.Box, Flat.enc p0.Mix, Flat.enc p0.Places, [(vI p0.Rounds)]]), opt (D 14) (own NoB (r12 : (Ref (Vector (Vector (Vector UInt8 256) 4) 4))) [(ux7 14)]), opt (D 18) (own NoB (r15 : (Ref (Vector (Vector (Vector UInt8 256) 4) 4))) [(ux7 18)])] := hM
  refine Zm (cs := Flat.enc p0.Mix) hE Za (dl rfl) (lk rfl f12) Uc rfl (At.cat (pre := [[(vI p0.Field)], Flat.enc p0.Box]) (hM.rawAt (pre := [_])) (cl1 (n := 1) (m := 256) rfl (cl1 (n := 256) (m := 0) (Flat.len _) cl0))) (Flat.len _) ?_; intro a hE
  exact ⟨_, _, rfl, hE, rfl, hM0.optKeep rfl⟩
 ·intro a w ux7 D hE hM hD hp
  have f11 : ux7 11 = (vI p0.Field) := (hp 0 _ rfl rfl).2
  have f13 : ux7 13 = (Value.agg (Flat.enc p0.Mix).toArray) := (hp 1 _ rfl rfl).2
  have hM0 := hM
  have hM : M (Old w0) w0 w [raw b5 (Flat.enc r3.2), raw b1 (cat [[(vI p0.Field)], Flat.enc p0.Box, Flat.enc p0.Mix, Flat.enc p0.Places, [(vI p0.Rounds)]]), opt (D 14) (own NoB (r12 : (Ref (Vector (Vector (Vector UInt8 256) 4) 4))) [(ux7 14)]), opt (D 18) (own NoB (r15 : (Ref (Vector (Vector (Vector UInt8 256) 4) 4))) [(ux7 18)])] := hM
  refine Zs (vs := [(vI p0.Field), (Value.agg (Flat.enc p0.Mix).toArray)]) hE Za (dl rfl) (ZZ (ZT (lk rfl f11) (ZT (lk rfl f13) Y7))) cb218 (c_impl_newMixer _ p0.Field p0.Mix r12 e13) ?_
  rintro _ w a ⟨_, rfl, hFr, hK⟩ hE
  have hM := hM0.add hK hFr
  exact ⟨_, _, rfl, hE, trivial, M.optFill (mk1 := []) (mk2 := [_]) (f := (fun v => own NoB (r12 : (Ref (Vector (Vector (Vector UInt8 256) 4) 4))) [v])) hM rfl hD⟩
 ·intro a w ux7 D hE hM hD hp
  have hM0 := hM
  refine Zg hE Za (dl rfl) rfl (fd173_0) ?_; intro a hE
  exact ⟨_, _, rfl, hE, rfl, hM0.optKeep rfl⟩
 ·intro a w ux7 D hE hM hD hp
  have f15 : ux7 15 = (ptr b1 (0 + 0)) := (hp 0 _ rfl rfl).2
  have hM0 := hM
  have hM : M (Old w0) w0 w [raw b5 (Flat.enc r3.2), raw b1 (cat [[(vI p0.Field)], Flat.enc p0.Box, Flat.enc p0.Mix, Flat.enc p0.Places, [(vI p0.Rounds)]]), opt (D 14) (own NoB (r12 : (Ref (Vector (Vector (Vector UInt8 256) 4) 4))) [(ux7 14)]), opt (D 18) (own NoB (r15 : (Ref (Vector (Vector (Vector UInt8 256) 4) 4))) [(ux7 18)])] := hM
  refine Zq (v := (vI p0.Field)) hE Za (dl rfl) (lk rfl f15) ty2 rfl (At.cat (pre := []) (hM.rawAt (pre := [_])) cl0) ?_; intro a hE
  exact ⟨_, _, rfl, hE, rfl, hM0.optKeep rfl⟩
 ·intro a w ux7 D hE hM hD hp
  have hM0 := hM
  have hM : M (Old w0) w0 w [raw b5 (Flat.enc r3.2), raw b1 (cat [[(vI p0.Field)], Flat.enc p0.Box, Flat.enc p0.Mix, Flat.enc p0.Places, [(vI p0.Rounds)]]), opt (D 14) (own NoB (r12 : (Ref (Vector (Vector (Vector UInt8 256) 4) 4))) [(ux7 14)]), opt (D 18) (own NoB (r15 : (Ref (Vector (Vector (Vector UInt8 256) 4) 4))) [(ux7 18)])] := hM
  refine Zm (cs := Flat.enc r3.2) hE Za (dl rfl) rfl Uc rfl (hM.rawAt (pre := [])) (Flat.len _) ?_; intro a hE
  exact ⟨_, _, rfl, hE, rfl, hM0.optKeep rfl⟩
 ·intro a w ux7 D hE hM hD hp
  have f16 : ux7 16 = (vI p0.Field) := (hp 0 _ rfl rfl).2
  have f17 : ux7 17 = (Value.agg (Flat.enc r3.2).toArray) := (hp 1 _ rfl rfl).2
  have hM0 := hM
  have hM : M (Old w0) w0 w [raw b5 (Flat.enc r3.2), raw b1 (cat [[(vI p0.Field)], Flat.enc p0.Box, Flat.enc p0.Mix, Flat.enc p0.Places, [(vI p0.Rounds)]]), opt (D 14) (own NoB (r12 : (Ref (Vector (Vector (Vector UInt8 256) 4) 4))) [(ux7 14)]), opt (D 18) (own NoB (r15 : (Ref (Vector (Vector (Vector UInt8 256) 4) 4))) [(ux7 18)])] := hM
  refine Zs (vs := [(vI p0.Field), (Value.agg (Flat.enc r3.2).toArray)]) hE Za (dl rfl) (ZZ (ZT (lk rfl f16) (ZT (lk rfl f17) Y7))) cb218 (c_impl_newMixer _ p0.Field r3.2 r15 e16) ?_
  rintro _ w a ⟨_, rfl, hFr, hK⟩ hE
  have hM := hM0.add hK hFr
  exact ⟨_, _, rfl, hE, trivial, M.optFill (mk1 := [_]) (mk2 := []) (f := (fun v => own NoB (r15 : (Ref (Vector (Vector (Vector UInt8 256) 4) 4))) [v])) hM rfl hD⟩
 ·intro a w ux7 D hE hM hD hp
  have hM0 := hM
  refine Zg hE Za (dl rfl) rfl (fd173_4) ?_; intro a hE
  exact ⟨_, _, rfl, hE, rfl, hM0.optKeep rfl⟩
 ·intro a w ux7 D hE hM hD hp
  have f19 : ux7 19 = (ptr b1 (0 + 289)) := (hp 0 _ rfl rfl).2
  have hM0 := hM
  have hM : M (Old w0) w0 w [raw b5 (Flat.enc r3.2), raw b1 (cat [[(vI p0.Field)], Flat.enc p0.Box, Flat.enc p0.Mix, Flat.enc p0.Places, [(vI p0.Rounds)]]), opt (D 14) (own NoB (r12 : (Ref (Vector (Vector (Vector UInt8 256) 4) 4))) [(ux7 14)]), opt (D 18) (own NoB (r15 : (Ref (Vector (Vector (Vector UInt8 256) 4) 4))) [(ux7 18)])] := hM
  refine Zq (v := (vI p0.Rounds)) hE Za (dl rfl) (lk rfl f19) ty2 rfl (At.cat (pre := [[(vI p0.Field)], Flat.enc p0.Box, Flat.enc p0.Mix, Flat.enc p0.Places]) (hM.rawAt (pre := [_])) (cl1 (n := 1) (m := 288) rfl (cl1 (n := 256) (m := 32) (Flat.len _) (cl1 (n := 16) (m := 16) (Flat.len _) (cl1 (n := 16) (m := 0) (Flat.len _) cl0))))) ?_; intro a hE
  exact ⟨_, _, rfl, hE, rfl, hM0.optKeep rfl⟩
 ·intro a w ux7 hE hM hg
  have f0 : ux7 0 = (ptr b1 (0 + 1)) := hg 0 (by decide)
  have f1 : ux7 1 = (Value.agg (Flat.enc p0.Box).toArray) := hg 1 (by decide)
  have f2 : ux7 2 = (ptr b1 (0 + 1)) := hg 2 (by decide)
  have f3 : ux7 3 = (Value.agg (Flat.enc p0.Box).toArray) := hg 3 (by decide)
  have f4 : ux7 4 = (Value.agg (Flat.enc r8).toArray) := hg 4 (by decide)
  have f5 : ux7 5 = (ptr b1 (0 + 273)) := hg 5 (by decide)
  have f6 : ux7 6 = (Value.agg (Flat.enc p0.Places).toArray) := hg 6 (by decide)
  have f7 : ux7 7 = (ptr b1 (0 + 273)) := hg 7 (by decide)
  have f8 : ux7 8 = (Value.agg (Flat.enc p0.Places).toArray) := hg 8 (by decide)
  have f9 : ux7 9 = (Value.agg (Flat.enc r10).toArray) := hg 9 (by decide)
  have f10 : ux7 10 = (ptr b1 (0 + 0)) := hg 10 (by decide)
  have f11 : ux7 11 = (vI p0.Field) := hg 11 (by decide)
  have f12 : ux7 12 = (ptr b1 (0 + 257)) := hg 12 (by decide)
  have f13 : ux7 13 = (Value.agg (Flat.enc p0.Mix).toArray) := hg 13 (by decide)
  have f15 : ux7 15 = (ptr b1 (0 + 0)) := hg 15 (by decide)
  have f16 : ux7 16 = (vI p0.Field) := hg 16 (by decide)
  have f17 : ux7 17 = (Value.agg (Flat.enc r3.2).toArray) := hg 17 (by decide)
  have f19 : ux7 19 = (ptr b1 (0 + 289)) := hg 19 (by decide)
  have f20 : ux7 20 = (vI p0.Rounds) := hg 20 (by decide)
  have hM : M (Old w0) w0 w [raw b5 (Flat.enc r3.2), raw b1 (cat [[(vI p0.Field)], Flat.enc p0.Box, Flat.enc p0.Mix, Flat.enc p0.Places, [(vI p0.Rounds)]]), own NoB (r12 : (Ref (Vector (Vector (Vector UInt8 256) 4) 4))) [(ux7 14)], own NoB (r15 : (Ref (Vector (Vector (Vector UInt8 256) 4) 4))) [(ux7 18)]] := hM
  have hE := hE.sub (e' := [(13, (ptr b1 (0 + 1))), (14, (Value.agg (Flat.enc p0.Box).toArray)), (15, (ptr b1 (0 + 1))), (16, (Value.agg (Flat.enc p0.Box).toArray)), (17, (Value.agg (Flat.enc r8).toArray)), (18, (ptr b1 (0 + 273))), (19, (Value.agg (Flat.enc p0.Places).toArray)), (20, (ptr b1 (0 + 273))), (21, (Value.agg (Flat.enc p0.Places).toArray)), (22, (Value.agg (Flat.enc r10).toArray)), (23, (ptr b1 (0 + 0))), (24, (vI p0.Field)), (25, (ptr b1 (0 + 257))), (26, (Value.agg (Flat.enc p0.Mix).toArray)), (27, (ux7 14)), (28, (ptr b1 (0 + 0))), (29, (vI p0.Field)), (30, (Value.agg (Flat.enc r3.2).toArray)), (31, (ux7 18)), (32, (ptr b1 (0 + 289))), (33, (vI p0.Rounds)), (0, (Value.agg (Flat.enc p0).toArray)), (1, (ptr b1 0)), (2, (Value.pointer none)), (3, (vB r3.1)), (4, (ptr b5 0)), (5, (Value.tuple [(vB r3.1), (Value.agg (Flat.enc r3.2).toArray)].toArray)), (6, (ptr b1 (0 + 0))), (7, (vI p0.Field)), (8, (ptr b1 (0 + 257))), (9, (Value.agg (Flat.enc p0.Mix).toArray)), (10, (Value.tuple [(vB r3.1), (Value.agg (Flat.enc r3.2).toArray)].toArray)), (11, (vB r3.1)), (12, (Value.agg (Flat.enc r3.2).toArray))]) ⟨lk rfl f0, lk rfl f1, lk rfl f2, lk rfl f3, lk rfl f4, lk rfl f5, lk rfl f6, lk rfl f7, lk rfl f8, lk rfl f9, lk rfl f10, lk rfl f11, lk rfl f12, lk rfl f13, rfl, lk rfl f15, lk rfl f16, lk rfl f17, rfl, lk rfl f19, lk rfl f20, rfl, rfl, rfl, rfl, rfl, rfl, rfl, rfl, rfl, rfl, rfl, rfl, rfl, trivial⟩
  refine s_buildStr (parts := [(0, .tmp 14), (1, .tmp 17), (2, .tmp 19), (3, .tmp 22), (4, .tmp 27), (5, .tmp 31), (6, .tmp 33)]) (vs := [(0, (Value.agg (Flat.enc p0.Box).toArray)), (1, (Value.agg (Flat.enc r8).toArray)), (2, (Value.agg (Flat.enc p0.Places).toArray)), (3, (Value.agg (Flat.enc r10).toArray)), (4, (ux7 14)), (5, (ux7 18)), (6, (vI p0.Rounds))]) (cs := cat [Flat.enc p0.Box, Flat.enc r8, Flat.enc p0.Places, Flat.enc r10, [(ux7 14)], [(ux7 18)], [(vI p0.Rounds)]]) hE Za (dl rfl) rfl rfl ty244 pl244 (W6 (pre := []) (seg := Flat.enc (Vector.replicate 256 (0 : UInt8))) (seg' := Flat.enc p0.Box) (post := [Flat.enc (Vector.replicate 256 (0 : UInt8)), Flat.enc (Vector.replicate 16 (0 : UInt8)), Flat.enc (Vector.replicate 16 (0 : UInt8)), [(Value.pointer none)], [(Value.pointer none)], [(vI 0)]]) rfl cl0 (Flat.len _) (Flat.len _) rfl (W6 (pre := [Flat.enc p0.Box]) (seg := Flat.enc (Vector.replicate 256 (0 : UInt8))) (seg' := Flat.enc r8) (post := [Flat.enc (Vector.replicate 16 (0 : UInt8)), Flat.enc (Vector.replicate 16 (0 : UInt8)), [(Value.pointer none)], [(Value.pointer none)], [(vI 0)]]) rfl (cl1 (n := 256) (m := 0) (Flat.len _) cl0) (Flat.len _) (Flat.len _) rfl (W6 (pre := [Flat.enc p0.Box, Flat.enc r8]) (seg := Flat.enc (Vector.replicate 16 (0 : UInt8))) (seg' := Flat.enc p0.Places) (post := [Flat.enc (Vector.replicate 16 (0 : UInt8)), [(Value.pointer none)], [(Value.pointer none)], [(vI 0)]]) rfl (cl1 (n := 256) (m := 256) (Flat.len _) (cl1 (n := 256) (m := 0) (Flat.len _) cl0)) (Flat.len _) (Flat.len _) rfl (W6 (pre := [Flat.enc p0.Box, Flat.enc r8, Flat.enc p0.Places]) (seg := Flat.enc (Vector.replicate 16 (0 : UInt8))) (seg' := Flat.enc r10) (post := [[(Value.pointer none)], [(Value.pointer none)], [(vI 0)]]) rfl (cl1 (n := 256) (m := 272) (Flat.len _) (cl1 (n := 256) (m := 16) (Flat.len _) (cl1 (n := 16) (m := 0) (Flat.len _) cl0))) (Flat.len _) (Flat.len _) rfl (W6 (pre := [Flat.enc p0.Box, Flat.enc r8, Flat.enc p0.Places, Flat.enc r10]) (seg := [(Value.pointer none)]) (seg' := [(ux7 14)]) (post := [[(Value.pointer none)], [(vI 0)]]) rfl (cl1 (n := 256) (m := 288) (Flat.len _) (cl1 (n := 256) (m := 32) (Flat.len _) (cl1 (n := 16) (m := 16) (Flat.len _) (cl1 (n := 16) (m := 0) (Flat.len _) cl0)))) rfl rfl (ref_cells (hM.ro (pre := [_, _]) noB)) (W6 (pre := [Flat.enc p0.Box, Flat.enc r8, Flat.enc p0.Places, Flat.enc r10, [(ux7 14)]]) (seg := [(Value.pointer none)]) (seg' := [(ux7 18)]) (post := [[(vI 0)]]) rfl (cl1 (n := 256) (m := 289) (Flat.len _) (cl1 (n := 256) (m := 33) (Flat.len _) (cl1 (n := 16) (m := 17) (Flat.len _) (cl1 (n := 16) (m := 1) (Flat.len _) (cl1 (n := 1) (m := 0) rfl cl0))))) rfl rfl (ref_cells (hM.ro (pre := [_, _, _]) noB)) (W6 (pre := [Flat.enc p0.Box, Flat.enc r8, Flat.enc p0.Places, Flat.enc r10, [(ux7 14)], [(ux7 18)]]) (seg := [(vI 0)]) (seg' := [(vI p0.Rounds)]) (post := []) rfl (cl1 (n := 256) (m := 290) (Flat.len _) (cl1 (n := 256) (m := 34) (Flat.len _) (cl1 (n := 16) (m := 18) (Flat.len _) (cl1 (n := 16) (m := 2) (Flat.len _) (cl1 (n := 1) (m := 1) rfl (cl1 (n := 1) (m := 0) rfl cl0)))))) rfl rfl rfl fill_nil))))))) ?_; intro a hE
  refine ZV (cs := cat [Flat.enc p0.Box, Flat.enc r8, Flat.enc p0.Places, Flat.enc r10, [(ux7 14)], [(ux7 18)], [(vI p0.Rounds)]]) hE hM Za (dl rfl) rfl rfl ?_; intro b18 w a hM hE
  refine Ze hE Za (dl rfl) rfl ?_; intro a hE
  refine Zk (Zz ?_)
  have hM := hM.pull (pre := [_, _, _, _])
  have hM := hM.pull (pre := [_, _, _, _])
  have hM := hM.pack2 (it := own NoB (⟨p0.Box, r8, p0.Places, r10, r12, r15, p0.Rounds⟩ : Gengine) (cat [Flat.enc p0.Box, Flat.enc r8, Flat.enc p0.Places, Flat.enc r10, [(ux7 14)], [(ux7 18)], [(vI p0.Rounds)]])) (own_loc noB) (fun f0 f1 q0 q1 => (pk_Gengine q0 q1 (by simp)))
  have hM := hM.pull (pre := [_])
  have hM := hM.pull (pre := [_])
  have hM := hM.pull (pre := [_])
  have hM := M.toRef hM noB
  have hr := Option.some.inj hF
  subst hr
  have hM := M.fst (l := [_]) hM
  exact wp_ret (Zy hE rfl (Zu hE rfl) ⟨_, rfl, (ptr b18 0), rfl, hM.outF (locNO W2), hM.kept⟩)
noncomputable def U5 (p0 : Int) : Option ((Ref Gengine)) :=
 (Wd p0).bind fun r1 => (W4 r1).bind fun r3 => some r3
theorem c_impl_house (w0 : World) (p0 : Int) (r : (Ref Gengine)) (hF : U5 p0 = some r) :
  Calls Tryz.prog 138 [(vI p0)].toArray w0 (fun en w' => ∃ v, en = .returned v ∧ (∃ (y1 : Value), v = y1 ∧ Fr w0 w' [own NoB (r : (Ref Gengine)) [y1]] ∧ Kept (Old w0) w0 w')) := by
 refine ZA (n := 6) Tryz.func138 rfl rfl (Nat.le_of_ble_eq_true rfl) rfl ?_
 intro a hE
 have hM := M.start w0
 unfold U5 at hF
 refine Zc (Ze hE Za (dl rfl) rfl ?_); intro a hE
 refine Zf (Zc (Zd hE Za (dl rfl) rfl ?_)); intro a hE
 obtain ⟨r1, e2, hF⟩ := bind_some hF
 refine Zs (vs := [(vI p0)]) hE Za (dl rfl) rfl cb186 (c_impl_houseCipher _ p0 r1 e2) ?_
 rintro v w a ⟨rfl, hK⟩ hE
 have hM := hM.keep hK
 obtain ⟨r3, e4, hF⟩ := bind_some hF
 refine Zs (vs := [(Value.agg (Flat.enc r1).toArray)]) hE Za (dl rfl) rfl cb185 (c_impl_newEngine _ r1 r3 e4) ?_
 rintro u5 w a ⟨_, rfl, hFr, hK⟩ hE
 have hM := hM.add hK hFr
 refine Ze hE Za (dl rfl) rfl ?_; intro a hE
 refine Zf ?_
 have hr := Option.some.inj hF
 subst hr
 exact wp_ret (Zy hE rfl (Zu hE rfl) ⟨_, rfl, u5, rfl, hM.outF (locNO W2), hM.kept⟩)
noncomputable def X8 : Option ((Ref Gengine)) :=
 (U5 4).bind fun r1 => some r1
theorem c_impl_vaultEngine (w0 : World)  (r : (Ref Gengine)) (hF : X8  = some r) :
  Calls Tryz.prog 60 [].toArray w0 (fun en w' => ∃ v, en = .returned v ∧ (∃ (y1 : Value), v = y1 ∧ Fr w0 w' [own NoB (r : (Ref Gengine)) [y1]] ∧ Kept (Old w0) w0 w')) := by
 refine ZA (n := 2) Tryz.func60 rfl rfl (Nat.le_of_ble_eq_true rfl) rfl ?_
 intro a hE
 have hM := M.start w0
 unfold X8 at hF
 refine Zc (Ze hE Za (dl rfl) rfl ?_); intro a hE
 refine Zf (Zc ?_)
 obtain ⟨r1, e2, hF⟩ := bind_some hF
 refine Zs (vs := [(vI 4)]) hE Za (dl rfl) rfl cb138 (c_impl_house _ 4 r1 e2) ?_
 rintro u3 w a ⟨_, rfl, hFr, hK⟩ hE
 have hM := hM.add hK hFr
 refine Ze hE Za (dl rfl) rfl ?_; intro a hE
 refine Zf ?_
 have hr := Option.some.inj hF
 subst hr
 exact wp_ret (Zy hE rfl (Zu hE rfl) ⟨_, rfl, u3, rfl, hM.outF (locNO W2), hM.kept⟩)
noncomputable def Vr (p1 : UInt8) (s6 : (Vector UInt8 16) × Int) : Option (Fl ((Vector UInt8 16) × Int) (Vector UInt8 16)) :=
 if (decide (s6.2 < 16)) = true then ((ZK s6.1 s6.2).bind fun x12 => (ZK s6.1 s6.2).bind fun x15 => some (Fl.nx ((s6.1.setIfInBounds (s6.2).toNat (x12 ^^^ p1)), wr (s6.2 + 1)))) else (some (Fl.ex s6.1))
noncomputable def YZ (p0 : (Vector UInt8 16)) (p1 : UInt8) : Option ((List UInt8)) :=
 (ZJ (Vr p1) (p0, 0) : Option ((Vector UInt8 16))).bind fun j3 => (slc j3.toList (0 : Int) (16 : Int)).bind fun l18 => some l18
theorem U6 (w0 : World) (p0 : (Vector UInt8 16)) (p1 : UInt8) (r : (List UInt8)) (hF : YZ p0 p1 = some r) :
  Calls Tryz.prog 139 [(Value.agg (Flat.enc p0).toArray), (vB p1)].toArray w0 (fun en w' => ∃ v, en = .returned v ∧ (∃ (y1 : Value), v = y1 ∧ Fr w0 w' [osl NoB (r : List UInt8) y1] ∧ Kept (Old w0) w0 w')) := by
 refine ZA (n := 17) Tryz.func139 rfl rfl (Nat.le_of_ble_eq_true rfl) rfl ?_
 intro a hE
 have hM := M.start w0
 unfold YZ at hF
 refine Zc (ZV (cs := Flat.enc p0) hE hM Za (dl rfl) rfl rfl ?_); intro b1 w a hM hE
 refine Ze hE Za (dl rfl) rfl ?_; intro a hE
 refine Zf (wp_seq (Zc (Zd hE Za (dl rfl) rfl ?_))); intro a hE
 refine Zf ?_
 obtain ⟨j3, hl4, hF5⟩ := bind_some hF
 refine ZS (fun a w => Env 17 a [(2, (ptr b1 0))] ∧ M (Old w0) w0 w [raw b1 (Flat.enc j3)]) ?_ ?_
 ·skip
  refine wp_block ?_
  refine ZL (fun (s6 : (Vector UInt8 16) × Int) a w => Env 17 a [(1, (vB p1)), (2, (ptr b1 0)), (6, (vI s6.2))] ∧ M (Old w0) w0 w [raw b1 (Flat.enc s6.1)]) hl4 ⟨hE.sub ⟨rfl, rfl, rfl, trivial⟩, hM⟩ ?_
  rintro s6 a w ⟨hE, hM⟩ o9 hs7 hx8
  unfold Vr at hs7
  refine Zc (Zh hE Za (dl rfl) rfl rfl rfl ?_); intro a hE
  refine Zf (wp_seq ?_)
  refine Zw hE rfl ?_ ?_
  ·intro hb10
   have hs7 := ZD hs7 hb10
   refine wp_skip (Zz (wp_seq (wp_block (Zc (Zd hE Za (dl rfl) rfl ?_))))); intro a hE
   refine Ze hE Za (dl rfl) rfl ?_; intro a hE
   refine Zf (wp_region_lit (Zd hE Za (dl rfl) rfl ?_)); intro a hE
   obtain ⟨x12, e13, hs7⟩ := bind_some hs7
   have hi11 := Zi e13
   refine Zo hE Za (dl rfl) rfl rfl Tryz.underlying70 ty5 hi11.1 ?_; intro a hE
   refine Zq (v := (vB x12)) hE Za (dl rfl) rfl ty5 rfl (At.vec (hM.rawAt (pre := [])) hi11.2) ?_; intro a hE
   refine Zd hE Za (dl rfl) rfl ?_; intro a hE
   refine Zh hE Za (dl rfl) rfl rfl (WK x12 p1) ?_; intro a hE
   obtain ⟨x15, e16, hs7⟩ := bind_some hs7
   have hi14 := Zi e16
   refine Zo hE Za (dl rfl) rfl rfl Tryz.underlying70 ty5 hi14.1 ?_; intro a hE
   refine Zp (seg := [(vB (x12 ^^^ p1))]) (cs' := Flat.enc (s6.1.setIfInBounds (s6.2).toNat (x12 ^^^ p1))) hE hM Za rfl rfl rfl ty5 rfl (ZO (v := s6.1) (x := x12 ^^^ p1) hi14.1) (Flat.cell (x12 ^^^ p1 : UInt8)) (ZI (v := s6.1) (x := x12 ^^^ p1) hi14.1) ?_; intro w a hM hE
   refine Zk (Yl (Zz (wp_region_lit (Zh hE Za (dl rfl) rfl rfl rfl ?_)))); intro a hE
   refine Zd hE Za (dl rfl) rfl ?_; intro a hE
   refine Zk (Zn ?_)
   exact ⟨_, (Option.some.inj hs7).symm, hE.sub ⟨rfl, rfl, rfl, trivial⟩, hM⟩
  ·intro hb10
   have hs7 := ZC hs7 hb10
   refine wp_exit (Zr (Zr (Yk ?_)))
   have ht17 := hx8 _ (Option.some.inj hs7).symm
   subst ht17
   refine Zn ?_
   exact ⟨hE.sub ⟨rfl, trivial⟩, hM⟩
 ·skip
  rintro a w ⟨hE, hM⟩
  refine Zz (Zc ?_)
  obtain ⟨l18, e19, hF5⟩ := bind_some hF5
  have hb20 := slc_arr e19 -- ^
  refine V6 (N := 16) hE Za (dl rfl) rfl rfl rfl rfl rfl Tryz.underlying70 ty5 hb20 ?_; intro a hE
  refine Ze hE Za (dl rfl) rfl ?_; intro a hE
  refine Zf ?_
  have hM := (M.rawOsl hM).cut noB e19
  have hr := Option.some.inj hF5
  subst hr
  exact wp_ret (Zy hE rfl (Zu hE rfl) ⟨_, rfl, (ZN (.slice (some ⟨b1, 0, none⟩) 16 16) ((0 : Int)).toNat ((16 : Int)).toNat 1), rfl, hM.outF (Vm W2), hM.kept⟩)
noncomputable def WA (p0 : Int) (s8 : (List UInt8) × Int) : Option (Fl ((List UInt8) × Int) (List UInt8)) :=
 if (decide (s8.2 ≥ 0)) = true then ((Xn (wr (8 * s8.2))).bind fun _ => (app 1 s8.1 ([Zx (Ux p0 (wr (8 * s8.2)))] : List UInt8)).bind fun l18 => some (Fl.nx ((s8.1 ++ ([Zx (Ux p0 (wr (8 * s8.2)))] : List UInt8)), wr (s8.2 - 1)))) else (some (Fl.ex s8.1))
noncomputable def YQ (p0 : Int) (p1 : Int) : Option ((List UInt8)) :=
 (ZJ (WA p0) (([] : List UInt8), wr (p1 - 1)) : Option ((List UInt8))).bind fun j3 => some j3
theorem c_impl_bigEndian (w0 : World) (p0 : Int) (p1 : Int) (r : (List UInt8)) (hF : YQ p0 p1 = some r) :
  Calls Tryz.prog 141 [(vI p0), (vI p1)].toArray w0 (fun en w' => ∃ v, en = .returned v ∧ (∃ (y1 : Value), v = y1 ∧ Fr w0 w' [osl NoB (r : List UInt8) y1] ∧ Kept (Old w0) w0 w')) := by
 refine ZA (n := 23) Tryz.func141 rfl rfl (Nat.le_of_ble_eq_true rfl) rfl ?_
 intro a hE
 have hM := M.start w0
 unfold YQ at hF
 refine Zc (Ze hE Za (dl rfl) rfl ?_); intro a hE
 refine Zf (Zc (Ye (xs := []) (l := ([] : List UInt8)) (vs := []) hE hM Za (dl rfl) rfl rfl Tryz.underlying57 ty5 rfl (by decide) rfl ?_)); intro u1 w a hM hE
 refine Ze hE Za (dl rfl) rfl ?_; intro a hE
 refine Zf (wp_seq (Zc (Zd hE Za (dl rfl) rfl ?_))); intro a hE
 refine Zh hE Za (dl rfl) rfl rfl rfl ?_; intro a hE
 refine Ze hE Za (dl rfl) rfl ?_; intro a hE
 refine Zf ?_
 obtain ⟨j3, hl4, hF5⟩ := bind_some hF
 refine ZS (fun a w => ∃ (u6 : Value), Env 23 a [(5, u6)] ∧ M (Old w0) w0 w [osl NoB (j3 : List UInt8) u6]) ?_ ?_
 ·skip
  refine wp_block ?_
  refine ZL (fun (s8 : (List UInt8) × Int) a w => ∃ (u9 : Value), Env 23 a [(0, (vI p0)), (5, u9), (6, (vI s8.2))] ∧ M (Old w0) w0 w [osl NoB (s8.1 : List UInt8) u9]) hl4 ⟨u1, hE.sub ⟨rfl, rfl, rfl, trivial⟩, hM⟩ ?_
  rintro s8 a w ⟨u9, hE, hM⟩ o13 hs11 hx12
  unfold WA at hs11
  refine wp_seq (Zc (Zd hE Za (dl rfl) rfl ?_)); intro a hE
  refine Zh hE Za (dl rfl) rfl rfl rfl ?_; intro a hE
  refine Zf ?_
  refine Zw hE rfl ?_ ?_
  ·intro hb14
   have hs11 := ZD hs11 hb14
   refine wp_skip (Zz (wp_seq (wp_block (wp_region_lit (Zd hE Za (dl rfl) rfl ?_))))); intro a hE
   refine Zd hE Za (dl rfl) rfl ?_; intro a hE
   refine Zd hE Za (dl rfl) rfl ?_; intro a hE
   refine Zh hE Za (dl rfl) rfl rfl rfl ?_; intro a hE
   obtain ⟨_, e15, hs11⟩ := bind_some hs11
   have e15 := WD e15
   refine s_sh hE Za (dl rfl) rfl rfl (bI_shr _ _ e15) ?_; intro a hE
   refine YE hE Za (dl rfl) rfl Tryz.underlying2 Tryz.underlying5 ?_; intro a hE
   rw [Z4] at hE
   refine Ye (xs := [.tmp 19]) (l := ([Zx (Ux p0 (wr (8 * s8.2)))] : List UInt8)) (vs := [(vB (Zx (Ux p0 (wr (8 * s8.2)))))]) hE hM Za (dl rfl) rfl rfl Tryz.underlying57 ty5 rfl (by decide) rfl ?_; intro u16 w a hM hE
   obtain ⟨l18, e19, hs11⟩ := bind_some hs11
   obtain ⟨e22, rfl⟩ := Yu e19
   have hM := hM.pull (pre := [_])
   refine Yj hE hM Za (dl rfl) rfl rfl (hM.sl (pre := [_]) noB) Tryz.underlying57 ty5 rfl (by decide) e22 ?_; intro u20 w a hM hE
   refine Ze hE Za (dl rfl) rfl ?_; intro a hE
   refine Zk (Yl (Zz (wp_region_lit (Zd hE Za (dl rfl) rfl ?_)))); intro a hE
   refine Zh hE Za (dl rfl) rfl rfl rfl ?_; intro a hE
   refine Ze hE Za (dl rfl) rfl ?_; intro a hE
   refine Zk (Zn ?_)
   have hM := M.fst (l := [_]) hM
   exact ⟨_, (Option.some.inj hs11).symm, u20, hE.sub ⟨rfl, rfl, rfl, trivial⟩, hM⟩
  ·intro hb14
   have hs11 := ZC hs11 hb14
   refine wp_exit (Zr (Zr (Yk ?_)))
   have ht23 := hx12 _ (Option.some.inj hs11).symm
   subst ht23
   refine Zn ?_
   exact ⟨u9, hE.sub ⟨rfl, trivial⟩, hM⟩
 ·skip
  rintro a w ⟨u6, hE, hM⟩
  refine Zz (Zc (Zd hE Za (dl rfl) rfl ?_)); intro a hE
  refine Ze hE Za (dl rfl) rfl ?_; intro a hE
  refine Zf ?_
  have hr := Option.some.inj hF5
  subst hr
  exact wp_ret (Zy hE rfl (Zu hE rfl) ⟨_, rfl, u6, rfl, hM.outF (Vm W2), hM.kept⟩)
noncomputable def Yv (p1 : Int) : Option ((List UInt8)) :=
 (if (decide (p1 < 0)) = true then (none) else (some ()) : Option (Unit)).bind fun j1 => (if (decide ((wr (p1 - (wr (0 - 0)))) > 0)) = true then ((mkS 1 (0 : UInt8) (wr (p1 - (wr (0 - 0))))).bind fun l14 => (slc l14 (0 : Int) (0 : Int)).bind fun l16 => some l16) else (some ([])) : Option ((List UInt8))).bind fun j6 => some j6
theorem c_slices_Grow_byte_byte_nil (w0 : World) (p1 : Int) (r : (List UInt8)) (hF : Yv p1 = some r) :
  Calls Tryz.prog 195 [(Value.slice none 0 0), (vI p1)].toArray w0 (fun en w' => ∃ v, en = .returned v ∧ (∃ (y1 : Value), v = y1 ∧ Fr w0 w' [osl NoB (r : List UInt8) y1] ∧ Kept (Old w0) w0 w')) := by
 refine ZA (n := 27) Tryz.func195 rfl rfl (Nat.le_of_ble_eq_true rfl) rfl ?_
 intro a hE
 have hM := M.start w0
 unfold Yv at hF
 refine Zc (Ze hE Za (dl rfl) rfl ?_); intro a hE
 refine Zf ?_
 obtain ⟨j1, hl2, hF3⟩ := bind_some hF
 refine ZR (fun a w => Env 27 a [(0, (Value.slice none 0 0)), (1, (vI p1))] ∧ M (Old w0) w0 w []) ?_ ?_
 ·skip
  refine Zc (Zd hE Za (dl rfl) rfl ?_); intro a hE
  refine Zh hE Za (dl rfl) rfl rfl rfl ?_; intro a hE
  refine Zf ?_
  refine Zw hE rfl ?_ ?_
  ·intro hb4
   have hl2 := ZD hl2 hb4
   cases hl2
  ·intro hb4
   have hl2 := ZC hl2 hb4
   refine wp_skip ?_
   have ht5 := Option.some.inj hl2
   subst ht5
   refine Zn ?_
   exact ⟨hE.sub ⟨rfl, rfl, trivial⟩, hM⟩
 ·skip
  rintro a w ⟨hE, hM⟩
  obtain ⟨j6, hl7, hF8⟩ := bind_some hF3
  refine ZR (fun a w => ∃ (u9 : Value), Env 27 a [(0, u9)] ∧ M (Old w0) w0 w [osl NoB (j6 : List UInt8) u9]) ?_ ?_
  ·skip
   refine Zc (Zd hE Za (dl rfl) rfl ?_); intro a hE
   refine Zd hE Za (dl rfl) rfl ?_; intro a hE
   refine s_capNil hE Za (dl rfl) rfl Tryz.underlying57 ?_; intro a hE
   refine Zd hE Za (dl rfl) rfl ?_; intro a hE
   refine s_lenNil hE Za (dl rfl) rfl Tryz.underlying57 ?_; intro a hE
   refine Zh hE Za (dl rfl) rfl rfl rfl ?_; intro a hE
   refine Zh hE Za (dl rfl) rfl rfl rfl ?_; intro a hE
   refine Ze hE Za (dl rfl) rfl ?_; intro a hE
   refine Zf (Zc (Zd hE Za (dl rfl) rfl ?_)); intro a hE
   refine Zh hE Za (dl rfl) rfl rfl rfl ?_; intro a hE
   refine Zf ?_
   refine Zw hE rfl ?_ ?_
   ·intro hb11
    have hl7 := ZD hl7 hb11
    refine wp_region_lit (Zd hE Za (dl rfl) rfl ?_); intro a hE
    refine Zd hE Za (dl rfl) rfl ?_; intro a hE
    refine s_capNil hE Za (dl rfl) rfl Tryz.underlying57 ?_; intro a hE
    refine s_sliceNil hE Za (dl rfl) rfl rfl Tryz.underlying57 ty5 ?_; intro a hE
    refine Zd hE Za (dl rfl) rfl ?_; intro a hE
    obtain ⟨l14, e15, hl7⟩ := bind_some hl7
    refine s_appendZ hE hM Za (dl rfl) rfl rfl Tryz.underlying57 Tryz.underlying3 ty5 rfl (by decide) (by decide) (fun _ => sat_flat.2 ⟨rfl, rfl⟩) e15 ?_; intro u12 w a hM hE
    refine Zd hE Za (dl rfl) rfl ?_; intro a hE
    refine s_lenNil hE Za (dl rfl) rfl Tryz.underlying57 ?_; intro a hE
    obtain ⟨l16, e17, hl7⟩ := bind_some hl7
    refine s_slice hE Za (dl rfl) rfl rfl rfl rfl rfl Tryz.underlying57 ty5 (hM.sl (pre := []) noB) e17 ?_; intro a hE
    have hM := hM.cut noB e17
    refine Ze hE Za (dl rfl) rfl ?_; intro a hE
    refine Zk ?_
    have ht19 := Option.some.inj hl7
    subst ht19
    refine Zn ?_
    exact ⟨(ZN u12 ((0 : Int)).toNat ((0 : Int)).toNat 1), hE.sub ⟨rfl, trivial⟩, hM⟩
   ·intro hb11
    have hl7 := ZC hl7 hb11
    refine wp_skip ?_
    have ht20 := Option.some.inj hl7
    subst ht20
    refine Zn ?_
    have hM := M.nilS (α := UInt8) NoB noB hM
    exact ⟨(Value.slice none 0 0), hE.sub ⟨rfl, trivial⟩, hM⟩
  ·skip
   rintro a w ⟨u9, hE, hM⟩
   refine Zc (Zd hE Za (dl rfl) rfl ?_); intro a hE
   refine Ze hE Za (dl rfl) rfl ?_; intro a hE
   refine Zf ?_
   have hr := Option.some.inj hF8
   subst hr
   exact wp_ret (Zy hE rfl (Zu hE rfl) ⟨_, rfl, u9, rfl, hM.outF (Vm W2), hM.kept⟩)
noncomputable def Y0 (p0 : (List (List UInt8))) (s4 : Int × Int) : Option (Fl (Int × Int) Int) :=
 if (decide (s4.1 < (p0.length : Int))) = true then (((idx p0 s4.1).bind fun x12 => (if (decide ((wr (s4.2 + (x12.length : Int))) < 0)) = true then (none) else (some ()) : Option (Unit)).bind fun j20 => some (wr (s4.2 + (x12.length : Int))) : Option (Int)).bind fun j9 => some (Fl.nx (wr (s4.1 + 1), j9))) else (some (Fl.ex s4.2))
noncomputable def YX (p0 : (List (List UInt8))) (s35 : Int × (List UInt8)) : Option (Fl (Int × (List UInt8)) (List UInt8)) :=
 if (decide (s35.1 < (p0.length : Int))) = true then ((idx p0 s35.1).bind fun x42 => (app 1 s35.2 x42).bind fun l50 => some (Fl.nx (wr (s35.1 + 1), (s35.2 ++ x42)))) else (some (Fl.ex s35.2))
noncomputable def Z1 (p0 : (List (List UInt8))) : Option ((List UInt8)) :=
 (ZJ (Y0 p0) (0, 0) : Option (Int)).bind fun j1 => (Yv j1).bind fun r27 => (ZJ (YX p0) (0, r27) : Option ((List UInt8))).bind fun j30 => some j30
theorem Wk (w0 : World) (p0 : (List (List UInt8))) (v0_1 : Value) (hv0_1 : Ro w0 p0 [v0_1]) (r : (List UInt8)) (hF : Z1 p0 = some r) :
  Calls Tryz.prog 161 [v0_1].toArray w0 (fun en w' => ∃ v, en = .returned v ∧ (∃ (y1 : Value), v = y1 ∧ Fr w0 w' [osl NoB (r : List UInt8) y1] ∧ Kept (Old w0) w0 w')) := by
 refine ZA (n := 36) Tryz.func161 rfl rfl (Nat.le_of_ble_eq_true rfl) rfl ?_
 intro a hE
 have hM := M.start w0
 unfold Z1 at hF
 refine Zc (Ze hE Za (dl rfl) rfl ?_); intro a hE
 refine Zf (Zc (Ze hE Za (dl rfl) rfl ?_)); intro a hE
 refine Zf (wp_seq (Zc (Zd hE Za (dl rfl) rfl ?_))); intro a hE
 refine Yb hE Za (dl rfl) rfl Tryz.underlying42 (hM.rd hv0_1) ?_; intro a hE
 refine Zd hE Za (dl rfl) rfl ?_; intro a hE
 refine Zf ?_
 obtain ⟨j1, hl2, hF3⟩ := bind_some hF
 refine ZS (fun a w => Env 36 a [(0, v0_1), (3, (vI j1))] ∧ M (Old w0) w0 w []) ?_ ?_
 ·skip
  refine wp_block ?_
  refine ZL (fun (s4 : Int × Int) a w => Env 36 a [(0, v0_1), (3, (vI s4.2)), (9, v0_1), (10, (vI (p0.length : Int))), (11, (vI s4.1))] ∧ M (Old w0) w0 w []) hl2 ⟨hE.sub ⟨rfl, rfl, rfl, rfl, rfl, trivial⟩, hM⟩ ?_
  rintro s4 a w ⟨hE, hM⟩ o7 hs5 hx6
  unfold Y0 at hs5
  refine Zc (Zh hE Za (dl rfl) rfl rfl rfl ?_); intro a hE
  refine Zf (wp_seq ?_)
  refine Zw hE rfl ?_ ?_
  ·intro hb8
   have hs5 := ZD hs5 hb8
   refine wp_skip (Zz ?_)
   obtain ⟨j9, hl10, hF11⟩ := bind_some hs5
   refine ZR (fun a w => Env 36 a [(0, v0_1), (3, (vI j9)), (9, v0_1), (10, (vI (p0.length : Int))), (11, (vI s4.1))] ∧ M (Old w0) w0 w []) ?_ ?_
   ·skip
    refine wp_block (Zc ?_)
    obtain ⟨x12, e13, hl10⟩ := bind_some hl10
    have hi14 := ZY e13
    refine ZX hE Za (dl rfl) rfl rfl Tryz.underlying42 Uw (hM.rd hv0_1) hi14.1 ?_; intro a hE
    obtain ⟨cs15, hs16, hA17⟩ := Uf hv0_1 hi14.2 -- ^
    obtain ⟨u18, rfl⟩ := sl_one hs16 -- ^
    have h19 := hs16 -- ^
    refine Zq (v := u18) hE Za (dl rfl) rfl Uw rfl (hM.atk hA17 (sl_blk hv0_1 hi14.2)) ?_; intro a hE
    refine Ze hE Za (dl rfl) rfl ?_; intro a hE
    refine Zf (Zc (Zd hE Za (dl rfl) rfl ?_)); intro a hE
    refine Zd hE Za (dl rfl) rfl ?_; intro a hE
    refine Yb hE Za (dl rfl) rfl Tryz.underlying57 (hM.rd h19) ?_; intro a hE
    refine Zh hE Za (dl rfl) rfl rfl rfl ?_; intro a hE
    refine Ze hE Za (dl rfl) rfl ?_; intro a hE
    refine Zf (Zc (Zd hE Za (dl rfl) rfl ?_)); intro a hE
    refine Zh hE Za (dl rfl) rfl rfl rfl ?_; intro a hE
    refine Zf ?_
    obtain ⟨j20, hl21, hF22⟩ := bind_some hl10
    refine ZS (fun a w => Env 36 a [(0, v0_1), (3, (vI (wr (s4.2 + (x12.length : Int))))), (9, v0_1), (10, (vI (p0.length : Int))), (11, (vI s4.1))] ∧ M (Old w0) w0 w []) ?_ ?_
    ·skip
     refine Zw hE rfl ?_ ?_
     ·intro hb23
      have hl21 := ZD hl21 hb23
      cases hl21
     ·intro hb23
      have hl21 := ZC hl21 hb23
      refine wp_skip ?_
      have ht24 := Option.some.inj hl21
      subst ht24
      refine Zn ?_
      exact ⟨hE.sub ⟨rfl, rfl, rfl, rfl, rfl, trivial⟩, hM⟩
    ·skip
     rintro a w ⟨hE, hM⟩
     refine Yl ?_
     have ht25 := Option.some.inj hF22
     subst ht25
     refine Zn ?_
     exact ⟨hE.sub ⟨rfl, rfl, rfl, rfl, rfl, trivial⟩, hM⟩
   ·skip
    rintro a w ⟨hE, hM⟩
    refine wp_region_lit (Zh hE Za (dl rfl) rfl rfl rfl ?_); intro a hE
    refine Zd hE Za (dl rfl) rfl ?_; intro a hE
    refine Zk (Zn ?_)
    exact ⟨_, (Option.some.inj hF11).symm, hE.sub ⟨rfl, rfl, rfl, rfl, rfl, trivial⟩, hM⟩
  ·intro hb8
   have hs5 := ZC hs5 hb8
   refine wp_exit (Zr (Zr (Yk ?_)))
   have ht26 := hx6 _ (Option.some.inj hs5).symm
   subst ht26
   refine Zn ?_
   exact ⟨hE.sub ⟨rfl, rfl, trivial⟩, hM⟩
 ·skip
  rintro a w ⟨hE, hM⟩
  refine Zz (Zc (Zd hE Za (dl rfl) rfl ?_)); intro a hE
  obtain ⟨r27, e28, hF3⟩ := bind_some hF3
  refine Zs (vs := [(Value.slice none 0 0), (vI j1)]) hE Za (dl rfl) rfl cb195 (c_slices_Grow_byte_byte_nil _ j1 r27 e28) ?_
  rintro u29 w a ⟨_, rfl, hFr, hK⟩ hE
  have hM := hM.add hK hFr
  refine Ze hE Za (dl rfl) rfl ?_; intro a hE
  refine Zf (wp_seq (Zc (Zd hE Za (dl rfl) rfl ?_))); intro a hE
  refine Yb hE Za (dl rfl) rfl Tryz.underlying42 (hM.rd hv0_1) ?_; intro a hE
  refine Zd hE Za (dl rfl) rfl ?_; intro a hE
  refine Zf ?_
  obtain ⟨j30, hl31, hF32⟩ := bind_some hF3
  refine ZS (fun a w => ∃ (u33 : Value), Env 36 a [(6, u33)] ∧ M (Old w0) w0 w [osl NoB (j30 : List UInt8) u33]) ?_ ?_
  ·skip
   refine wp_block ?_
   refine ZL (fun (s35 : Int × (List UInt8)) a w => ∃ (u36 : Value), Env 36 a [(6, u36), (25, v0_1), (26, (vI (p0.length : Int))), (27, (vI s35.1))] ∧ M (Old w0) w0 w [osl NoB (s35.2 : List UInt8) u36]) hl31 ⟨u29, hE.sub ⟨rfl, rfl, rfl, rfl, trivial⟩, hM⟩ ?_
   rintro s35 a w ⟨u36, hE, hM⟩ o40 hs38 hx39
   unfold YX at hs38
   refine Zc (Zh hE Za (dl rfl) rfl rfl rfl ?_); intro a hE
   refine Zf (wp_seq ?_)
   refine Zw hE rfl ?_ ?_
   ·intro hb41
    have hs38 := ZD hs38 hb41
    refine wp_skip (Zz (wp_seq (wp_block (Zc ?_))))
    obtain ⟨x42, e43, hs38⟩ := bind_some hs38
    have hi44 := ZY e43
    refine ZX hE Za (dl rfl) rfl rfl Tryz.underlying42 Uw (hM.rd hv0_1) hi44.1 ?_; intro a hE
    obtain ⟨cs45, hs46, hA47⟩ := Uf hv0_1 hi44.2 -- ^
    obtain ⟨u48, rfl⟩ := sl_one hs46 -- ^
    have h49 := hs46 -- ^
    refine Zq (v := u48) hE Za (dl rfl) rfl Uw rfl (hM.atk hA47 (sl_blk hv0_1 hi44.2)) ?_; intro a hE
    refine Ze hE Za (dl rfl) rfl ?_; intro a hE
    refine Zf (wp_region_lit (Zd hE Za (dl rfl) rfl ?_)); intro a hE
    refine Zd hE Za (dl rfl) rfl ?_; intro a hE
    obtain ⟨l50, e51, hs38⟩ := bind_some hs38
    obtain ⟨e54, rfl⟩ := Yu e51
    refine Yj hE hM Za (dl rfl) rfl rfl (hM.rd h49) Tryz.underlying57 ty5 rfl (by decide) e54 ?_; intro u52 w a hM hE
    refine Ze hE Za (dl rfl) rfl ?_; intro a hE
    refine Zk (Yl (Zz (wp_region_lit (Zh hE Za (dl rfl) rfl rfl rfl ?_)))); intro a hE
    refine Zd hE Za (dl rfl) rfl ?_; intro a hE
    refine Zk (Zn ?_)
    exact ⟨_, (Option.some.inj hs38).symm, u52, hE.sub ⟨rfl, rfl, rfl, rfl, trivial⟩, hM⟩
   ·intro hb41
    have hs38 := ZC hs38 hb41
    refine wp_exit (Zr (Zr (Yk ?_)))
    have ht55 := hx39 _ (Option.some.inj hs38).symm
    subst ht55
    refine Zn ?_
    exact ⟨u36, hE.sub ⟨rfl, trivial⟩, hM⟩
  ·skip
   rintro a w ⟨u33, hE, hM⟩
   refine Zz (Zc (Zd hE Za (dl rfl) rfl ?_)); intro a hE
   refine Ze hE Za (dl rfl) rfl ?_; intro a hE
   refine Zf ?_
   have hr := Option.some.inj hF32
   subst hr
   exact wp_ret (Zy hE rfl (Zu hE rfl) ⟨_, rfl, u33, rfl, hM.outF (Vm W2), hM.kept⟩)
noncomputable def YH (s8 : (Vector UInt8 32) × Int) : Option (Fl ((Vector UInt8 32) × Int) (Vector UInt8 32)) :=
 if (decide (s8.2 < 32)) = true then ((ZK s8.1 s8.2).bind fun x14 => some (Fl.nx ((s8.1.setIfInBounds (s8.2).toNat (Zx (wr (17 * s8.2)))), wr (s8.2 + 1)))) else (some (Fl.ex s8.1))
noncomputable def Xw : Option ((Vector UInt8 32)) :=
 (ZJ (YH) ((Vector.replicate 32 (0 : UInt8)), 0) : Option ((Vector UInt8 32))).bind fun j5 => some j5
theorem c_impl_StartOfDigest (w0 : World)  (r : (Vector UInt8 32)) (hF : Xw  = some r) :
  Calls Tryz.prog 158 [].toArray w0 (fun en w' => ∃ v, en = .returned v ∧ (v = (Value.agg (Flat.enc r).toArray) ∧ Kept (Old w0) w0 w')) := by
 refine ZA (n := 14) Tryz.func158 rfl rfl (Nat.le_of_ble_eq_true rfl) rfl ?_
 intro a hE
 have hM := M.start w0
 unfold Xw at hF
 refine Zc (ZE hE hM Za (dl rfl) Z9 ?_); intro b1 w a hM hE
 refine Zf (Zc (YO (parts := []) (vs := []) (cs := Flat.enc (Vector.replicate 32 (0 : UInt8))) hE Za (dl rfl) rfl rfl Z9 rfl ty5 Yw ?_)); intro a hE
 refine ZE hE hM Za (dl rfl) Z9 ?_; intro b3 w a hM hE
 refine Zp (seg := Flat.enc (Vector.replicate 32 (0 : UInt8))) (cs' := Flat.enc (Vector.replicate 32 (0 : UInt8))) hE hM Za rfl rfl rfl Z9 (Flat.len _) (zle flq) (Flat.cell _) (Zl flq) ?_; intro w a hM hE
 refine Zf (wp_seq (Zc (Zd hE Za (dl rfl) rfl ?_))); intro a hE
 refine Zf ?_
 obtain ⟨j5, hl6, hF7⟩ := bind_some hF
 refine ZS (fun a w => Env 14 a [(0, (ptr b1 0)), (1, (ptr b3 0))] ∧ M (Old w0) w0 w [raw b3 (Flat.enc j5), raw b1 (Flat.enc (Vector.replicate 32 (0 : UInt8)))]) ?_ ?_
 ·skip
  refine wp_block ?_
  refine ZL (fun (s8 : (Vector UInt8 32) × Int) a w => Env 14 a [(0, (ptr b1 0)), (1, (ptr b3 0)), (4, (vI s8.2))] ∧ M (Old w0) w0 w [raw b3 (Flat.enc s8.1), raw b1 (Flat.enc (Vector.replicate 32 (0 : UInt8)))]) hl6 ⟨hE.sub ⟨rfl, rfl, rfl, trivial⟩, hM⟩ ?_
  rintro s8 a w ⟨hE, hM⟩ o11 hs9 hx10
  unfold YH at hs9
  refine Zc (Zh hE Za (dl rfl) rfl rfl rfl ?_); intro a hE
  refine Zf (wp_seq ?_)
  refine Zw hE rfl ?_ ?_
  ·intro hb12
   have hs9 := ZD hs9 hb12
   refine wp_skip (Zz (wp_seq (wp_block (Zc (Zd hE Za (dl rfl) rfl ?_))))); intro a hE
   refine Ze hE Za (dl rfl) rfl ?_; intro a hE
   refine Zf (wp_region_lit (Zd hE Za (dl rfl) rfl ?_)); intro a hE
   refine Zd hE Za (dl rfl) rfl ?_; intro a hE
   refine Zh hE Za (dl rfl) rfl rfl rfl ?_; intro a hE
   refine YE hE Za (dl rfl) rfl Tryz.underlying3 Tryz.underlying5 ?_; intro a hE
   rw [Z4] at hE
   obtain ⟨x14, e15, hs9⟩ := bind_some hs9
   have hi13 := Zi e15
   refine Zo hE Za (dl rfl) rfl rfl Tryz.underlying29 ty5 hi13.1 ?_; intro a hE
   refine Zp (seg := [(vB (Zx (wr (17 * s8.2))))]) (cs' := Flat.enc (s8.1.setIfInBounds (s8.2).toNat (Zx (wr (17 * s8.2))))) hE hM Za rfl rfl rfl ty5 rfl (ZO (v := s8.1) (x := Zx (wr (17 * s8.2))) hi13.1) (Flat.cell (Zx (wr (17 * s8.2)) : UInt8)) (ZI (v := s8.1) (x := Zx (wr (17 * s8.2))) hi13.1) ?_; intro w a hM hE
   refine Zk (Yl (Zz (wp_region_lit (Zh hE Za (dl rfl) rfl rfl rfl ?_)))); intro a hE
   refine Zd hE Za (dl rfl) rfl ?_; intro a hE
   refine Zk (Zn ?_)
   exact ⟨_, (Option.some.inj hs9).symm, hE.sub ⟨rfl, rfl, rfl, trivial⟩, hM⟩
  ·intro hb12
   have hs9 := ZC hs9 hb12
   refine wp_exit (Zr (Zr (Yk ?_)))
   have ht16 := hx10 _ (Option.some.inj hs9).symm
   subst ht16
   refine Zn ?_
   exact ⟨hE.sub ⟨rfl, rfl, trivial⟩, hM⟩
 ·skip
  rintro a w ⟨hE, hM⟩
  refine Zz (Zc (Zm (cs := Flat.enc j5) hE Za (dl rfl) rfl Z9 rfl (hM.rawAt (pre := [])) (Flat.len _) ?_)); intro a hE
  have hM := hM.pull (pre := [_])
  refine Zp (seg := Flat.enc j5) (cs' := Flat.enc j5) hE hM Za rfl rfl rfl Z9 (Flat.len _) (zle flq) (Flat.cell _) (Zl flq) ?_; intro w a hM hE
  refine Zf ?_
  have hr := Option.some.inj hF7
  subst hr
  have hq17 : Yq Tryz.prog _ _ (.cell 0 29) _ := ZQ hE rfl Z9 rfl (hM.rawAt (pre := [])) (Flat.len _) rfl
  have hM := M.fst (l := []) hM
  exact wp_ret (Zy hE rfl hq17 ⟨_, rfl, rfl, hM.kept⟩)
noncomputable def YJ (p0 : (List UInt8)) : Option ((List UInt8)) :=
 (app 1 ([] : List UInt8) p0).bind fun l7 => some (([] : List UInt8) ++ p0)
theorem c_slices_Clone_byte_byte (w0 : World) (p0 : (List UInt8)) (v0_1 : Value) (hv0_1 : Ro w0 p0 [v0_1]) (r : (List UInt8)) (hF : YJ p0 = some r) :
  Calls Tryz.prog 105 [v0_1].toArray w0 (fun en w' => ∃ v, en = .returned v ∧ (∃ (y1 : Value), v = y1 ∧ Fr w0 w' [osl NoB (r : List UInt8) y1] ∧ Kept (Old w0) w0 w')) := by
 refine ZA (n := 8) Tryz.func105 rfl rfl (Nat.le_of_ble_eq_true rfl) rfl ?_
 intro a hE
 have hM := M.start w0
 unfold YJ at hF
 refine Zc (Ze hE Za (dl rfl) rfl ?_); intro a hE
 refine Zf (wp_seq (Zc (Zd hE Za (dl rfl) rfl ?_))); intro a hE
 refine s_eqNil hE Za (dl rfl) rfl rfl Tryz.underlying57 (hM.rd hv0_1) ?_; intro bn1 a hn2 hE
 refine Zf ?_
 refine Zw hE rfl ?_ ?_
 ·intro hb3
  have h0 := hn2 hb3
  have hF : some ([]) = some r := by rw [h0] at hF; simpa [app] using hF
  refine Zc (Ze hE Za (dl rfl) rfl ?_); intro a hE
  refine Zf ?_
  have hM := M.nilS (α := UInt8) NoB noB hM
  have hr := Option.some.inj hF
  subst hr
  exact wp_ret (ZG (Zy hE rfl (Zu hE rfl) ⟨_, rfl, (Value.slice none 0 0), rfl, hM.outF (Vm W2), hM.kept⟩))
 ·intro hb3
  refine wp_skip (Zz (Zc (Ye (xs := []) (l := ([] : List UInt8)) (vs := []) hE hM Za (dl rfl) rfl rfl Tryz.underlying57 ty5 rfl (by decide) rfl ?_))); intro u5 w a hM hE
  refine Zd hE Za (dl rfl) rfl ?_; intro a hE
  obtain ⟨l7, e8, hF⟩ := bind_some hF
  obtain ⟨e11, rfl⟩ := Yu e8
  refine Yj hE hM Za (dl rfl) rfl rfl (hM.rd hv0_1) Tryz.underlying57 ty5 rfl (by decide) e11 ?_; intro u9 w a hM hE
  refine Ze hE Za (dl rfl) rfl ?_; intro a hE
  refine Zf ?_
  have hr := Option.some.inj hF
  subst hr
  exact wp_ret (Zy hE rfl (Zu hE rfl) ⟨_, rfl, u9, rfl, hM.outF (Vm W2), hM.kept⟩)
noncomputable def Vt (s16 : (List UInt8)) : Option (Fl (List UInt8) (List UInt8)) :=
 if ((Int.tmod (s16.length : Int) 16) != 8) = true then ((app 1 s16 ([0] : List UInt8)).bind fun l25 => some (Fl.nx (s16 ++ ([0] : List UInt8)))) else (some (Fl.ex s16))
noncomputable def Wy (p0 : (List UInt8)) : Option ((List UInt8)) :=
 (YJ p0).bind fun r1 => (app 1 r1 ([128] : List UInt8)).bind fun l6 => (ZJ (Vt) (r1 ++ ([128] : List UInt8)) : Option ((List UInt8))).bind fun j11 => (YQ (p0.length : Int) 8).bind fun r31 => (app 1 j11 r31).bind fun l34 => some (j11 ++ r31)
theorem c_impl_padMessage (w0 : World) (p0 : (List UInt8)) (v0_1 : Value) (hv0_1 : Ro w0 p0 [v0_1]) (r : (List UInt8)) (hF : Wy p0 = some r) :
  Calls Tryz.prog 160 [v0_1].toArray w0 (fun en w' => ∃ v, en = .returned v ∧ (∃ (y1 : Value), v = y1 ∧ Fr w0 w' [osl NoB (r : List UInt8) y1] ∧ Kept (Old w0) w0 w')) := by
 refine ZA (n := 20) Tryz.func160 rfl rfl (Nat.le_of_ble_eq_true rfl) rfl ?_
 intro a hE
 have hM := M.start w0
 unfold Wy at hF
 refine Zc (Ze hE Za (dl rfl) rfl ?_); intro a hE
 refine Zf (Zc (Zd hE Za (dl rfl) rfl ?_)); intro a hE
 obtain ⟨r1, e2, hF⟩ := bind_some hF
 refine Zs (vs := [v0_1]) hE Za (dl rfl) rfl cb105 (c_slices_Clone_byte_byte _ p0 v0_1 (hM.rdo hv0_1) r1 e2) ?_
 rintro u3 w a ⟨_, rfl, hFr, hK⟩ hE
 have hM := hM.add hK hFr
 refine Ye (xs := [.const (vB 128)]) (l := ([128] : List UInt8)) (vs := [(vB 128)]) hE hM Za (dl rfl) rfl rfl Tryz.underlying57 ty5 rfl (by decide) rfl ?_; intro u4 w a hM hE
 obtain ⟨l6, e7, hF⟩ := bind_some hF
 obtain ⟨e10, rfl⟩ := Yu e7
 have hM := hM.pull (pre := [_])
 refine Yj hE hM Za (dl rfl) rfl rfl (hM.sl (pre := [_]) noB) Tryz.underlying57 ty5 rfl (by decide) e10 ?_; intro u8 w a hM hE
 refine Ze hE Za (dl rfl) rfl ?_; intro a hE
 refine Zf ?_
 obtain ⟨j11, hl12, hF13⟩ := bind_some hF
 refine ZR (fun a w => ∃ (u14 : Value), Env 20 a [(0, v0_1), (3, u14)] ∧ M (Old w0) w0 w [osl NoB (j11 : List UInt8) u14]) ?_ ?_
 ·skip
  refine wp_block ?_
  have hM := M.fst (l := [_]) hM
  refine ZL (fun (s16 : (List UInt8)) a w => ∃ (u17 : Value), Env 20 a [(0, v0_1), (3, u17)] ∧ M (Old w0) w0 w [osl NoB (s16 : List UInt8) u17]) hl12 ⟨u8, hE.sub ⟨rfl, rfl, trivial⟩, hM⟩ ?_
  rintro s16 a w ⟨u17, hE, hM⟩ o21 hs19 hx20
  unfold Vt at hs19
  refine wp_seq (Zc (Zd hE Za (dl rfl) rfl ?_)); intro a hE
  refine Yb hE Za (dl rfl) rfl Tryz.underlying57 (hM.sl (pre := []) noB) ?_; intro a hE
  refine Zh hE Za (dl rfl) rfl rfl (bI_rem _ _ (by decide)) ?_; intro a hE
  refine Zh hE Za (dl rfl) rfl rfl rfl ?_; intro a hE
  refine Zf ?_
  refine Zw hE rfl ?_ ?_
  ·intro hb22
   have hs19 := ZD hs19 hb22
   refine wp_skip (Zz (wp_block (wp_region_lit (Zd hE Za (dl rfl) rfl ?_)))); intro a hE
   refine Ye (xs := [.const (vB 0)]) (l := ([0] : List UInt8)) (vs := [(vB 0)]) hE hM Za (dl rfl) rfl rfl Tryz.underlying57 ty5 rfl (by decide) rfl ?_; intro u23 w a hM hE
   obtain ⟨l25, e26, hs19⟩ := bind_some hs19
   obtain ⟨e29, rfl⟩ := Yu e26
   have hM := hM.pull (pre := [_])
   refine Yj hE hM Za (dl rfl) rfl rfl (hM.sl (pre := [_]) noB) Tryz.underlying57 ty5 rfl (by decide) e29 ?_; intro u27 w a hM hE
   refine Ze hE Za (dl rfl) rfl ?_; intro a hE
   refine Zk (Yl (Zn ?_))
   have hM := M.fst (l := [_]) hM
   exact ⟨_, (Option.some.inj hs19).symm, u27, hE.sub ⟨rfl, rfl, trivial⟩, hM⟩
  ·intro hb22
   have hs19 := ZC hs19 hb22
   refine wp_exit (Zr (Zr (Yk ?_)))
   have ht30 := hx20 _ (Option.some.inj hs19).symm
   subst ht30
   refine Zn ?_
   exact ⟨u17, hE.sub ⟨rfl, rfl, trivial⟩, hM⟩
 ·skip
  rintro a w ⟨u14, hE, hM⟩
  refine Zc (Zd hE Za (dl rfl) rfl ?_); intro a hE
  refine Zd hE Za (dl rfl) rfl ?_; intro a hE
  refine Yb hE Za (dl rfl) rfl Tryz.underlying57 (hM.rd hv0_1) ?_; intro a hE
  obtain ⟨r31, e32, hF13⟩ := bind_some hF13
  refine Zs (vs := [(vI (p0.length : Int)), (vI 8)]) hE Za (dl rfl) rfl cb141 (c_impl_bigEndian _ (p0.length : Int) 8 r31 e32) ?_
  rintro u33 w a ⟨_, rfl, hFr, hK⟩ hE
  have hM := hM.add hK hFr
  obtain ⟨l34, e35, hF13⟩ := bind_some hF13
  obtain ⟨e38, rfl⟩ := Yu e35
  have hM := hM.pull (pre := [_])
  refine Yj hE hM Za (dl rfl) rfl rfl (hM.sl (pre := [_]) noB) Tryz.underlying57 ty5 rfl (by decide) e38 ?_; intro u36 w a hM hE
  refine Ze hE Za (dl rfl) rfl ?_; intro a hE
  refine Zf ?_
  have hr := Option.some.inj hF13
  subst hr
  have hM := M.fst (l := [_]) hM
  exact wp_ret (Zy hE rfl (Zu hE rfl) ⟨_, rfl, u36, rfl, hM.outF (Vm W2), hM.kept⟩)
noncomputable def XP (p0 : (List UInt8)) (s8 : (List (Vector UInt8 16)) × Int) : Option (Fl ((List (Vector UInt8 16)) × Int) (List (Vector UInt8 16))) :=
 if (decide (s8.2 < (p0.length : Int))) = true then ((slc p0 s8.2 (wr (s8.2 + 16))).bind fun l15 => (toArr 16 l15).bind fun x18 => (app 16 s8.1 ([x18] : List (Vector UInt8 16))).bind fun l22 => some (Fl.nx ((s8.1 ++ ([x18] : List (Vector UInt8 16))), wr (s8.2 + 16)))) else (some (Fl.ex s8.1))
noncomputable def Vv (p0 : (List UInt8)) : Option ((List (Vector UInt8 16))) :=
 (ZJ (XP p0) (([] : List (Vector UInt8 16)), 0) : Option ((List (Vector UInt8 16)))).bind fun j3 => some j3
theorem c_impl_blocksOf (w0 : World) (p0 : (List UInt8)) (v0_1 : Value) (hv0_1 : Ro w0 p0 [v0_1]) (r : (List (Vector UInt8 16))) (hF : Vv p0 = some r) :
  Calls Tryz.prog 159 [v0_1].toArray w0 (fun en w' => ∃ v, en = .returned v ∧ (∃ (y1 : Value), v = y1 ∧ Fr w0 w' [osl NoB (r : List (Vector UInt8 16)) y1] ∧ Kept (Old w0) w0 w')) := by
 refine ZA (n := 23) Tryz.func159 rfl rfl (Nat.le_of_ble_eq_true rfl) rfl ?_
 intro a hE
 have hM := M.start w0
 unfold Vv at hF
 refine Zc (Ze hE Za (dl rfl) rfl ?_); intro a hE
 refine Zf (Zc (Ye (xs := []) (l := ([] : List (Vector UInt8 16))) (vs := []) hE hM Za (dl rfl) rfl rfl Tryz.underlying32 ZF rfl (by decide) rfl ?_)); intro u1 w a hM hE
 refine Ze hE Za (dl rfl) rfl ?_; intro a hE
 refine Zf (wp_seq (Zc (Ze hE Za (dl rfl) rfl ?_))); intro a hE
 refine Zf ?_
 obtain ⟨j3, hl4, hF5⟩ := bind_some hF
 refine ZS (fun a w => ∃ (u6 : Value), Env 23 a [(3, u6)] ∧ M (Old w0) w0 w [osl NoB (j3 : List (Vector UInt8 16)) u6]) ?_ ?_
 ·skip
  refine wp_block ?_
  refine ZL (fun (s8 : (List (Vector UInt8 16)) × Int) a w => ∃ (u9 : Value), Env 23 a [(0, v0_1), (3, u9), (4, (vI s8.2))] ∧ M (Old w0) w0 w [osl NoB (s8.1 : List (Vector UInt8 16)) u9]) hl4 ⟨u1, hE.sub ⟨rfl, rfl, rfl, trivial⟩, hM⟩ ?_
  rintro s8 a w ⟨u9, hE, hM⟩ o13 hs11 hx12
  unfold XP at hs11
  refine wp_seq (Zc (Zd hE Za (dl rfl) rfl ?_)); intro a hE
  refine Zd hE Za (dl rfl) rfl ?_; intro a hE
  refine Yb hE Za (dl rfl) rfl Tryz.underlying57 (hM.rd hv0_1) ?_; intro a hE
  refine Zh hE Za (dl rfl) rfl rfl rfl ?_; intro a hE
  refine Zf ?_
  refine Zw hE rfl ?_ ?_
  ·intro hb14
   have hs11 := ZD hs11 hb14
   refine wp_skip (Zz (wp_seq (wp_block (wp_region_lit (Zd hE Za (dl rfl) rfl ?_))))); intro a hE
   refine Zd hE Za (dl rfl) rfl ?_; intro a hE
   refine Zd hE Za (dl rfl) rfl ?_; intro a hE
   refine Zd hE Za (dl rfl) rfl ?_; intro a hE
   refine Zh hE Za (dl rfl) rfl rfl rfl ?_; intro a hE
   obtain ⟨l15, e16, hs11⟩ := bind_some hs11
   refine s_slice hE Za (dl rfl) rfl rfl rfl rfl rfl Tryz.underlying57 ty5 (hM.rd hv0_1) e16 ?_; intro a hE
   have h17 : Rep.sat (Old w0) w0 l15 [(ZN v0_1 (s8.2).toNat ((wr (s8.2 + 16))).toNat 1)] [] := W5 hv0_1 e16 -- ^
   obtain ⟨x18, e19, hs11⟩ := bind_some hs11
   refine s_toArr hE Za (dl rfl) rfl Tryz.underlying70 (hM.rd h17) (toArr_some e19).1 (by decide) ?_; intro a hE
   refine Zm (cs := Flat.enc x18) hE Za (dl rfl) rfl ZF rfl (sl_arr (hM.rd h17) e19 (by decide)) (Flat.len _) ?_; intro a hE
   refine Ye (xs := [.tmp 19]) (l := ([x18] : List (Vector UInt8 16))) (vs := [(Value.agg (Flat.enc x18).toArray)]) hE hM Za (dl rfl) rfl rfl Tryz.underlying32 ZF rfl (by decide) rfl ?_; intro u20 w a hM hE
   obtain ⟨l22, e23, hs11⟩ := bind_some hs11
   obtain ⟨e26, rfl⟩ := Yu e23
   have hM := hM.pull (pre := [_])
   refine Yj hE hM Za (dl rfl) rfl rfl (hM.sl (pre := [_]) noB) Tryz.underlying32 ZF rfl (by decide) e26 ?_; intro u24 w a hM hE
   refine Ze hE Za (dl rfl) rfl ?_; intro a hE
   refine Zk (Yl (Zz (wp_region_lit (Zd hE Za (dl rfl) rfl ?_)))); intro a hE
   refine Zh hE Za (dl rfl) rfl rfl rfl ?_; intro a hE
   refine Ze hE Za (dl rfl) rfl ?_; intro a hE
   refine Zk (Zn ?_)
   have hM := M.fst (l := [_]) hM
   exact ⟨_, (Option.some.inj hs11).symm, u24, hE.sub ⟨rfl, rfl, rfl, trivial⟩, hM⟩
  ·intro hb14
   have hs11 := ZC hs11 hb14
   refine wp_exit (Zr (Zr (Yk ?_)))
   have ht27 := hx12 _ (Option.some.inj hs11).symm
   subst ht27
   refine Zn ?_
   exact ⟨u9, hE.sub ⟨rfl, trivial⟩, hM⟩
 ·skip
  rintro a w ⟨u6, hE, hM⟩
  refine Zz (Zc (Zd hE Za (dl rfl) rfl ?_)); intro a hE
  refine Ze hE Za (dl rfl) rfl ?_; intro a hE
  refine Zf ?_
  have hr := Option.some.inj hF5
  subst hr
  exact wp_ret (Zy hE rfl (Zu hE rfl) ⟨_, rfl, u6, rfl, hM.outF (Vm W2), hM.kept⟩)
noncomputable def XG (p1 : (Vector UInt8 16)) (s10 : (Vector UInt8 16) × Int) : Option (Fl ((Vector UInt8 16) × Int) (Vector UInt8 16)) :=
 if (decide (s10.2 < 16)) = true then ((ZK s10.1 s10.2).bind fun x17 => (ZK p1 s10.2).bind fun x20 => (ZK s10.1 s10.2).bind fun x23 => some (Fl.nx ((s10.1.setIfInBounds (s10.2).toNat (x17 ^^^ x20)), wr (s10.2 + 1)))) else (some (Fl.ex s10.1))
noncomputable def Ym (p0 : (Vector UInt8 16)) (p1 : (Vector UInt8 16)) : Option ((Vector UInt8 16)) :=
 (ZJ (XG p1) (p0, 0) : Option ((Vector UInt8 16))).bind fun j7 => some j7
theorem XW (w0 : World) (p0 : (Vector UInt8 16)) (p1 : (Vector UInt8 16)) (r : (Vector UInt8 16)) (hF : Ym p0 p1 = some r) :
  Calls Tryz.prog 196 [(Value.agg (Flat.enc p0).toArray), (Value.agg (Flat.enc p1).toArray)].toArray w0 (fun en w' => ∃ v, en = .returned v ∧ (v = (Value.agg (Flat.enc r).toArray) ∧ Kept (Old w0) w0 w')) := by
 refine ZA (n := 19) Tryz.func196 rfl rfl (Nat.le_of_ble_eq_true rfl) rfl ?_
 intro a hE
 have hM := M.start w0
 unfold Ym at hF
 refine Zc (ZV (cs := Flat.enc p0) hE hM Za (dl rfl) rfl rfl ?_); intro b1 w a hM hE
 refine ZV (cs := Flat.enc p1) hE hM Za (dl rfl) rfl rfl ?_; intro b3 w a hM hE
 refine ZE hE hM Za (dl rfl) ZF ?_; intro b5 w a hM hE
 refine Zf (wp_seq (Zc (Zd hE Za (dl rfl) rfl ?_))); intro a hE
 refine Zf ?_
 obtain ⟨j7, hl8, hF9⟩ := bind_some hF
 refine ZS (fun a w => Env 19 a [(2, (ptr b1 0)), (4, (ptr b5 0))] ∧ M (Old w0) w0 w [raw b5 (Flat.enc (Vector.replicate 16 (0 : UInt8))), raw b1 (Flat.enc j7)]) ?_ ?_
 ·skip
  refine wp_block ?_
  refine ZL (fun (s10 : (Vector UInt8 16) × Int) a w => Env 19 a [(2, (ptr b1 0)), (3, (ptr b3 0)), (4, (ptr b5 0)), (6, (vI s10.2))] ∧ M (Old w0) w0 w [raw b5 (Flat.enc (Vector.replicate 16 (0 : UInt8))), raw b3 (Flat.enc p1), raw b1 (Flat.enc s10.1)]) hl8 ⟨hE.sub ⟨rfl, rfl, rfl, rfl, trivial⟩, hM⟩ ?_
  rintro s10 a w ⟨hE, hM⟩ o13 hs11 hx12
  unfold XG at hs11
  refine Zc (Zh hE Za (dl rfl) rfl rfl rfl ?_); intro a hE
  refine Zf (wp_seq ?_)
  refine Zw hE rfl ?_ ?_
  ·intro hb14
   have hs11 := ZD hs11 hb14
   refine wp_skip (Zz (wp_seq (wp_block (Zc (Zd hE Za (dl rfl) rfl ?_))))); intro a hE
   refine Ze hE Za (dl rfl) rfl ?_; intro a hE
   refine Zf ?_
   obtain ⟨x17, e18, hs11⟩ := bind_some hs11
   have hi16 := Zi e18
   obtain ⟨x20, e21, hs11⟩ := bind_some hs11
   have hi19 := Zi e21
   obtain ⟨x23, e24, hs11⟩ := bind_some hs11
   have hi22 := Zi e24
   refine Yo (n := 19) (hd := [_, _, _, _, _, _, _, _]) (tl := [_]) YU rfl rfl [9, 10, 11, 12, 13, 14, 15, 16] (by decide) (fun w => M (Old w0) w0 w [raw b5 (Flat.enc (Vector.replicate 16 (0 : UInt8))), raw b3 (Flat.enc p1), raw b1 (Flat.enc s10.1)]) (fun j => ([fun v _ => v = (vI s10.2), fun v _ => v = (ptr b1 (0 + (s10.2).toNat * 1)), fun v _ => v = (vB x17), fun v _ => v = (vI s10.2), fun v _ => v = (ptr b3 (0 + (s10.2).toNat * 1)), fun v _ => v = (vB x20), fun v _ => v = (vB (x17 ^^^ x20)), fun v _ => v = (ptr b1 (0 + (s10.2).toNat * 1))] : List (Value → World → Prop)).getD j (fun _ _ => True)) (fun _ _ h hk => h.keep hk) (gup (Zj (Zj (Zj (Zj (Zj (Zj (Zj (Zj Vq))))))))) hE hM.drew (ZM (Zb ?_ (Zb ?_ (Zb ?_ (Zb ?_ (Zb ?_ (Zb ?_ (Zb ?_ (Zb ?_ ZH))))))))) ?_
   ·intro a w ux15 hE hM hp
    refine Zd hE Za (dl rfl) rfl ?_; intro a hE
    exact ⟨Kept.refl _ _, _, _, rfl, hE, rfl⟩
   ·intro a w ux15 hE hM hp
    have f0 : ux15 0 = (vI s10.2) := hp 0 _ rfl rfl
    refine Zo hE Za (dl rfl) rfl (lk rfl f0) Tryz.underlying70 ty5 hi16.1 ?_; intro a hE
    exact ⟨Kept.refl _ _, _, _, rfl, hE, rfl⟩
   ·intro a w ux15 hE hM hp
    have f1 : ux15 1 = (ptr b1 (0 + (s10.2).toNat * 1)) := hp 0 _ rfl rfl
    refine Zq (v := (vB x17)) hE Za (dl rfl) (lk rfl f1) ty5 rfl (At.vec (hM.rawAt (pre := [_, _])) hi16.2) ?_; intro a hE
    exact ⟨Kept.refl _ _, _, _, rfl, hE, rfl⟩
   ·intro a w ux15 hE hM hp
    refine Zd hE Za (dl rfl) rfl ?_; intro a hE
    exact ⟨Kept.refl _ _, _, _, rfl, hE, rfl⟩
   ·intro a w ux15 hE hM hp
    have f3 : ux15 3 = (vI s10.2) := hp 0 _ rfl rfl
    refine Zo hE Za (dl rfl) rfl (lk rfl f3) Tryz.underlying70 ty5 hi19.1 ?_; intro a hE
    exact ⟨Kept.refl _ _, _, _, rfl, hE, rfl⟩
   ·intro a w ux15 hE hM hp
    have f4 : ux15 4 = (ptr b3 (0 + (s10.2).toNat * 1)) := hp 0 _ rfl rfl
    refine Zq (v := (vB x20)) hE Za (dl rfl) (lk rfl f4) ty5 rfl (At.vec (hM.rawAt (pre := [_])) hi19.2) ?_; intro a hE
    exact ⟨Kept.refl _ _, _, _, rfl, hE, rfl⟩
   ·intro a w ux15 hE hM hp
    have f2 : ux15 2 = (vB x17) := hp 0 _ rfl rfl
    have f5 : ux15 5 = (vB x20) := hp 1 _ rfl rfl
    refine Zh hE Za (dl rfl) (lk rfl f2) (lk rfl f5) (WK x17 x20) ?_; intro a hE
    exact ⟨Kept.refl _ _, _, _, rfl, hE, rfl⟩
   ·intro a w ux15 hE hM hp
    have f0 : ux15 0 = (vI s10.2) := hp 0 _ rfl rfl
    refine Zo hE Za (dl rfl) rfl (lk rfl f0) Tryz.underlying70 ty5 hi22.1 ?_; intro a hE
    exact ⟨Kept.refl _ _, _, _, rfl, hE, rfl⟩
   ·intro a w ux15 hE hM hg
    have f0 : ux15 0 = (vI s10.2) := hg 0 (by decide)
    have f1 : ux15 1 = (ptr b1 (0 + (s10.2).toNat * 1)) := hg 1 (by decide)
    have f2 : ux15 2 = (vB x17) := hg 2 (by decide)
    have f3 : ux15 3 = (vI s10.2) := hg 3 (by decide)
    have f4 : ux15 4 = (ptr b3 (0 + (s10.2).toNat * 1)) := hg 4 (by decide)
    have f5 : ux15 5 = (vB x20) := hg 5 (by decide)
    have f6 : ux15 6 = (vB (x17 ^^^ x20)) := hg 6 (by decide)
    have f7 : ux15 7 = (ptr b1 (0 + (s10.2).toNat * 1)) := hg 7 (by decide)
    have hE := hE.sub (e' := [(9, (vI s10.2)), (10, (ptr b1 (0 + (s10.2).toNat * 1))), (11, (vB x17)), (12, (vI s10.2)), (13, (ptr b3 (0 + (s10.2).toNat * 1))), (14, (vB x20)), (15, (vB (x17 ^^^ x20))), (16, (ptr b1 (0 + (s10.2).toNat * 1))), (2, (ptr b1 0)), (3, (ptr b3 0)), (4, (ptr b5 0)), (5, (vI s10.2)), (6, (vI s10.2)), (7, (vT (decide (s10.2 < 16)))), (8, (vI s10.2))]) ⟨lk rfl f0, lk rfl f1, lk rfl f2, lk rfl f3, lk rfl f4, lk rfl f5, lk rfl f6, lk rfl f7, rfl, rfl, rfl, rfl, rfl, rfl, rfl, trivial⟩
    have hM := hM.pull (pre := [_, _])
    refine Zp (seg := [(vB (x17 ^^^ x20))]) (cs' := Flat.enc (s10.1.setIfInBounds (s10.2).toNat (x17 ^^^ x20))) hE hM Za rfl rfl rfl ty5 rfl (ZO (v := s10.1) (x := x17 ^^^ x20) hi22.1) (Flat.cell (x17 ^^^ x20 : UInt8)) (ZI (v := s10.1) (x := x17 ^^^ x20) hi22.1) ?_; intro w a hM hE
    refine Zk (Yl (Zz (wp_region_lit (Zh hE Za (dl rfl) rfl rfl rfl ?_)))); intro a hE
    refine Zd hE Za (dl rfl) rfl ?_; intro a hE
    refine Zk (Zn ?_)
    have hM := hM.pull (pre := [_, _])
    have hM := hM.pull (pre := [_, _])
    exact ⟨_, (Option.some.inj hs11).symm, hE.sub ⟨rfl, rfl, rfl, rfl, trivial⟩, hM⟩
  ·intro hb14
   have hs11 := ZC hs11 hb14
   refine wp_exit (Zr (Zr (Yk ?_)))
   have ht25 := hx12 _ (Option.some.inj hs11).symm
   subst ht25
   refine Zn ?_
   have hM := hM.pull (pre := [_, _])
   have hM := hM.pull (pre := [_])
   have hM := M.fst (l := [_, _]) hM
   exact ⟨hE.sub ⟨rfl, rfl, trivial⟩, hM⟩
 ·skip
  rintro a w ⟨hE, hM⟩
  refine Zz (Zc (Zm (cs := Flat.enc j7) hE Za (dl rfl) rfl ZF rfl (hM.rawAt (pre := [_])) (Flat.len _) ?_)); intro a hE
  refine Zp (seg := Flat.enc j7) (cs' := Flat.enc j7) hE hM Za rfl rfl rfl ZF (Flat.len _) (zle flq) (Flat.cell _) (Zl flq) ?_; intro w a hM hE
  refine Zf ?_
  have hr := Option.some.inj hF9
  subst hr
  have hq26 : Yq Tryz.prog _ _ (.cell 4 70) _ := ZQ hE rfl ZF rfl (hM.rawAt (pre := [])) (Flat.len _) rfl
  have hM := M.fst (l := []) hM
  exact wp_ret (Zy hE rfl hq26 ⟨_, rfl, rfl, hM.kept⟩)
noncomputable def YC (p0 : (Ref Gengine)) (s35 : (Vector UInt8 16) × Int) : Option (Fl ((Vector UInt8 16) × Int) (Vector UInt8 16)) :=
 if (decide (s35.2 < 16)) = true then ((ZK s35.1 s35.2).bind fun x42 => (ZK s35.1 (wr (s35.2 - 1))).bind fun x45 => (ZK p0.v.box (bI x45)).bind fun x58 => (ZK s35.1 s35.2).bind fun x61 => some (Fl.nx ((s35.1.setIfInBounds (s35.2).toNat (x42 ^^^ x58)), wr (s35.2 + 1)))) else (some (Fl.ex s35.1))
noncomputable def Xf (p0 : (Ref Gengine)) (p1 : (Vector UInt8 16)) (p2 : Int) : Option ((Vector UInt8 16)) :=
 ((ZK p1 (0 : Int)).bind fun x10 => (ZK p1 (15 : Int)).bind fun x13 => (ZK p0.v.box (bI (x13 ^^^ (Zx p2)))).bind fun x26 => (ZK p1 (0 : Int)).bind fun x29 => some (p1.setIfInBounds ((0 : Int)).toNat (x10 ^^^ x26)) : Option ((Vector UInt8 16))).bind fun j5 => (ZJ (YC p0) (j5, 1) : Option ((Vector UInt8 16))).bind fun j32 => some j32
theorem c_impl_engine_nextKey (w0 : World) (p0 : (Ref Gengine)) (v0_1 : Value) (hv0_1 : Ro w0 p0 [v0_1]) (p1 : (Vector UInt8 16)) (p2 : Int) (r : (Vector UInt8 16)) (hF : Xf p0 p1 p2 = some r) :
  Calls Tryz.prog 247 [v0_1, (Value.agg (Flat.enc p1).toArray), (vI p2)].toArray w0 (fun en w' => ∃ v, en = .returned v ∧ (v = (Value.agg (Flat.enc r).toArray) ∧ Kept (Old w0) w0 w')) := by
 refine ZA (n := 41) Tryz.func247 rfl rfl (Nat.le_of_ble_eq_true rfl) rfl ?_
 intro a hE
 have hM := M.start w0
 unfold Xf at hF
 refine Zc (ZV (cs := Flat.enc p1) hE hM Za (dl rfl) rfl rfl ?_); intro b1 w a hM hE
 refine ZE hE hM Za (dl rfl) ZF ?_; intro b3 w a hM hE
 refine Zf ?_
 obtain ⟨j5, hl6, hF7⟩ := bind_some hF
 refine ZR (fun a w => Env 41 a [(0, v0_1), (4, (ptr b1 0)), (6, (ptr b3 0))] ∧ M (Old w0) w0 w [raw b3 (Flat.enc (Vector.replicate 16 (0 : UInt8))), raw b1 (Flat.enc j5)]) ?_ ?_
 ·skip
  obtain ⟨x10, e11, hl6⟩ := bind_some hl6
  have hi9 := Zi e11
  obtain ⟨x13, e14, hl6⟩ := bind_some hl6
  have hi12 := Zi e14
  obtain ⟨pb15, ds16, hv17, hx18, hA19, hB20⟩ := Uz hv0_1 -- ^
  obtain ⟨u21, u23, rfl, h22, h24⟩ := un_Gengine hx18 -- ^
  obtain ⟨x26, e27, hl6⟩ := bind_some hl6
  have hi25 := Zi e27
  obtain ⟨x29, e30, hl6⟩ := bind_some hl6
  have hi28 := Zi e30
  refine Yo (n := 41) (hd := [_, _, _, _, _, _, _, _, _, _, _, _, _, _]) (tl := [_]) YU rfl rfl [8, 9, 10, 11, 12, 13, 14, 15, 16, 17, 18, 19, 20, 21] (by decide) (fun w => M (Old w0) w0 w [raw b3 (Flat.enc (Vector.replicate 16 (0 : UInt8))), raw b1 (Flat.enc p1)]) (fun j => ([fun v _ => v = (ptr b1 (0 + ((0 : Int)).toNat * 1)), fun v _ => v = (vB x10), fun v _ => v = v0_1, fun v _ => v = (ptr b1 (0 + ((15 : Int)).toNat * 1)), fun v _ => v = (vB x13), fun v _ => v = (vI p2), fun v _ => v = (vB (Zx p2)), fun v _ => v = (vB (x13 ^^^ (Zx p2))), fun v _ => v = (ptr pb15 0), fun v _ => v = (ptr pb15 (0 + 0)), fun v _ => v = (ptr pb15 (0 + 0 + ((bI (x13 ^^^ (Zx p2)))).toNat * 1)), fun v _ => v = (vB x26), fun v _ => v = (vB (x10 ^^^ x26)), fun v _ => v = (ptr b1 (0 + ((0 : Int)).toNat * 1))] : List (Value → World → Prop)).getD j (fun _ _ => True)) (fun _ _ h hk => h.keep hk) (gup (Zj (Zj (Zj (Zj (Zj (Zj (Zj (Zj (Zj (Zj (Zj (Zj (Zj (Zj Vq))))))))))))))) hE hM.drew (ZM (Zb ?_ (Zb ?_ (Zb ?_ (Zb ?_ (Zb ?_ (Zb ?_ (Zb ?_ (Zb ?_ (Zb ?_ (Zb ?_ (Zb ?_ (Zb ?_ (Zb ?_ (Zb ?_ ZH))))))))))))))) ?_
  ·intro a w ux8 hE hM hp
   refine Zo hE Za (dl rfl) rfl rfl Tryz.underlying70 ty5 hi9.1 ?_; intro a hE
   exact ⟨Kept.refl _ _, _, _, rfl, hE, rfl⟩
  ·intro a w ux8 hE hM hp
   have f0 : ux8 0 = (ptr b1 (0 + ((0 : Int)).toNat * 1)) := hp 0 _ rfl rfl
   refine Zq (v := (vB x10)) hE Za (dl rfl) (lk rfl f0) ty5 rfl (At.vec (hM.rawAt (pre := [_])) hi9.2) ?_; intro a hE
   exact ⟨Kept.refl _ _, _, _, rfl, hE, rfl⟩
  ·intro a w ux8 hE hM hp
   refine Zd hE Za (dl rfl) rfl ?_; intro a hE
   exact ⟨Kept.refl _ _, _, _, rfl, hE, rfl⟩
  ·intro a w ux8 hE hM hp
   refine Zo hE Za (dl rfl) rfl rfl Tryz.underlying70 ty5 hi12.1 ?_; intro a hE
   exact ⟨Kept.refl _ _, _, _, rfl, hE, rfl⟩
  ·intro a w ux8 hE hM hp
   have f3 : ux8 3 = (ptr b1 (0 + ((15 : Int)).toNat * 1)) := hp 0 _ rfl rfl
   refine Zq (v := (vB x13)) hE Za (dl rfl) (lk rfl f3) ty5 rfl (At.vec (hM.rawAt (pre := [_])) hi12.2) ?_; intro a hE
   exact ⟨Kept.refl _ _, _, _, rfl, hE, rfl⟩
  ·intro a w ux8 hE hM hp
   refine Zd hE Za (dl rfl) rfl ?_; intro a hE
   exact ⟨Kept.refl _ _, _, _, rfl, hE, rfl⟩
  ·intro a w ux8 hE hM hp
   have f5 : ux8 5 = (vI p2) := hp 0 _ rfl rfl
   refine YE hE Za (dl rfl) (lk rfl f5) Tryz.underlying2 Tryz.underlying5 ?_; intro a hE
   rw [Z4] at hE
   exact ⟨Kept.refl _ _, _, _, rfl, hE, rfl⟩
  ·intro a w ux8 hE hM hp
   have f4 : ux8 4 = (vB x13) := hp 0 _ rfl rfl
   have f6 : ux8 6 = (vB (Zx p2)) := hp 1 _ rfl rfl
   refine Zh hE Za (dl rfl) (lk rfl f4) (lk rfl f6) (WK x13 (Zx p2)) ?_; intro a hE
   exact ⟨Kept.refl _ _, _, _, rfl, hE, rfl⟩
  ·intro a w ux8 hE hM hp
   have f2 : ux8 2 = v0_1 := hp 0 _ rfl rfl
   refine XI hE Za (dl rfl) (lk (lk rfl f2) hv17) ?_; intro a hE
   exact ⟨Kept.refl _ _, _, _, rfl, hE, rfl⟩
  ·intro a w ux8 hE hM hp
   have f8 : ux8 8 = (ptr pb15 0) := hp 0 _ rfl rfl
   refine Zg hE Za (dl rfl) (lk rfl f8) (fd244_0) ?_; intro a hE
   exact ⟨Kept.refl _ _, _, _, rfl, hE, rfl⟩
  ·intro a w ux8 hE hM hp
   have f7 : ux8 7 = (vB (x13 ^^^ (Zx p2))) := hp 1 _ rfl rfl
   have f9 : ux8 9 = (ptr pb15 (0 + 0)) := hp 0 _ rfl rfl
   refine Zo hE Za (dl rfl) (lk rfl f9) (lk rfl f7) Tryz.underlying167 ty5 hi25.1 ?_; intro a hE
   exact ⟨Kept.refl _ _, _, _, rfl, hE, rfl⟩
  ·intro a w ux8 hE hM hp
   have f10 : ux8 10 = (ptr pb15 (0 + 0 + ((bI (x13 ^^^ (Zx p2)))).toNat * 1)) := hp 0 _ rfl rfl
   refine Zq (v := (vB x26)) hE Za (dl rfl) (lk rfl f10) ty5 rfl (At.vec (At.cat (pre := []) (hM.atk hA19 hB20) cl0) hi25.2) ?_; intro a hE
   exact ⟨Kept.refl _ _, _, _, rfl, hE, rfl⟩
  ·intro a w ux8 hE hM hp
   have f1 : ux8 1 = (vB x10) := hp 0 _ rfl rfl
   have f11 : ux8 11 = (vB x26) := hp 1 _ rfl rfl
   refine Zh hE Za (dl rfl) (lk rfl f1) (lk rfl f11) (WK x10 x26) ?_; intro a hE
   exact ⟨Kept.refl _ _, _, _, rfl, hE, rfl⟩
  ·intro a w ux8 hE hM hp
   refine Zo hE Za (dl rfl) rfl rfl Tryz.underlying70 ty5 hi28.1 ?_; intro a hE
   exact ⟨Kept.refl _ _, _, _, rfl, hE, rfl⟩
  ·intro a w ux8 hE hM hg
   have f0 : ux8 0 = (ptr b1 (0 + ((0 : Int)).toNat * 1)) := hg 0 (by decide)
   have f1 : ux8 1 = (vB x10) := hg 1 (by decide)
   have f2 : ux8 2 = v0_1 := hg 2 (by decide)
   have f3 : ux8 3 = (ptr b1 (0 + ((15 : Int)).toNat * 1)) := hg 3 (by decide)
   have f4 : ux8 4 = (vB x13) := hg 4 (by decide)
   have f5 : ux8 5 = (vI p2) := hg 5 (by decide)
   have f6 : ux8 6 = (vB (Zx p2)) := hg 6 (by decide)
   have f7 : ux8 7 = (vB (x13 ^^^ (Zx p2))) := hg 7 (by decide)
   have f8 : ux8 8 = (ptr pb15 0) := hg 8 (by decide)
   have f9 : ux8 9 = (ptr pb15 (0 + 0)) := hg 9 (by decide)
   have f10 : ux8 10 = (ptr pb15 (0 + 0 + ((bI (x13 ^^^ (Zx p2)))).toNat * 1)) := hg 10 (by decide)
   have f11 : ux8 11 = (vB x26) := hg 11 (by decide)
   have f12 : ux8 12 = (vB (x10 ^^^ x26)) := hg 12 (by decide)
   have f13 : ux8 13 = (ptr b1 (0 + ((0 : Int)).toNat * 1)) := hg 13 (by decide)
   have hE := hE.sub (e' := [(8, (ptr b1 (0 + ((0 : Int)).toNat * 1))), (9, (vB x10)), (10, v0_1), (11, (ptr b1 (0 + ((15 : Int)).toNat * 1))), (12, (vB x13)), (13, (vI p2)), (14, (vB (Zx p2))), (15, (vB (x13 ^^^ (Zx p2)))), (16, (ptr pb15 0)), (17, (ptr pb15 (0 + 0))), (18, (ptr pb15 (0 + 0 + ((bI (x13 ^^^ (Zx p2)))).toNat * 1))), (19, (vB x26)), (20, (vB (x10 ^^^ x26))), (21, (ptr b1 (0 + ((0 : Int)).toNat * 1))), (0, v0_1), (1, (Value.agg (Flat.enc p1).toArray)), (2, (vI p2)), (4, (ptr b1 0)), (6, (ptr b3 0))]) ⟨lk rfl f0, lk rfl f1, lk rfl f2, lk rfl f3, lk rfl f4, lk rfl f5, lk rfl f6, lk rfl f7, lk rfl f8, lk rfl f9, lk rfl f10, lk rfl f11, lk rfl f12, lk rfl f13, rfl, rfl, rfl, rfl, rfl, trivial⟩
   have hM := hM.pull (pre := [_])
   refine Zp (seg := [(vB (x10 ^^^ x26))]) (cs' := Flat.enc (p1.setIfInBounds ((0 : Int)).toNat (x10 ^^^ x26))) hE hM Za rfl rfl rfl ty5 rfl (ZO (v := p1) (x := x10 ^^^ x26) hi28.1) (Flat.cell (x10 ^^^ x26 : UInt8)) (ZI (v := p1) (x := x10 ^^^ x26) hi28.1) ?_; intro w a hM hE
   refine Zk ?_
   have ht31 := Option.some.inj hl6
   subst ht31
   refine Zn ?_
   have hM := hM.pull (pre := [_])
   exact ⟨hE.sub ⟨rfl, rfl, rfl, trivial⟩, hM⟩
 ·skip
  rintro a w ⟨hE, hM⟩
  refine wp_seq (Zc (Ze hE Za (dl rfl) rfl ?_)); intro a hE
  refine Zf ?_
  obtain ⟨j32, hl33, hF34⟩ := bind_some hF7
  refine ZS (fun a w => Env 41 a [(4, (ptr b1 0)), (6, (ptr b3 0))] ∧ M (Old w0) w0 w [raw b3 (Flat.enc (Vector.replicate 16 (0 : UInt8))), raw b1 (Flat.enc j32)]) ?_ ?_
  ·skip
   refine wp_block ?_
   refine ZL (fun (s35 : (Vector UInt8 16) × Int) a w => Env 41 a [(0, v0_1), (4, (ptr b1 0)), (6, (ptr b3 0)), (7, (vI s35.2))] ∧ M (Old w0) w0 w [raw b3 (Flat.enc (Vector.replicate 16 (0 : UInt8))), raw b1 (Flat.enc s35.1)]) hl33 ⟨hE.sub ⟨rfl, rfl, rfl, rfl, trivial⟩, hM⟩ ?_
   rintro s35 a w ⟨hE, hM⟩ o38 hs36 hx37
   unfold YC at hs36
   refine wp_seq (Zc (Zd hE Za (dl rfl) rfl ?_)); intro a hE
   refine Zh hE Za (dl rfl) rfl rfl rfl ?_; intro a hE
   refine Zf ?_
   refine Zw hE rfl ?_ ?_
   ·intro hb39
    have hs36 := ZD hs36 hb39
    refine wp_skip (Zz (wp_seq (wp_block ?_)))
    obtain ⟨x42, e43, hs36⟩ := bind_some hs36
    have hi41 := Zi e43
    obtain ⟨x45, e46, hs36⟩ := bind_some hs36
    have hi44 := Zi e46
    obtain ⟨pb47, ds48, hv49, hx50, hA51, hB52⟩ := Uz hv0_1 -- ^
    obtain ⟨u53, u55, rfl, h54, h56⟩ := un_Gengine hx50 -- ^
    obtain ⟨x58, e59, hs36⟩ := bind_some hs36
    have hi57 := Zi e59
    obtain ⟨x61, e62, hs36⟩ := bind_some hs36
    have hi60 := Zi e62
    refine Yo (n := 41) (hd := [_, _, _, _, _, _, _, _, _, _, _, _, _, _]) (tl := [_]) YU rfl rfl [26, 27, 28, 29, 30, 31, 32, 33, 34, 35, 36, 37, 38, 39] (by decide) (fun w => M (Old w0) w0 w [raw b3 (Flat.enc (Vector.replicate 16 (0 : UInt8))), raw b1 (Flat.enc s35.1)]) (fun j => ([fun v _ => v = (vI s35.2), fun v _ => v = (ptr b1 (0 + (s35.2).toNat * 1)), fun v _ => v = (vB x42), fun v _ => v = v0_1, fun v _ => v = (vI s35.2), fun v _ => v = (vI (wr (s35.2 - 1))), fun v _ => v = (ptr b1 (0 + ((wr (s35.2 - 1))).toNat * 1)), fun v _ => v = (vB x45), fun v _ => v = (ptr pb47 0), fun v _ => v = (ptr pb47 (0 + 0)), fun v _ => v = (ptr pb47 (0 + 0 + ((bI x45)).toNat * 1)), fun v _ => v = (vB x58), fun v _ => v = (vB (x42 ^^^ x58)), fun v _ => v = (ptr b1 (0 + (s35.2).toNat * 1))] : List (Value → World → Prop)).getD j (fun _ _ => True)) (fun _ _ h hk => h.keep hk) (gup (Zj (Zj (Zj (Zj (Zj (Zj (Zj (Zj (Zj (Zj (Zj (Zj (Zj (Zj Vq))))))))))))))) hE hM.drew (ZM (Zb ?_ (Zb ?_ (Zb ?_ (Zb ?_ (Zb ?_ (Zb ?_ (Zb ?_ (Zb ?_ (Zb ?_ (Zb ?_ (Zb ?_ (Zb ?_ (Zb ?_ (Zb ?_ ZH))))))))))))))) ?_
    ·intro a w ux40 hE hM hp
     refine Zd hE Za (dl rfl) rfl ?_; intro a hE
     exact ⟨Kept.refl _ _, _, _, rfl, hE, rfl⟩
    ·intro a w ux40 hE hM hp
     have f0 : ux40 0 = (vI s35.2) := hp 0 _ rfl rfl
     refine Zo hE Za (dl rfl) rfl (lk rfl f0) Tryz.underlying70 ty5 hi41.1 ?_; intro a hE
     exact ⟨Kept.refl _ _, _, _, rfl, hE, rfl⟩
    ·intro a w ux40 hE hM hp
     have f1 : ux40 1 = (ptr b1 (0 + (s35.2).toNat * 1)) := hp 0 _ rfl rfl
     refine Zq (v := (vB x42)) hE Za (dl rfl) (lk rfl f1) ty5 rfl (At.vec (hM.rawAt (pre := [_])) hi41.2) ?_; intro a hE
     exact ⟨Kept.refl _ _, _, _, rfl, hE, rfl⟩
    ·intro a w ux40 hE hM hp
     refine Zd hE Za (dl rfl) rfl ?_; intro a hE
     exact ⟨Kept.refl _ _, _, _, rfl, hE, rfl⟩
    ·intro a w ux40 hE hM hp
     refine Zd hE Za (dl rfl) rfl ?_; intro a hE
     exact ⟨Kept.refl _ _, _, _, rfl, hE, rfl⟩
    ·intro a w ux40 hE hM hp
     have f4 : ux40 4 = (vI s35.2) := hp 0 _ rfl rfl
     refine Zh hE Za (dl rfl) (lk rfl f4) rfl rfl ?_; intro a hE
     exact ⟨Kept.refl _ _, _, _, rfl, hE, rfl⟩
    ·intro a w ux40 hE hM hp
     have f5 : ux40 5 = (vI (wr (s35.2 - 1))) := hp 0 _ rfl rfl
     refine Zo hE Za (dl rfl) rfl (lk rfl f5) Tryz.underlying70 ty5 hi44.1 ?_; intro a hE
     exact ⟨Kept.refl _ _, _, _, rfl, hE, rfl⟩
    ·intro a w ux40 hE hM hp
     have f6 : ux40 6 = (ptr b1 (0 + ((wr (s35.2 - 1))).toNat * 1)) := hp 0 _ rfl rfl
     refine Zq (v := (vB x45)) hE Za (dl rfl) (lk rfl f6) ty5 rfl (At.vec (hM.rawAt (pre := [_])) hi44.2) ?_; intro a hE
     exact ⟨Kept.refl _ _, _, _, rfl, hE, rfl⟩
    ·intro a w ux40 hE hM hp
     have f3 : ux40 3 = v0_1 := hp 0 _ rfl rfl
     refine XI hE Za (dl rfl) (lk (lk rfl f3) hv49) ?_; intro a hE
     exact ⟨Kept.refl _ _, _, _, rfl, hE, rfl⟩
    ·intro a w ux40 hE hM hp
     have f8 : ux40 8 = (ptr pb47 0) := hp 0 _ rfl rfl
     refine Zg hE Za (dl rfl) (lk rfl f8) (fd244_0) ?_; intro a hE
     exact ⟨Kept.refl _ _, _, _, rfl, hE, rfl⟩
    ·intro a w ux40 hE hM hp
     have f7 : ux40 7 = (vB x45) := hp 1 _ rfl rfl
     have f9 : ux40 9 = (ptr pb47 (0 + 0)) := hp 0 _ rfl rfl
     refine Zo hE Za (dl rfl) (lk rfl f9) (lk rfl f7) Tryz.underlying167 ty5 hi57.1 ?_; intro a hE
     exact ⟨Kept.refl _ _, _, _, rfl, hE, rfl⟩
    ·intro a w ux40 hE hM hp
     have f10 : ux40 10 = (ptr pb47 (0 + 0 + ((bI x45)).toNat * 1)) := hp 0 _ rfl rfl
     refine Zq (v := (vB x58)) hE Za (dl rfl) (lk rfl f10) ty5 rfl (At.vec (At.cat (pre := []) (hM.atk hA51 hB52) cl0) hi57.2) ?_; intro a hE
     exact ⟨Kept.refl _ _, _, _, rfl, hE, rfl⟩
    ·intro a w ux40 hE hM hp
     have f2 : ux40 2 = (vB x42) := hp 0 _ rfl rfl
     have f11 : ux40 11 = (vB x58) := hp 1 _ rfl rfl
     refine Zh hE Za (dl rfl) (lk rfl f2) (lk rfl f11) (WK x42 x58) ?_; intro a hE
     exact ⟨Kept.refl _ _, _, _, rfl, hE, rfl⟩
    ·intro a w ux40 hE hM hp
     have f0 : ux40 0 = (vI s35.2) := hp 0 _ rfl rfl
     refine Zo hE Za (dl rfl) rfl (lk rfl f0) Tryz.underlying70 ty5 hi60.1 ?_; intro a hE
     exact ⟨Kept.refl _ _, _, _, rfl, hE, rfl⟩
    ·intro a w ux40 hE hM hg
     have f0 : ux40 0 = (vI s35.2) := hg 0 (by decide)
     have f1 : ux40 1 = (ptr b1 (0 + (s35.2).toNat * 1)) := hg 1 (by decide)
     have f2 : ux40 2 = (vB x42) := hg 2 (by decide)
     have f3 : ux40 3 = v0_1 := hg 3 (by decide)
     have f4 : ux40 4 = (vI s35.2) := hg 4 (by decide)
     have f5 : ux40 5 = (vI (wr (s35.2 - 1))) := hg 5 (by decide)
     have f6 : ux40 6 = (ptr b1 (0 + ((wr (s35.2 - 1))).toNat * 1)) := hg 6 (by decide)
     have f7 : ux40 7 = (vB x45) := hg 7 (by decide)
     have f8 : ux40 8 = (ptr pb47 0) := hg 8 (by decide)
     have f9 : ux40 9 = (ptr pb47 (0 + 0)) := hg 9 (by decide)
     have f10 : ux40 10 = (ptr pb47 (0 + 0 + ((bI x45)).toNat * 1)) := hg 10 (by decide)
     have f11 : ux40 11 = (vB x58) := hg 11 (by decide)
     have f12 : ux40 12 = (vB (x42 ^^^ x58)) := hg 12 (by decide)
     have f13 : ux40 13 = (ptr b1 (0 + (s35.2).toNat * 1)) := hg 13 (by decide)
     have hE := hE.sub (e' := [(26, (vI s35.2)), (27, (ptr b1 (0 + (s35.2).toNat * 1))), (28, (vB x42)), (29, v0_1), (30, (vI s35.2)), (31, (vI (wr (s35.2 - 1)))), (32, (ptr b1 (0 + ((wr (s35.2 - 1))).toNat * 1))), (33, (vB x45)), (34, (ptr pb47 0)), (35, (ptr pb47 (0 + 0))), (36, (ptr pb47 (0 + 0 + ((bI x45)).toNat * 1))), (37, (vB x58)), (38, (vB (x42 ^^^ x58))), (39, (ptr b1 (0 + (s35.2).toNat * 1))), (0, v0_1), (4, (ptr b1 0)), (6, (ptr b3 0)), (7, (vI s35.2)), (22, (vI s35.2)), (23, (vT (decide (s35.2 < 16))))]) ⟨lk rfl f0, lk rfl f1, lk rfl f2, lk rfl f3, lk rfl f4, lk rfl f5, lk rfl f6, lk rfl f7, lk rfl f8, lk rfl f9, lk rfl f10, lk rfl f11, lk rfl f12, lk rfl f13, rfl, rfl, rfl, rfl, rfl, rfl, trivial⟩
     have hM := hM.pull (pre := [_])
     refine Zp (seg := [(vB (x42 ^^^ x58))]) (cs' := Flat.enc (s35.1.setIfInBounds (s35.2).toNat (x42 ^^^ x58))) hE hM Za rfl rfl rfl ty5 rfl (ZO (v := s35.1) (x := x42 ^^^ x58) hi60.1) (Flat.cell (x42 ^^^ x58 : UInt8)) (ZI (v := s35.1) (x := x42 ^^^ x58) hi60.1) ?_; intro w a hM hE
     refine Zk (Yl (Zz (wp_region_lit (Zd hE Za (dl rfl) rfl ?_)))); intro a hE
     refine Zh hE Za (dl rfl) rfl rfl rfl ?_; intro a hE
     refine Ze hE Za (dl rfl) rfl ?_; intro a hE
     refine Zk (Zn ?_)
     have hM := hM.pull (pre := [_])
     exact ⟨_, (Option.some.inj hs36).symm, hE.sub ⟨rfl, rfl, rfl, rfl, trivial⟩, hM⟩
   ·intro hb39
    have hs36 := ZC hs36 hb39
    refine wp_exit (Zr (Zr (Yk ?_)))
    have ht63 := hx37 _ (Option.some.inj hs36).symm
    subst ht63
    refine Zn ?_
    exact ⟨hE.sub ⟨rfl, rfl, trivial⟩, hM⟩
  ·skip
   rintro a w ⟨hE, hM⟩
   refine Zz (Zc (Zm (cs := Flat.enc j32) hE Za (dl rfl) rfl ZF rfl (hM.rawAt (pre := [_])) (Flat.len _) ?_)); intro a hE
   refine Zp (seg := Flat.enc j32) (cs' := Flat.enc j32) hE hM Za rfl rfl rfl ZF (Flat.len _) (zle flq) (Flat.cell _) (Zl flq) ?_; intro w a hM hE
   refine Zf ?_
   have hr := Option.some.inj hF34
   subst hr
   have hq64 : Yq Tryz.prog _ _ (.cell 6 70) _ := ZQ hE rfl ZF rfl (hM.rawAt (pre := [])) (Flat.len _) rfl
   have hM := M.fst (l := []) hM
   exact wp_ret (Zy hE rfl hq64 ⟨_, rfl, rfl, hM.kept⟩)
noncomputable def Y6 (p0 : (Ref Gengine)) (p2 : Int) (s10 : (Vector UInt8 16) × (List (Vector UInt8 16)) × Int) : Option (Fl ((Vector UInt8 16) × (List (Vector UInt8 16)) × Int) (List (Vector UInt8 16))) :=
 if (decide (s10.2.2 ≤ p2)) = true then ((Xf p0 s10.1 s10.2.2).bind fun r17 => (app 16 s10.2.1 ([r17] : List (Vector UInt8 16))).bind fun l21 => some (Fl.nx (r17, (s10.2.1 ++ ([r17] : List (Vector UInt8 16))), wr (s10.2.2 + 1)))) else (some (Fl.ex s10.2.1))
noncomputable def Wb (p0 : (Ref Gengine)) (p1 : (Vector UInt8 16)) (p2 : Int) : Option ((List (Vector UInt8 16))) :=
 (ZJ (Y6 p0 p2) (p1, ([p1] : List (Vector UInt8 16)), 1) : Option ((List (Vector UInt8 16)))).bind fun j5 => some j5
theorem c_impl_engine_keys (w0 : World) (p0 : (Ref Gengine)) (v0_1 : Value) (hv0_1 : Ro w0 p0 [v0_1]) (p1 : (Vector UInt8 16)) (p2 : Int) (r : (List (Vector UInt8 16))) (hF : Wb p0 p1 p2 = some r) :
  Calls Tryz.prog 228 [v0_1, (Value.agg (Flat.enc p1).toArray), (vI p2)].toArray w0 (fun en w' => ∃ v, en = .returned v ∧ (∃ (y1 : Value), v = y1 ∧ Fr w0 w' [osl NoB (r : List (Vector UInt8 16)) y1] ∧ Kept (Old w0) w0 w')) := by
 refine ZA (n := 25) Tryz.func228 rfl rfl (Nat.le_of_ble_eq_true rfl) rfl ?_
 intro a hE
 have hM := M.start w0
 unfold Wb at hF
 refine Zc (ZV (cs := Flat.enc p1) hE hM Za (dl rfl) rfl rfl ?_); intro b1 w a hM hE
 refine Ze hE Za (dl rfl) rfl ?_; intro a hE
 refine Zf (Zc (Zm (cs := Flat.enc p1) hE Za (dl rfl) rfl ZF rfl (hM.rawAt (pre := [])) (Flat.len _) ?_)); intro a hE
 refine Ye (xs := [.tmp 9]) (l := ([p1] : List (Vector UInt8 16))) (vs := [(Value.agg (Flat.enc p1).toArray)]) hE hM Za (dl rfl) rfl rfl Tryz.underlying32 ZF rfl (by decide) rfl ?_; intro u3 w a hM hE
 refine Ze hE Za (dl rfl) rfl ?_; intro a hE
 refine Zf (wp_seq (Zc (Ze hE Za (dl rfl) rfl ?_))); intro a hE
 refine Zf ?_
 obtain ⟨j5, hl6, hF7⟩ := bind_some hF
 refine ZS (fun a w => ∃ (u8 : Value), Env 25 a [(7, u8)] ∧ M (Old w0) w0 w [osl NoB (j5 : List (Vector UInt8 16)) u8]) ?_ ?_
 ·skip
  refine wp_block ?_
  have hM := hM.pull (pre := [_])
  refine ZL (fun (s10 : (Vector UInt8 16) × (List (Vector UInt8 16)) × Int) a w => ∃ (u11 : Value), Env 25 a [(0, v0_1), (2, (vI p2)), (4, (ptr b1 0)), (7, u11), (8, (vI s10.2.2))] ∧ M (Old w0) w0 w [raw b1 (Flat.enc s10.1), osl NoB (s10.2.1 : List (Vector UInt8 16)) u11]) hl6 ⟨u3, hE.sub ⟨rfl, rfl, rfl, rfl, rfl, trivial⟩, hM⟩ ?_
  rintro s10 a w ⟨u11, hE, hM⟩ o15 hs13 hx14
  unfold Y6 at hs13
  refine wp_seq (Zc (Zd hE Za (dl rfl) rfl ?_)); intro a hE
  refine Zd hE Za (dl rfl) rfl ?_; intro a hE
  refine Zh hE Za (dl rfl) rfl rfl rfl ?_; intro a hE
  refine Zf ?_
  refine Zw hE rfl ?_ ?_
  ·intro hb16
   have hs13 := ZD hs13 hb16
   refine wp_skip (Zz (wp_seq (wp_block (Zc (Zd hE Za (dl rfl) rfl ?_))))); intro a hE
   refine Zm (cs := Flat.enc s10.1) hE Za (dl rfl) rfl ZF rfl (hM.rawAt (pre := [])) (Flat.len _) ?_; intro a hE
   refine Zd hE Za (dl rfl) rfl ?_; intro a hE
   obtain ⟨r17, e18, hs13⟩ := bind_some hs13
   refine Zs (vs := [v0_1, (Value.agg (Flat.enc s10.1).toArray), (vI s10.2.2)]) hE Za (dl rfl) rfl cb247 (c_impl_engine_nextKey _ p0 v0_1 (hM.rdo hv0_1) s10.1 s10.2.2 r17 e18) ?_
   rintro v w a ⟨rfl, hK⟩ hE
   have hM := hM.keep hK
   refine Zp (seg := Flat.enc r17) (cs' := Flat.enc r17) hE hM Za rfl rfl rfl ZF (Flat.len _) (zle flq) (Flat.cell _) (Zl flq) ?_; intro w a hM hE
   refine Zf (wp_region_lit (Zd hE Za (dl rfl) rfl ?_)); intro a hE
   refine Zm (cs := Flat.enc r17) hE Za (dl rfl) rfl ZF rfl (hM.rawAt (pre := [])) (Flat.len _) ?_; intro a hE
   refine Ye (xs := [.tmp 21]) (l := ([r17] : List (Vector UInt8 16))) (vs := [(Value.agg (Flat.enc r17).toArray)]) hE hM Za (dl rfl) rfl rfl Tryz.underlying32 ZF rfl (by decide) rfl ?_; intro u19 w a hM hE
   obtain ⟨l21, e22, hs13⟩ := bind_some hs13
   obtain ⟨e25, rfl⟩ := Yu e22
   have hM := hM.pull (pre := [_, _])
   refine Yj hE hM Za (dl rfl) rfl rfl (hM.sl (pre := [_]) noB) Tryz.underlying32 ZF rfl (by decide) e25 ?_; intro u23 w a hM hE
   refine Ze hE Za (dl rfl) rfl ?_; intro a hE
   refine Zk (Yl (Zz (wp_region_lit (Zd hE Za (dl rfl) rfl ?_)))); intro a hE
   refine Zh hE Za (dl rfl) rfl rfl rfl ?_; intro a hE
   refine Ze hE Za (dl rfl) rfl ?_; intro a hE
   refine Zk (Zn ?_)
   have hM := hM.pull (pre := [_, _])
   have hM := M.fst (l := [_, _]) hM
   exact ⟨_, (Option.some.inj hs13).symm, u23, hE.sub ⟨rfl, rfl, rfl, rfl, rfl, trivial⟩, hM⟩
  ·intro hb16
   have hs13 := ZC hs13 hb16
   refine wp_exit (Zr (Zr (Yk ?_)))
   have ht26 := hx14 _ (Option.some.inj hs13).symm
   subst ht26
   refine Zn ?_
   have hM := hM.pull (pre := [_])
   have hM := M.fst (l := [_]) hM
   exact ⟨u11, hE.sub ⟨rfl, trivial⟩, hM⟩
 ·skip
  rintro a w ⟨u8, hE, hM⟩
  refine Zz (Zc (Zd hE Za (dl rfl) rfl ?_)); intro a hE
  refine Ze hE Za (dl rfl) rfl ?_; intro a hE
  refine Zf ?_
  have hr := Option.some.inj hF7
  subst hr
  exact wp_ret (Zy hE rfl (Zu hE rfl) ⟨_, rfl, u8, rfl, hM.outF (Vm W2), hM.kept⟩)
noncomputable def Y1 (p0 : (Vector UInt8 16)) (p1 : (Vector UInt8 16)) (s12 : (Vector UInt8 16) × Int) : Option (Fl ((Vector UInt8 16) × Int) (Vector UInt8 16)) :=
 if (decide (s12.2 < 16)) = true then ((ZK p0 s12.2).bind fun x17 => (ZK p1 (bI x17)).bind fun x21 => (ZK s12.1 s12.2).bind fun x24 => some (Fl.nx ((s12.1.setIfInBounds (s12.2).toNat x21), wr (s12.2 + 1)))) else (some (Fl.ex s12.1))
noncomputable def X7 (p0 : (Vector UInt8 16)) (p1 : (Vector UInt8 16)) : Option ((Vector UInt8 16)) :=
 (ZJ (Y1 p0 p1) ((Vector.replicate 16 (0 : UInt8)), 0) : Option ((Vector UInt8 16))).bind fun j9 => some j9
theorem c_impl_Places_move (w0 : World) (p0 : (Vector UInt8 16)) (p1 : (Vector UInt8 16)) (r : (Vector UInt8 16)) (hF : X7 p0 p1 = some r) :
  Calls Tryz.prog 245 [(Value.agg (Flat.enc p0).toArray), (Value.agg (Flat.enc p1).toArray)].toArray w0 (fun en w' => ∃ v, en = .returned v ∧ (v = (Value.agg (Flat.enc r).toArray) ∧ Kept (Old w0) w0 w')) := by
 refine ZA (n := 21) Tryz.func245 rfl rfl (Nat.le_of_ble_eq_true rfl) rfl ?_
 intro a hE
 have hM := M.start w0
 unfold X7 at hF
 refine Zc (ZV (cs := Flat.enc p0) hE hM Za (dl rfl) rfl rfl ?_); intro b1 w a hM hE
 refine ZV (cs := Flat.enc p1) hE hM Za (dl rfl) rfl rfl ?_; intro b3 w a hM hE
 refine ZE hE hM Za (dl rfl) ZF ?_; intro b5 w a hM hE
 refine Zf (Zc (YO (parts := []) (vs := []) (cs := Flat.enc (Vector.replicate 16 (0 : UInt8))) hE Za (dl rfl) rfl rfl ZF rfl ty5 Yw ?_)); intro a hE
 refine ZE hE hM Za (dl rfl) ZF ?_; intro b7 w a hM hE
 refine Zp (seg := Flat.enc (Vector.replicate 16 (0 : UInt8))) (cs' := Flat.enc (Vector.replicate 16 (0 : UInt8))) hE hM Za rfl rfl rfl ZF (Flat.len _) (zle flq) (Flat.cell _) (Zl flq) ?_; intro w a hM hE
 refine Zf (wp_seq (Zc (Zm (cs := Flat.enc p0) hE Za (dl rfl) rfl ty171 rfl (hM.rawAt (pre := [_, _, _])) (Flat.len _) ?_))); intro a hE
 refine Zd hE Za (dl rfl) rfl ?_; intro a hE
 refine Zf ?_
 obtain ⟨j9, hl10, hF11⟩ := bind_some hF
 refine ZS (fun a w => Env 21 a [(4, (ptr b5 0)), (5, (ptr b7 0))] ∧ M (Old w0) w0 w [raw b7 (Flat.enc j9), raw b5 (Flat.enc (Vector.replicate 16 (0 : UInt8)))]) ?_ ?_
 ·skip
  refine wp_block ?_
  have hM := hM.pull (pre := [_, _])
  have hM := hM.pull (pre := [_, _])
  have hM := hM.pull (pre := [_, _])
  have hM := M.fst (l := [_, _, _]) hM
  refine ZL (fun (s12 : (Vector UInt8 16) × Int) a w => Env 21 a [(3, (ptr b3 0)), (4, (ptr b5 0)), (5, (ptr b7 0)), (9, (Value.agg (Flat.enc p0).toArray)), (10, (vI s12.2))] ∧ M (Old w0) w0 w [raw b7 (Flat.enc s12.1), raw b5 (Flat.enc (Vector.replicate 16 (0 : UInt8))), raw b3 (Flat.enc p1)]) hl10 ⟨hE.sub ⟨rfl, rfl, rfl, rfl, rfl, trivial⟩, hM⟩ ?_
  rintro s12 a w ⟨hE, hM⟩ o15 hs13 hx14
  unfold Y1 at hs13
  refine Zc (Zh hE Za (dl rfl) rfl rfl rfl ?_); intro a hE
  refine Zf (wp_seq ?_)
  refine Zw hE rfl ?_ ?_
  ·intro hb16
   have hs13 := ZD hs13 hb16
   refine wp_skip (Zz (wp_seq (wp_block (Zc (Zd hE Za (dl rfl) rfl ?_))))); intro a hE
   obtain ⟨x17, e18, hs13⟩ := bind_some hs13
   have hi19 := Zi e18
   refine s_indexV hE Za (dl rfl) rfl rfl Tryz.underlying171 ty5 rfl rfl hi19 rfl ?_; intro a hE
   refine Ze hE Za (dl rfl) rfl ?_; intro a hE
   refine Ze hE Za (dl rfl) rfl ?_; intro a hE
   refine Zf (wp_region_lit (Zd hE Za (dl rfl) rfl ?_)); intro a hE
   refine Zd hE Za (dl rfl) rfl ?_; intro a hE
   obtain ⟨x21, e22, hs13⟩ := bind_some hs13
   have hi20 := Zi e22
   refine Zo hE Za (dl rfl) rfl rfl Tryz.underlying70 ty5 hi20.1 ?_; intro a hE
   refine Zq (v := (vB x21)) hE Za (dl rfl) rfl ty5 rfl (At.vec (hM.rawAt (pre := [_, _])) hi20.2) ?_; intro a hE
   obtain ⟨x24, e25, hs13⟩ := bind_some hs13
   have hi23 := Zi e25
   refine Zo hE Za (dl rfl) rfl rfl Tryz.underlying70 ty5 hi23.1 ?_; intro a hE
   refine Zp (seg := [(vB x21)]) (cs' := Flat.enc (s12.1.setIfInBounds (s12.2).toNat x21)) hE hM Za rfl rfl rfl ty5 rfl (ZO (v := s12.1) (x := x21) hi23.1) (Flat.cell (x21 : UInt8)) (ZI (v := s12.1) (x := x21) hi23.1) ?_; intro w a hM hE
   refine Zk (Yl (Zz (wp_region_lit (Zh hE Za (dl rfl) rfl rfl rfl ?_)))); intro a hE
   refine Zd hE Za (dl rfl) rfl ?_; intro a hE
   refine Zk (Zn ?_)
   exact ⟨_, (Option.some.inj hs13).symm, hE.sub ⟨rfl, rfl, rfl, rfl, rfl, trivial⟩, hM⟩
  ·intro hb16
   have hs13 := ZC hs13 hb16
   refine wp_exit (Zr (Zr (Yk ?_)))
   have ht26 := hx14 _ (Option.some.inj hs13).symm
   subst ht26
   refine Zn ?_
   have hM := hM.pull (pre := [_])
   have hM := hM.pull (pre := [_])
   have hM := M.fst (l := [_, _]) hM
   exact ⟨hE.sub ⟨rfl, rfl, trivial⟩, hM⟩
 ·skip
  rintro a w ⟨hE, hM⟩
  refine Zz (Zc (Zm (cs := Flat.enc j9) hE Za (dl rfl) rfl ZF rfl (hM.rawAt (pre := [])) (Flat.len _) ?_)); intro a hE
  have hM := hM.pull (pre := [_])
  refine Zp (seg := Flat.enc j9) (cs' := Flat.enc j9) hE hM Za rfl rfl rfl ZF (Flat.len _) (zle flq) (Flat.cell _) (Zl flq) ?_; intro w a hM hE
  refine Zf ?_
  have hr := Option.some.inj hF11
  subst hr
  have hq27 : Yq Tryz.prog _ _ (.cell 4 70) _ := ZQ hE rfl ZF rfl (hM.rawAt (pre := [])) (Flat.len _) rfl
  have hM := M.fst (l := []) hM
  exact wp_ret (Zy hE rfl hq27 ⟨_, rfl, rfl, hM.kept⟩)
noncomputable def XE (p0 : (Ref (Vector (Vector (Vector UInt8 256) 4) 4))) (s4 : (Vector UInt8 16) × Int) (j9 : UInt8 × UInt8 × UInt8 × UInt8) (s29 : (Vector UInt8 16) × Int) : Option (Fl ((Vector UInt8 16) × Int) (Vector UInt8 16)) :=
 if (decide (s29.2 < 4)) = true then ((ZK p0.v s29.2).bind fun x42 => (ZK x42 (0 : Int)).bind fun x45 => (ZK x45 (bI j9.1)).bind fun x48 => (ZK p0.v s29.2).bind fun x57 => (ZK x57 (1 : Int)).bind fun x60 => (ZK x60 (bI j9.2.1)).bind fun x63 => (ZK p0.v s29.2).bind fun x72 => (ZK x72 (2 : Int)).bind fun x75 => (ZK x75 (bI j9.2.2.1)).bind fun x78 => (ZK p0.v s29.2).bind fun x87 => (ZK x87 (3 : Int)).bind fun x90 => (ZK x90 (bI j9.2.2.2)).bind fun x93 => (ZK s29.1 (wr (s4.2 + s29.2))).bind fun x95 => some (Fl.nx ((s29.1.setIfInBounds ((wr (s4.2 + s29.2))).toNat (((x48 ^^^ x63) ^^^ x78) ^^^ x93)), wr (s29.2 + 1)))) else (some (Fl.ex s29.1))
noncomputable def XB (p0 : (Ref (Vector (Vector (Vector UInt8 256) 4) 4))) (s4 : (Vector UInt8 16) × Int) : Option (Fl ((Vector UInt8 16) × Int) (Vector UInt8 16)) :=
 if (decide (s4.2 < (s4.1.toList.length : Int))) = true then (((ZK s4.1 s4.2).bind fun x13 => (ZK s4.1 (wr (s4.2 + 1))).bind fun x16 => (ZK s4.1 (wr (s4.2 + 2))).bind fun x19 => (ZK s4.1 (wr (s4.2 + 3))).bind fun x22 => some (x13, x16, x19, x22) : Option (UInt8 × UInt8 × UInt8 × UInt8)).bind fun j9 => (ZJ (XE p0 s4 j9) (s4.1, 0) : Option ((Vector UInt8 16))).bind fun j26 => some (Fl.nx (j26, wr (s4.2 + 4)))) else (some (Fl.ex s4.1))
noncomputable def WX (p0 : (Ref (Vector (Vector (Vector UInt8 256) 4) 4))) (p1 : (Vector UInt8 16)) : Option ((Vector UInt8 16)) :=
 (ZJ (XB p0) (p1, 0) : Option ((Vector UInt8 16))).bind fun j1 => some j1
end Go.Proofs.YtifdeoikcebbjaaGreat
