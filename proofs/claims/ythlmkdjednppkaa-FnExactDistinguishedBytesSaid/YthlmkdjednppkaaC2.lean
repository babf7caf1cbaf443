/- The walk of what the law reaches: contracts of functions. -/
import Derived.Test.YthlmkdjednppkaaC1
set_option linter.unusedVariables false
set_option linter.unusedSimpArgs false
namespace Go.Proofs.Ythlmkdjednppkaa
open Go
set_option maxRecDepth 20000 in
set_option maxHeartbeats 400000 in
theorem c_spec_l03Mix (w0 : World) (p0 : Int) (p1 : (Vector (Vector UInt8 4) 4)) (p2 : (Vector UInt8 16)) (r : (Vector UInt8 16)) (hF : F_spec_l03Mix p0 p1 p2 = some r) :
    Calls Try.prog 159 [(vI p0), (Value.agg (Flat.enc p1).toArray), (Value.agg (Flat.enc p2).toArray)].toArray w0 (fun en w' => ∃ v, en = .returned v ∧ (v = (Value.agg (Flat.enc r).toArray) ∧ Kept (Old w0) w0 w')) := by
  refine c_enter (n := 50) Try.func159 rfl rfl (Nat.le_of_ble_eq_true rfl) rfl ?_
  intro a hE
  have hM := M.start w0
  unfold F_spec_l03Mix at hF
  refine c_region ?_
  refine s_box (cs := Flat.enc p1) hE hM goes_none (by decide) rfl rfl ?_; intro b1 w a hM hE
  refine s_box (cs := Flat.enc p2) hE hM goes_none (by decide) rfl rfl ?_; intro b3 w a hM hE
  refine s_alloc hE hM goes_none (by decide) ty67 ?_; intro b5 w a hM hE
  refine c_fin ?_
  refine c_region ?_
  refine s_buildA (parts := []) (vs := []) (cs := Flat.enc (Vector.replicate 16 (0 : UInt8))) hE goes_none (by decide) rfl rfl ty67 rfl ty5 filla_nil ?_; intro a hE
  refine s_alloc hE hM goes_none (by decide) ty67 ?_; intro b7 w a hM hE
  refine s_store (seg := Flat.enc (Vector.replicate 16 (0 : UInt8))) (cs' := Flat.enc (Vector.replicate 16 (0 : UInt8))) hE hM goes_none rfl rfl rfl ty67 (Flat.len _) (Nat.le_of_eq ((Nat.zero_add _).trans (Eq.trans (Flat.len _) (Eq.symm (Flat.len _))))) (Flat.cell _) (splice_all (Eq.trans (Flat.len _) (Eq.symm (Flat.len _)))) ?_; intro w a hM hE
  refine c_fin ?_
  refine wp_seq ?_
  refine c_region ?_
  refine s_assign hE goes_none (by decide) rfl ?_; intro a hE
  refine c_fin ?_
  obtain ⟨j9, hl10, hF11⟩ := bind_some hF
  refine c_cut (fun a w => Env 50 a [(6, (ptr b5 0)), (7, (ptr b7 0))] ∧ M (Old w0) w0 w [raw b7 (Flat.enc j9), raw b5 (Flat.enc (Vector.replicate 16 (0 : UInt8)))]) ?_ ?_
  · skip
    refine wp_block ?_
    refine c_loop (fun (s12 : (Vector UInt8 16) × Int) a w => Env 50 a [(0, (vI p0)), (4, (ptr b1 0)), (5, (ptr b3 0)), (6, (ptr b5 0)), (7, (ptr b7 0)), (8, (vI s12.2))] ∧ M (Old w0) w0 w [raw b7 (Flat.enc s12.1), raw b5 (Flat.enc (Vector.replicate 16 (0 : UInt8))), raw b3 (Flat.enc p2), raw b1 (Flat.enc p1)]) hl10 ⟨hE.sub ⟨rfl, rfl, rfl, rfl, rfl, rfl, trivial⟩, hM⟩ ?_
    rintro s12 a w ⟨hE, hM⟩ o15 hs13 hx14
    unfold L0_spec_l03Mix at hs13
    refine wp_seq ?_
    refine c_region ?_
    refine s_move hE goes_none (by decide) rfl ?_; intro a hE
    refine s_int hE goes_none (by decide) rfl rfl rfl ?_; intro a hE
    refine c_fin ?_
    refine c_cond hE rfl ?_ ?_
    · intro hb16
      have hs13 := ite_t hs13 hb16
      refine wp_skip ?_
      refine c_nx ?_
      refine wp_seq ?_
      refine wp_block ?_
      refine c_region ?_
      refine s_assign hE goes_none (by decide) rfl ?_; intro a hE
      refine c_fin ?_
      obtain ⟨j17, hl18, hF19⟩ := bind_some hs13
      refine c_cut (fun a w => Env 50 a [(0, (vI p0)), (4, (ptr b1 0)), (5, (ptr b3 0)), (6, (ptr b5 0)), (7, (ptr b7 0)), (8, (vI s12.2))] ∧ M (Old w0) w0 w [raw b7 (Flat.enc j17), raw b5 (Flat.enc (Vector.replicate 16 (0 : UInt8))), raw b3 (Flat.enc p2), raw b1 (Flat.enc p1)]) ?_ ?_
      · skip
        refine wp_block ?_
        refine c_loop (fun (s20 : (Vector UInt8 16) × Int) a w => Env 50 a [(0, (vI p0)), (4, (ptr b1 0)), (5, (ptr b3 0)), (6, (ptr b5 0)), (7, (ptr b7 0)), (8, (vI s12.2)), (9, (vI s20.2))] ∧ M (Old w0) w0 w [raw b7 (Flat.enc s20.1), raw b5 (Flat.enc (Vector.replicate 16 (0 : UInt8))), raw b3 (Flat.enc p2), raw b1 (Flat.enc p1)]) hl18 ⟨hE.sub ⟨rfl, rfl, rfl, rfl, rfl, rfl, rfl, trivial⟩, hM⟩ ?_
        rintro s20 a w ⟨hE, hM⟩ o23 hs21 hx22
        unfold L1_spec_l03Mix at hs21
        refine wp_seq ?_
        refine c_region ?_
        refine s_move hE goes_none (by decide) rfl ?_; intro a hE
        refine s_int hE goes_none (by decide) rfl rfl rfl ?_; intro a hE
        refine c_fin ?_
        refine c_cond hE rfl ?_ ?_
        · intro hb24
          have hs21 := ite_t hs21 hb24
          refine wp_skip ?_
          refine c_nx ?_
          refine wp_seq ?_
          refine wp_block ?_
          refine c_region ?_
          refine s_assign hE goes_none (by decide) rfl ?_; intro a hE
          refine c_fin ?_
          obtain ⟨j25, hl26, hF27⟩ := bind_some hs21
          refine c_cut (fun a w => Env 50 a [(0, (vI p0)), (4, (ptr b1 0)), (5, (ptr b3 0)), (6, (ptr b5 0)), (7, (ptr b7 0)), (8, (vI s12.2)), (9, (vI s20.2))] ∧ M (Old w0) w0 w [raw b7 (Flat.enc j25), raw b5 (Flat.enc (Vector.replicate 16 (0 : UInt8))), raw b3 (Flat.enc p2), raw b1 (Flat.enc p1)]) ?_ ?_
          · skip
            refine wp_block ?_
            refine c_loop (fun (s28 : (Vector UInt8 16) × Int) a w => Env 50 a [(0, (vI p0)), (4, (ptr b1 0)), (5, (ptr b3 0)), (6, (ptr b5 0)), (7, (ptr b7 0)), (8, (vI s12.2)), (9, (vI s20.2)), (10, (vI s28.2))] ∧ M (Old w0) w0 w [raw b7 (Flat.enc s28.1), raw b5 (Flat.enc (Vector.replicate 16 (0 : UInt8))), raw b3 (Flat.enc p2), raw b1 (Flat.enc p1)]) hl26 ⟨hE.sub ⟨rfl, rfl, rfl, rfl, rfl, rfl, rfl, rfl, trivial⟩, hM⟩ ?_
            rintro s28 a w ⟨hE, hM⟩ o31 hs29 hx30
            unfold L2_spec_l03Mix at hs29
            refine wp_seq ?_
            refine c_region ?_
            refine s_move hE goes_none (by decide) rfl ?_; intro a hE
            refine s_int hE goes_none (by decide) rfl rfl rfl ?_; intro a hE
            refine c_fin ?_
            refine c_cond hE rfl ?_ ?_
            · intro hb32
              have hs29 := ite_t hs29 hb32
              refine wp_skip ?_
              refine c_nx ?_
              refine wp_seq ?_
              refine wp_block ?_
              obtain ⟨x35, e36, hs29⟩ := bind_some hs29
              have hi34 := vidx_some e36
              obtain ⟨x38, e39, hs29⟩ := bind_some hs29
              have hi37 := vidx_some e39
              obtain ⟨x41, e42, hs29⟩ := bind_some hs29
              have hi40 := vidx_some e42
              obtain ⟨x44, e45, hs29⟩ := bind_some hs29
              have hi43 := vidx_some e45
              obtain ⟨r46, e47, hs29⟩ := bind_some hs29
              obtain ⟨x49, e50, hs29⟩ := bind_some hs29
              have hi48 := vidx_some e50
              refine c_draw (n := 50) (hd := [_, _, _, _, _, _, _, _, _, _, _, _, _, _, _, _, _, _, _, _, _, _, _, _, _]) (tl := [_]) hmix rfl rfl [24, 25, 26, 27, 28, 29, 30, 31, 32, 33, 34, 35, 36, 37, 38, 39, 40, 41, 42, 43, 44, 45, 46, 47, 48] (by decide) (fun w => M (Old w0) w0 w [raw b7 (Flat.enc s28.1), raw b5 (Flat.enc (Vector.replicate 16 (0 : UInt8))), raw b3 (Flat.enc p2), raw b1 (Flat.enc p1)]) (fun j => ([fun v _ => v = (vI s12.2), fun v _ => v = (vI (wr (4 * s12.2))), fun v _ => v = (vI s20.2), fun v _ => v = (vI (wr ((wr (4 * s12.2)) + s20.2))), fun v _ => v = (vI s12.2), fun v _ => v = (vI (wr (4 * s12.2))), fun v _ => v = (vI s20.2), fun v _ => v = (vI (wr ((wr (4 * s12.2)) + s20.2))), fun v _ => v = (ptr b7 (0 + ((wr ((wr (4 * s12.2)) + s20.2))).toNat * 1)), fun v _ => v = (vB x35), fun v _ => v = (vI p0), fun v _ => v = (vI s20.2), fun v _ => v = (vI s28.2), fun v _ => v = (ptr b1 (0 + (s20.2).toNat * 4)), fun v _ => v = (ptr b1 (0 + (s20.2).toNat * 4 + (s28.2).toNat * 1)), fun v _ => v = (vB x41), fun v _ => v = (vI s12.2), fun v _ => v = (vI (wr (4 * s12.2))), fun v _ => v = (vI s28.2), fun v _ => v = (vI (wr ((wr (4 * s12.2)) + s28.2))), fun v _ => v = (ptr b3 (0 + ((wr ((wr (4 * s12.2)) + s28.2))).toNat * 1)), fun v _ => v = (vB x44), fun v _ => v = (vB r46), fun v _ => v = (vB (x35 ^^^ r46)), fun v _ => v = (ptr b7 (0 + ((wr ((wr (4 * s12.2)) + s20.2))).toNat * 1))] : List (Value → World → Prop)).getD j (fun _ _ => True)) (fun _ _ h hk => h.keep hk) (gup (gupE (gupE (gupE (gupE (gupE (gupE (gupE (gupE (gupE (gupE (gupE (gupE (gupE (gupE (gupE (gupE (gupE (gupE (gupE (gupE (gupE (gupE (gupE (gupE (gupE gupN)))))))))))))))))))))))))) hE hM.drew (steps_of (steps_cons ?_ (steps_cons ?_ (steps_cons ?_ (steps_cons ?_ (steps_cons ?_ (steps_cons ?_ (steps_cons ?_ (steps_cons ?_ (steps_cons ?_ (steps_cons ?_ (steps_cons ?_ (steps_cons ?_ (steps_cons ?_ (steps_cons ?_ (steps_cons ?_ (steps_cons ?_ (steps_cons ?_ (steps_cons ?_ (steps_cons ?_ (steps_cons ?_ (steps_cons ?_ (steps_cons ?_ (steps_cons ?_ (steps_cons ?_ (steps_cons ?_ steps_nil)))))))))))))))))))))))))) ?_
              · intro a w ux33 hE hM hp
                refine s_move hE goes_none (by decide) rfl ?_; intro a hE
                exact ⟨Kept.refl _ _, _, _, rfl, hE, rfl⟩
              · intro a w ux33 hE hM hp
                have f0 : ux33 0 = (vI s12.2) := hp 0 _ rfl rfl
                refine s_int hE goes_none (by decide) rfl (lk rfl f0) rfl ?_; intro a hE
                exact ⟨Kept.refl _ _, _, _, rfl, hE, rfl⟩
              · intro a w ux33 hE hM hp
                refine s_move hE goes_none (by decide) rfl ?_; intro a hE
                exact ⟨Kept.refl _ _, _, _, rfl, hE, rfl⟩
              · intro a w ux33 hE hM hp
                have f1 : ux33 1 = (vI (wr (4 * s12.2))) := hp 0 _ rfl rfl
                have f2 : ux33 2 = (vI s20.2) := hp 1 _ rfl rfl
                refine s_int hE goes_none (by decide) (lk rfl f1) (lk rfl f2) rfl ?_; intro a hE
                exact ⟨Kept.refl _ _, _, _, rfl, hE, rfl⟩
              · intro a w ux33 hE hM hp
                refine s_move hE goes_none (by decide) rfl ?_; intro a hE
                exact ⟨Kept.refl _ _, _, _, rfl, hE, rfl⟩
              · intro a w ux33 hE hM hp
                have f4 : ux33 4 = (vI s12.2) := hp 0 _ rfl rfl
                refine s_int hE goes_none (by decide) rfl (lk rfl f4) rfl ?_; intro a hE
                exact ⟨Kept.refl _ _, _, _, rfl, hE, rfl⟩
              · intro a w ux33 hE hM hp
                refine s_move hE goes_none (by decide) rfl ?_; intro a hE
                exact ⟨Kept.refl _ _, _, _, rfl, hE, rfl⟩
              · intro a w ux33 hE hM hp
                have f5 : ux33 5 = (vI (wr (4 * s12.2))) := hp 0 _ rfl rfl
                have f6 : ux33 6 = (vI s20.2) := hp 1 _ rfl rfl
                refine s_int hE goes_none (by decide) (lk rfl f5) (lk rfl f6) rfl ?_; intro a hE
                exact ⟨Kept.refl _ _, _, _, rfl, hE, rfl⟩
              · intro a w ux33 hE hM hp
                have f7 : ux33 7 = (vI (wr ((wr (4 * s12.2)) + s20.2))) := hp 0 _ rfl rfl
                refine s_indexA hE goes_none (by decide) rfl (lk rfl f7) Try.underlying67 ty5 hi34.1 ?_; intro a hE
                exact ⟨Kept.refl _ _, _, _, rfl, hE, rfl⟩
              · intro a w ux33 hE hM hp
                have f8 : ux33 8 = (ptr b7 (0 + ((wr ((wr (4 * s12.2)) + s20.2))).toNat * 1)) := hp 0 _ rfl rfl
                refine s_load (v := (vB x35)) hE goes_none (by decide) (lk rfl f8) ty5 rfl (At.vec (hM.rawAt (pre := [])) hi34.2) ?_; intro a hE
                exact ⟨Kept.refl _ _, _, _, rfl, hE, rfl⟩
              · intro a w ux33 hE hM hp
                refine s_move hE goes_none (by decide) rfl ?_; intro a hE
                exact ⟨Kept.refl _ _, _, _, rfl, hE, rfl⟩
              · intro a w ux33 hE hM hp
                refine s_move hE goes_none (by decide) rfl ?_; intro a hE
                exact ⟨Kept.refl _ _, _, _, rfl, hE, rfl⟩
              · intro a w ux33 hE hM hp
                refine s_move hE goes_none (by decide) rfl ?_; intro a hE
                exact ⟨Kept.refl _ _, _, _, rfl, hE, rfl⟩
              · intro a w ux33 hE hM hp
                have f11 : ux33 11 = (vI s20.2) := hp 0 _ rfl rfl
                refine s_indexA hE goes_none (by decide) rfl (lk rfl f11) Try.underlying55 ty44 hi37.1 ?_; intro a hE
                exact ⟨Kept.refl _ _, _, _, rfl, hE, rfl⟩
              · intro a w ux33 hE hM hp
                have f12 : ux33 12 = (vI s28.2) := hp 1 _ rfl rfl
                have f13 : ux33 13 = (ptr b1 (0 + (s20.2).toNat * 4)) := hp 0 _ rfl rfl
                refine s_indexA hE goes_none (by decide) (lk rfl f13) (lk rfl f12) Try.underlying44 ty5 hi40.1 ?_; intro a hE
                exact ⟨Kept.refl _ _, _, _, rfl, hE, rfl⟩
              · intro a w ux33 hE hM hp
                have f14 : ux33 14 = (ptr b1 (0 + (s20.2).toNat * 4 + (s28.2).toNat * 1)) := hp 0 _ rfl rfl
                refine s_load (v := (vB x41)) hE goes_none (by decide) (lk rfl f14) ty5 rfl (At.vec (At.vec (hM.rawAt (pre := [_, _, _])) hi37.2) hi40.2) ?_; intro a hE
                exact ⟨Kept.refl _ _, _, _, rfl, hE, rfl⟩
              · intro a w ux33 hE hM hp
                refine s_move hE goes_none (by decide) rfl ?_; intro a hE
                exact ⟨Kept.refl _ _, _, _, rfl, hE, rfl⟩
              · intro a w ux33 hE hM hp
                have f16 : ux33 16 = (vI s12.2) := hp 0 _ rfl rfl
                refine s_int hE goes_none (by decide) rfl (lk rfl f16) rfl ?_; intro a hE
                exact ⟨Kept.refl _ _, _, _, rfl, hE, rfl⟩
              · intro a w ux33 hE hM hp
                refine s_move hE goes_none (by decide) rfl ?_; intro a hE
                exact ⟨Kept.refl _ _, _, _, rfl, hE, rfl⟩
              · intro a w ux33 hE hM hp
                have f17 : ux33 17 = (vI (wr (4 * s12.2))) := hp 0 _ rfl rfl
                have f18 : ux33 18 = (vI s28.2) := hp 1 _ rfl rfl
                refine s_int hE goes_none (by decide) (lk rfl f17) (lk rfl f18) rfl ?_; intro a hE
                exact ⟨Kept.refl _ _, _, _, rfl, hE, rfl⟩
              · intro a w ux33 hE hM hp
                have f19 : ux33 19 = (vI (wr ((wr (4 * s12.2)) + s28.2))) := hp 0 _ rfl rfl
                refine s_indexA hE goes_none (by decide) rfl (lk rfl f19) Try.underlying67 ty5 hi43.1 ?_; intro a hE
                exact ⟨Kept.refl _ _, _, _, rfl, hE, rfl⟩
              · intro a w ux33 hE hM hp
                have f20 : ux33 20 = (ptr b3 (0 + ((wr ((wr (4 * s12.2)) + s28.2))).toNat * 1)) := hp 0 _ rfl rfl
                refine s_load (v := (vB x44)) hE goes_none (by decide) (lk rfl f20) ty5 rfl (At.vec (hM.rawAt (pre := [_, _])) hi43.2) ?_; intro a hE
                exact ⟨Kept.refl _ _, _, _, rfl, hE, rfl⟩
              · intro a w ux33 hE hM hp
                have f10 : ux33 10 = (vI p0) := hp 0 _ rfl rfl
                have f15 : ux33 15 = (vB x41) := hp 1 _ rfl rfl
                have f21 : ux33 21 = (vB x44) := hp 2 _ rfl rfl
                refine s_call (vs := [(vI p0), (vB x41), (vB x44)]) hE goes_none (by decide) (evs_of (evsC (lk rfl f10) (evsC (lk rfl f15) (evsC (lk rfl f21) evsN)))) cb183 (c_spec_l01Times _ p0 x41 x44 r46 e47) ?_
                rintro v w a ⟨rfl, hK⟩ hE
                exact ⟨hK, _, _, rfl, hE, rfl⟩
              · intro a w ux33 hE hM hp
                have f9 : ux33 9 = (vB x35) := hp 0 _ rfl rfl
                have f22 : ux33 22 = (vB r46) := hp 1 _ rfl rfl
                refine s_int hE goes_none (by decide) (lk rfl f9) (lk rfl f22) (bB_xor x35 r46) ?_; intro a hE
                exact ⟨Kept.refl _ _, _, _, rfl, hE, rfl⟩
              · intro a w ux33 hE hM hp
                have f3 : ux33 3 = (vI (wr ((wr (4 * s12.2)) + s20.2))) := hp 0 _ rfl rfl
                refine s_indexA hE goes_none (by decide) rfl (lk rfl f3) Try.underlying67 ty5 hi48.1 ?_; intro a hE
                exact ⟨Kept.refl _ _, _, _, rfl, hE, rfl⟩
              · intro a w ux33 hE hM hg
                have f0 : ux33 0 = (vI s12.2) := hg 0 (by decide)
                have f1 : ux33 1 = (vI (wr (4 * s12.2))) := hg 1 (by decide)
                have f2 : ux33 2 = (vI s20.2) := hg 2 (by decide)
                have f3 : ux33 3 = (vI (wr ((wr (4 * s12.2)) + s20.2))) := hg 3 (by decide)
                have f4 : ux33 4 = (vI s12.2) := hg 4 (by decide)
                have f5 : ux33 5 = (vI (wr (4 * s12.2))) := hg 5 (by decide)
                have f6 : ux33 6 = (vI s20.2) := hg 6 (by decide)
                have f7 : ux33 7 = (vI (wr ((wr (4 * s12.2)) + s20.2))) := hg 7 (by decide)
                have f8 : ux33 8 = (ptr b7 (0 + ((wr ((wr (4 * s12.2)) + s20.2))).toNat * 1)) := hg 8 (by decide)
                have f9 : ux33 9 = (vB x35) := hg 9 (by decide)
                have f10 : ux33 10 = (vI p0) := hg 10 (by decide)
                have f11 : ux33 11 = (vI s20.2) := hg 11 (by decide)
                have f12 : ux33 12 = (vI s28.2) := hg 12 (by decide)
                have f13 : ux33 13 = (ptr b1 (0 + (s20.2).toNat * 4)) := hg 13 (by decide)
                have f14 : ux33 14 = (ptr b1 (0 + (s20.2).toNat * 4 + (s28.2).toNat * 1)) := hg 14 (by decide)
                have f15 : ux33 15 = (vB x41) := hg 15 (by decide)
                have f16 : ux33 16 = (vI s12.2) := hg 16 (by decide)
                have f17 : ux33 17 = (vI (wr (4 * s12.2))) := hg 17 (by decide)
                have f18 : ux33 18 = (vI s28.2) := hg 18 (by decide)
                have f19 : ux33 19 = (vI (wr ((wr (4 * s12.2)) + s28.2))) := hg 19 (by decide)
                have f20 : ux33 20 = (ptr b3 (0 + ((wr ((wr (4 * s12.2)) + s28.2))).toNat * 1)) := hg 20 (by decide)
                have f21 : ux33 21 = (vB x44) := hg 21 (by decide)
                have f22 : ux33 22 = (vB r46) := hg 22 (by decide)
                have f23 : ux33 23 = (vB (x35 ^^^ r46)) := hg 23 (by decide)
                have f24 : ux33 24 = (ptr b7 (0 + ((wr ((wr (4 * s12.2)) + s20.2))).toNat * 1)) := hg 24 (by decide)
                have hE := hE.sub (e' := [(24, (vI s12.2)), (25, (vI (wr (4 * s12.2)))), (26, (vI s20.2)), (27, (vI (wr ((wr (4 * s12.2)) + s20.2)))), (28, (vI s12.2)), (29, (vI (wr (4 * s12.2)))), (30, (vI s20.2)), (31, (vI (wr ((wr (4 * s12.2)) + s20.2)))), (32, (ptr b7 (0 + ((wr ((wr (4 * s12.2)) + s20.2))).toNat * 1))), (33, (vB x35)), (34, (vI p0)), (35, (vI s20.2)), (36, (vI s28.2)), (37, (ptr b1 (0 + (s20.2).toNat * 4))), (38, (ptr b1 (0 + (s20.2).toNat * 4 + (s28.2).toNat * 1))), (39, (vB x41)), (40, (vI s12.2)), (41, (vI (wr (4 * s12.2)))), (42, (vI s28.2)), (43, (vI (wr ((wr (4 * s12.2)) + s28.2)))), (44, (ptr b3 (0 + ((wr ((wr (4 * s12.2)) + s28.2))).toNat * 1))), (45, (vB x44)), (46, (vB r46)), (47, (vB (x35 ^^^ r46))), (48, (ptr b7 (0 + ((wr ((wr (4 * s12.2)) + s20.2))).toNat * 1))), (0, (vI p0)), (4, (ptr b1 0)), (5, (ptr b3 0)), (6, (ptr b5 0)), (7, (ptr b7 0)), (8, (vI s12.2)), (9, (vI s20.2)), (10, (vI s28.2)), (20, (vI s28.2)), (21, (vT (decide (s28.2 < 4))))]) ⟨lk rfl f0, lk rfl f1, lk rfl f2, lk rfl f3, lk rfl f4, lk rfl f5, lk rfl f6, lk rfl f7, lk rfl f8, lk rfl f9, lk rfl f10, lk rfl f11, lk rfl f12, lk rfl f13, lk rfl f14, lk rfl f15, lk rfl f16, lk rfl f17, lk rfl f18, lk rfl f19, lk rfl f20, lk rfl f21, lk rfl f22, lk rfl f23, lk rfl f24, rfl, rfl, rfl, rfl, rfl, rfl, rfl, rfl, rfl, rfl, trivial⟩
                refine s_store (seg := [(vB (x35 ^^^ r46))]) (cs' := Flat.enc (s28.1.setIfInBounds ((wr ((wr (4 * s12.2)) + s20.2))).toNat (x35 ^^^ r46))) hE hM goes_none rfl rfl rfl ty5 rfl (fit_vec (v := s28.1) (x := x35 ^^^ r46) hi48.1) (Flat.cell (x35 ^^^ r46 : UInt8)) (splice_vec0 (v := s28.1) (x := x35 ^^^ r46) hi48.1) ?_; intro w a hM hE
                refine c_fin0 ?_
                refine c_nb ?_
                refine c_nx ?_
                refine wp_region_lit ?_
                refine s_move hE goes_none (by decide) rfl ?_; intro a hE
                refine s_int hE goes_none (by decide) rfl rfl rfl ?_; intro a hE
                refine s_assign hE goes_none (by decide) rfl ?_; intro a hE
                refine c_fin0 ?_
                refine c_mid ?_
                exact ⟨_, (Option.some.inj hs29).symm, hE.sub ⟨rfl, rfl, rfl, rfl, rfl, rfl, rfl, rfl, trivial⟩, hM⟩
            · intro hb32
              have hs29 := ite_f hs29 hb32
              refine wp_exit (e_then (e_then (e_eq ?_)))
              have ht51 := hx30 _ (Option.some.inj hs29).symm
              subst ht51
              refine c_mid ?_
              exact ⟨hE.sub ⟨rfl, rfl, rfl, rfl, rfl, rfl, rfl, trivial⟩, hM⟩
          · skip
            rintro a w ⟨hE, hM⟩
            refine c_nb ?_
            refine c_nx ?_
            refine wp_region_lit ?_
            refine s_move hE goes_none (by decide) rfl ?_; intro a hE
            refine s_int hE goes_none (by decide) rfl rfl rfl ?_; intro a hE
            refine s_assign hE goes_none (by decide) rfl ?_; intro a hE
            refine c_fin0 ?_
            refine c_mid ?_
            exact ⟨_, (Option.some.inj hF27).symm, hE.sub ⟨rfl, rfl, rfl, rfl, rfl, rfl, rfl, trivial⟩, hM⟩
        · intro hb24
          have hs21 := ite_f hs21 hb24
          refine wp_exit (e_then (e_then (e_eq ?_)))
          have ht52 := hx22 _ (Option.some.inj hs21).symm
          subst ht52
          refine c_mid ?_
          exact ⟨hE.sub ⟨rfl, rfl, rfl, rfl, rfl, rfl, trivial⟩, hM⟩
      · skip
        rintro a w ⟨hE, hM⟩
        refine c_nb ?_
        refine c_nx ?_
        refine wp_region_lit ?_
        refine s_move hE goes_none (by decide) rfl ?_; intro a hE
        refine s_int hE goes_none (by decide) rfl rfl rfl ?_; intro a hE
        refine s_assign hE goes_none (by decide) rfl ?_; intro a hE
        refine c_fin0 ?_
        refine c_mid ?_
        exact ⟨_, (Option.some.inj hF19).symm, hE.sub ⟨rfl, rfl, rfl, rfl, rfl, rfl, trivial⟩, hM⟩
    · intro hb16
      have hs13 := ite_f hs13 hb16
      refine wp_exit (e_then (e_then (e_eq ?_)))
      have ht53 := hx14 _ (Option.some.inj hs13).symm
      subst ht53
      refine c_mid ?_
      have hM := hM.pull (pre := [_])
      have hM := hM.pull (pre := [_])
      have hM := M.fst (l := [_, _]) hM
      exact ⟨hE.sub ⟨rfl, rfl, trivial⟩, hM⟩
  · skip
    rintro a w ⟨hE, hM⟩
    refine c_nx ?_
    refine c_region ?_
    refine s_loadA (cs := Flat.enc j9) hE goes_none (by decide) rfl ty67 rfl (hM.rawAt (pre := [])) (Flat.len _) ?_; intro a hE
    have hM := hM.pull (pre := [_])
    refine s_store (seg := Flat.enc j9) (cs' := Flat.enc j9) hE hM goes_none rfl rfl rfl ty67 (Flat.len _) (Nat.le_of_eq ((Nat.zero_add _).trans (Eq.trans (Flat.len _) (Eq.symm (Flat.len _))))) (Flat.cell _) (splice_all (Eq.trans (Flat.len _) (Eq.symm (Flat.len _)))) ?_; intro w a hM hE
    refine c_fin ?_
    have hr := Option.some.inj hF11
    subst hr
    have hq54 : ResIs Try.prog _ _ (.cell 6 67) _ := res_cell hE rfl ty67 rfl (hM.rawAt (pre := [])) (Flat.len _) rfl
    have hM := M.fst (l := []) hM
    exact wp_ret (k_ret1 hE rfl hq54 ⟨_, rfl, rfl, hM.kept⟩)
noncomputable def L0_spec_l04Encipher (p0 : GCipher) (p3 : Int) (r9 : (List (Vector UInt8 16))) (s25 : (Vector UInt8 16) × Int) : Option (Fl ((Vector UInt8 16) × Int) (Vector UInt8 16)) :=
  if (decide (s25.2 ≤ p3)) = true then ((((F_spec_l04Boxes p0.Box s25.1).bind fun (r37 : (Vector UInt8 16)) => (F_spec_l03Move p0.Places r37).bind fun (r39 : (Vector UInt8 16)) => some r39 : Option ((Vector UInt8 16))).bind fun (j33 : (Vector UInt8 16)) => (if (decide (s25.2 < p3)) = true then ((F_spec_l03Mix p0.Field p0.Mix j33).bind fun (r46 : (Vector UInt8 16)) => some r46) else (some j33) : Option ((Vector UInt8 16))).bind fun (j42 : (Vector UInt8 16)) => (idx r9 s25.2).bind fun (x51 : (Vector UInt8 16)) => (F_spec_l01Xor j42 x51).bind fun (r54 : (Vector UInt8 16)) => some r54 : Option ((Vector UInt8 16))).bind fun (j30 : (Vector UInt8 16)) => some (Fl.nx (j30, wr (s25.2 + 1)))) else (some (Fl.ex s25.1))
noncomputable def F_spec_l04Encipher (p0 : GCipher) (p1 : (Vector UInt8 16)) (p2 : (Vector UInt8 16)) (p3 : Int) : Option ((Vector UInt8 16)) :=
  (F_spec_l04Keys p0 p1 p3).bind fun (r9 : (List (Vector UInt8 16))) => ((idx r9 (0 : Int)).bind fun (x16 : (Vector UInt8 16)) => (F_spec_l01Xor p2 x16).bind fun (r19 : (Vector UInt8 16)) => some r19 : Option ((Vector UInt8 16))).bind fun (j12 : (Vector UInt8 16)) => (iter (L0_spec_l04Encipher p0 p3 r9) (j12, 1) : Option ((Vector UInt8 16))).bind fun (j22 : (Vector UInt8 16)) => some j22
set_option maxRecDepth 20000 in
set_option maxHeartbeats 400000 in
theorem c_spec_l04Encipher (w0 : World) (p0 : GCipher) (p1 : (Vector UInt8 16)) (p2 : (Vector UInt8 16)) (p3 : Int) (r : (Vector UInt8 16)) (hF : F_spec_l04Encipher p0 p1 p2 p3 = some r) :
    Calls Try.prog 98 [(Value.agg (Flat.enc p0).toArray), (Value.agg (Flat.enc p1).toArray), (Value.agg (Flat.enc p2).toArray), (vI p3)].toArray w0 (fun en w' => ∃ v, en = .returned v ∧ (v = (Value.agg (Flat.enc r).toArray) ∧ Kept (Old w0) w0 w')) := by
  refine c_enter (n := 48) Try.func98 rfl rfl (Nat.le_of_ble_eq_true rfl) rfl ?_
  intro a hE
  have hM := M.start w0
  unfold F_spec_l04Encipher at hF
  refine c_region ?_
  refine s_box (cs := cat [[(vI p0.Field)], Flat.enc p0.Box, Flat.enc p0.Mix, Flat.enc p0.Places, [(vI p0.Rounds)]]) hE hM goes_none (by decide) rfl rfl ?_; intro b1 w a hM hE
  refine s_box (cs := Flat.enc p1) hE hM goes_none (by decide) rfl rfl ?_; intro b3 w a hM hE
  refine s_box (cs := Flat.enc p2) hE hM goes_none (by decide) rfl rfl ?_; intro b5 w a hM hE
  refine s_alloc hE hM goes_none (by decide) ty67 ?_; intro b7 w a hM hE
  refine c_fin ?_
  refine c_region ?_
  refine s_loadA (cs := Flat.enc p0) hE goes_none (by decide) rfl ty58 rfl (hM.rawAt (pre := [_, _, _])) (cat_len (cl1 (n := 1) (m := 289) rfl (cl1 (n := 256) (m := 33) (Flat.len _) (cl1 (n := 16) (m := 17) (Flat.len _) (cl1 (n := 16) (m := 1) (Flat.len _) (cl1 (n := 1) (m := 0) rfl cl0)))))) ?_; intro a hE
  refine s_loadA (cs := Flat.enc p1) hE goes_none (by decide) rfl ty67 rfl (hM.rawAt (pre := [_, _])) (Flat.len _) ?_; intro a hE
  refine s_move hE goes_none (by decide) rfl ?_; intro a hE
  obtain ⟨r9, e10, hF⟩ := bind_some hF
  refine s_call (vs := [(Value.agg (Flat.enc p0).toArray), (Value.agg (Flat.enc p1).toArray), (vI p3)]) hE goes_none (by decide) rfl cb156 (c_spec_l04Keys _ p0 p1 p3 r9 e10) ?_
  rintro u11 w a ⟨_, rfl, hFr, hK⟩ hE
  have hM := hM.add hK hFr
  refine s_assign hE goes_none (by decide) rfl ?_; intro a hE
  refine c_fin ?_
  obtain ⟨j12, hl13, hF14⟩ := bind_some hF
  refine c_join (fun a w => Env 48 a [(3, (vI p3)), (4, (ptr b1 0)), (6, (ptr b5 0)), (8, (ptr b7 0)), (9, u11)] ∧ M (Old w0) w0 w [osl NoB (r9 : List (Vector UInt8 16)) u11, raw b7 (Flat.enc (Vector.replicate 16 (0 : UInt8))), raw b5 (Flat.enc j12), raw b1 (cat [[(vI p0.Field)], Flat.enc p0.Box, Flat.enc p0.Mix, Flat.enc p0.Places, [(vI p0.Rounds)]])]) ?_ ?_
  · skip
    obtain ⟨x16, e17, hl13⟩ := bind_some hl13
    have hi18 := idx_some e17
    obtain ⟨r19, e20, hl13⟩ := bind_some hl13
    refine c_draw (n := 48) (hd := [_, _, _, _, _]) (tl := [_]) hmix rfl rfl [15, 16, 17, 18, 19] (by decide) (fun w => M (Old w0) w0 w [osl NoB (r9 : List (Vector UInt8 16)) u11, raw b7 (Flat.enc (Vector.replicate 16 (0 : UInt8))), raw b5 (Flat.enc p2), raw b3 (Flat.enc p1), raw b1 (cat [[(vI p0.Field)], Flat.enc p0.Box, Flat.enc p0.Mix, Flat.enc p0.Places, [(vI p0.Rounds)]])]) (fun j => ([fun v _ => v = (Value.agg (Flat.enc p2).toArray), fun v _ => v = u11, fun v _ => v = (ptr (sb u11) (so u11 + ((0 : Int)).toNat * 16)), fun v _ => v = (Value.agg (Flat.enc x16).toArray), fun v _ => v = (Value.agg (Flat.enc r19).toArray)] : List (Value → World → Prop)).getD j (fun _ _ => True)) (fun _ _ h hk => h.keep hk) (gup (gupE (gupE (gupE (gupE (gupE gupN)))))) hE hM.drew (steps_of (steps_cons ?_ (steps_cons ?_ (steps_cons ?_ (steps_cons ?_ (steps_cons ?_ steps_nil)))))) ?_
    · intro a w ux15 hE hM hp
      refine s_loadA (cs := Flat.enc p2) hE goes_none (by decide) rfl ty67 rfl (hM.rawAt (pre := [_, _])) (Flat.len _) ?_; intro a hE
      exact ⟨Kept.refl _ _, _, _, rfl, hE, rfl⟩
    · intro a w ux15 hE hM hp
      refine s_move hE goes_none (by decide) rfl ?_; intro a hE
      exact ⟨Kept.refl _ _, _, _, rfl, hE, rfl⟩
    · intro a w ux15 hE hM hp
      have f1 : ux15 1 = u11 := hp 0 _ rfl rfl
      refine s_indexS hE goes_none (by decide) (lk rfl f1) rfl Try.underlying60 ty67 (hM.sl (pre := []) noB) hi18.1 ?_; intro a hE
      exact ⟨Kept.refl _ _, _, _, rfl, hE, rfl⟩
    · intro a w ux15 hE hM hp
      have f2 : ux15 2 = (ptr (sb u11) (so u11 + ((0 : Int)).toNat * 16)) := hp 0 _ rfl rfl
      refine s_loadA (cs := Flat.enc x16) hE goes_none (by decide) (lk rfl f2) ty67 rfl (sl_atF (hM.sl (pre := []) noB) hi18.2) (Flat.len _) ?_; intro a hE
      exact ⟨Kept.refl _ _, _, _, rfl, hE, rfl⟩
    · intro a w ux15 hE hM hp
      have f0 : ux15 0 = (Value.agg (Flat.enc p2).toArray) := hp 0 _ rfl rfl
      have f3 : ux15 3 = (Value.agg (Flat.enc x16).toArray) := hp 1 _ rfl rfl
      refine s_call (vs := [(Value.agg (Flat.enc p2).toArray), (Value.agg (Flat.enc x16).toArray)]) hE goes_none (by decide) (evs_of (evsC (lk rfl f0) (evsC (lk rfl f3) evsN))) cb108 (c_spec_l01Xor _ p2 x16 r19 e20) ?_
      rintro v w a ⟨rfl, hK⟩ hE
      exact ⟨hK, _, _, rfl, hE, rfl⟩
    · intro a w ux15 hE hM hg
      have f0 : ux15 0 = (Value.agg (Flat.enc p2).toArray) := hg 0 (by decide)
      have f1 : ux15 1 = u11 := hg 1 (by decide)
      have f2 : ux15 2 = (ptr (sb u11) (so u11 + ((0 : Int)).toNat * 16)) := hg 2 (by decide)
      have f3 : ux15 3 = (Value.agg (Flat.enc x16).toArray) := hg 3 (by decide)
      have f4 : ux15 4 = (Value.agg (Flat.enc r19).toArray) := hg 4 (by decide)
      have hE := hE.sub (e' := [(15, (Value.agg (Flat.enc p2).toArray)), (16, u11), (17, (ptr (sb u11) (so u11 + ((0 : Int)).toNat * 16))), (18, (Value.agg (Flat.enc x16).toArray)), (19, (Value.agg (Flat.enc r19).toArray)), (0, (Value.agg (Flat.enc p0).toArray)), (1, (Value.agg (Flat.enc p1).toArray)), (2, (Value.agg (Flat.enc p2).toArray)), (3, (vI p3)), (4, (ptr b1 0)), (5, (ptr b3 0)), (6, (ptr b5 0)), (8, (ptr b7 0)), (9, u11), (11, (Value.agg (Flat.enc p0).toArray)), (12, (Value.agg (Flat.enc p1).toArray)), (13, (vI p3)), (14, u11)]) ⟨lk rfl f0, lk rfl f1, lk rfl f2, lk rfl f3, lk rfl f4, rfl, rfl, rfl, rfl, rfl, rfl, rfl, rfl, rfl, rfl, rfl, rfl, rfl, trivial⟩
      have hM := hM.pull (pre := [_, _])
      refine s_store (seg := Flat.enc r19) (cs' := Flat.enc r19) hE hM goes_none rfl rfl rfl ty67 (Flat.len _) (Nat.le_of_eq ((Nat.zero_add _).trans (Eq.trans (Flat.len _) (Eq.symm (Flat.len _))))) (Flat.cell _) (splice_all (Eq.trans (Flat.len _) (Eq.symm (Flat.len _)))) ?_; intro w a hM hE
      refine c_fin0 ?_
      have ht21 := Option.some.inj hl13
      subst ht21
      refine c_mid ?_
      have hM := hM.pull (pre := [_, _, _, _])
      have hM := hM.pull (pre := [_])
      have hM := hM.pull (pre := [_, _, _])
      have hM := hM.pull (pre := [_, _, _])
      have hM := M.fst (l := [_, _, _, _]) hM
      exact ⟨hE.sub ⟨rfl, rfl, rfl, rfl, rfl, trivial⟩, hM⟩
  · skip
    rintro a w ⟨hE, hM⟩
    refine wp_seq ?_
    refine c_region ?_
    refine s_assign hE goes_none (by decide) rfl ?_; intro a hE
    refine c_fin ?_
    obtain ⟨j22, hl23, hF24⟩ := bind_some hF14
    refine c_cut (fun a w => Env 48 a [(6, (ptr b5 0)), (8, (ptr b7 0))] ∧ M (Old w0) w0 w [raw b7 (Flat.enc (Vector.replicate 16 (0 : UInt8))), raw b5 (Flat.enc j22)]) ?_ ?_
    · skip
      refine wp_block ?_
      refine c_loop (fun (s25 : (Vector UInt8 16) × Int) a w => Env 48 a [(3, (vI p3)), (4, (ptr b1 0)), (6, (ptr b5 0)), (8, (ptr b7 0)), (9, u11), (10, (vI s25.2))] ∧ M (Old w0) w0 w [osl NoB (r9 : List (Vector UInt8 16)) u11, raw b7 (Flat.enc (Vector.replicate 16 (0 : UInt8))), raw b5 (Flat.enc s25.1), raw b1 (cat [[(vI p0.Field)], Flat.enc p0.Box, Flat.enc p0.Mix, Flat.enc p0.Places, [(vI p0.Rounds)]])]) hl23 ⟨hE.sub ⟨rfl, rfl, rfl, rfl, rfl, rfl, trivial⟩, hM⟩ ?_
      rintro s25 a w ⟨hE, hM⟩ o28 hs26 hx27
      unfold L0_spec_l04Encipher at hs26
      refine wp_seq ?_
      refine c_region ?_
      refine s_move hE goes_none (by decide) rfl ?_; intro a hE
      refine s_move hE goes_none (by decide) rfl ?_; intro a hE
      refine s_int hE goes_none (by decide) rfl rfl rfl ?_; intro a hE
      refine c_fin ?_
      refine c_cond hE rfl ?_ ?_
      · intro hb29
        have hs26 := ite_t hs26 hb29
        refine wp_skip ?_
        refine c_nx ?_
        obtain ⟨j30, hl31, hF32⟩ := bind_some hs26
        refine c_join (fun a w => Env 48 a [(3, (vI p3)), (4, (ptr b1 0)), (6, (ptr b5 0)), (8, (ptr b7 0)), (9, u11), (10, (vI s25.2))] ∧ M (Old w0) w0 w [osl NoB (r9 : List (Vector UInt8 16)) u11, raw b7 (Flat.enc (Vector.replicate 16 (0 : UInt8))), raw b5 (Flat.enc j30), raw b1 (cat [[(vI p0.Field)], Flat.enc p0.Box, Flat.enc p0.Mix, Flat.enc p0.Places, [(vI p0.Rounds)]])]) ?_ ?_
        · skip
          refine wp_block ?_
          obtain ⟨j33, hl34, hF35⟩ := bind_some hl31
          refine c_join (fun a w => Env 48 a [(3, (vI p3)), (4, (ptr b1 0)), (6, (ptr b5 0)), (8, (ptr b7 0)), (9, u11), (10, (vI s25.2))] ∧ M (Old w0) w0 w [osl NoB (r9 : List (Vector UInt8 16)) u11, raw b7 (Flat.enc (Vector.replicate 16 (0 : UInt8))), raw b5 (Flat.enc j33), raw b1 (cat [[(vI p0.Field)], Flat.enc p0.Box, Flat.enc p0.Mix, Flat.enc p0.Places, [(vI p0.Rounds)]])]) ?_ ?_
          · skip
            obtain ⟨r37, e38, hl34⟩ := bind_some hl34
            obtain ⟨r39, e40, hl34⟩ := bind_some hl34
            refine c_draw (n := 48) (hd := [_, _, _, _, _, _, _]) (tl := [_]) hmix rfl rfl [25, 26, 27, 28, 29, 30, 31] (by decide) (fun w => M (Old w0) w0 w [osl NoB (r9 : List (Vector UInt8 16)) u11, raw b7 (Flat.enc (Vector.replicate 16 (0 : UInt8))), raw b5 (Flat.enc s25.1), raw b1 (cat [[(vI p0.Field)], Flat.enc p0.Box, Flat.enc p0.Mix, Flat.enc p0.Places, [(vI p0.Rounds)]])]) (fun j => ([fun v _ => v = (ptr b1 (0 + 273)), fun v _ => v = (Value.agg (Flat.enc p0.Places).toArray), fun v _ => v = (ptr b1 (0 + 1)), fun v _ => v = (Value.agg (Flat.enc p0.Box).toArray), fun v _ => v = (Value.agg (Flat.enc s25.1).toArray), fun v _ => v = (Value.agg (Flat.enc r37).toArray), fun v _ => v = (Value.agg (Flat.enc r39).toArray)] : List (Value → World → Prop)).getD j (fun _ _ => True)) (fun _ _ h hk => h.keep hk) (gup (gupE (gupE (gupE (gupE (gupE (gupE (gupE gupN)))))))) hE hM.drew (steps_of (steps_cons ?_ (steps_cons ?_ (steps_cons ?_ (steps_cons ?_ (steps_cons ?_ (steps_cons ?_ (steps_cons ?_ steps_nil)))))))) ?_
            · intro a w ux36 hE hM hp
              refine s_fieldAddr hE goes_none (by decide) rfl (fd58_3) ?_; intro a hE
              exact ⟨Kept.refl _ _, _, _, rfl, hE, rfl⟩
            · intro a w ux36 hE hM hp
              have f0 : ux36 0 = (ptr b1 (0 + 273)) := hp 0 _ rfl rfl
              refine s_loadA (cs := Flat.enc p0.Places) hE goes_none (by decide) (lk rfl f0) ty56 rfl (At.cat (pre := [[(vI p0.Field)], Flat.enc p0.Box, Flat.enc p0.Mix]) (seg := Flat.enc p0.Places) (post := [[(vI p0.Rounds)]]) (hM.rawAt (pre := [_, _, _])) (cl1 (n := 1) (m := 272) rfl (cl1 (n := 256) (m := 16) (Flat.len _) (cl1 (n := 16) (m := 0) (Flat.len _) cl0)))) (Flat.len _) ?_; intro a hE
              exact ⟨Kept.refl _ _, _, _, rfl, hE, rfl⟩
            · intro a w ux36 hE hM hp
              refine s_fieldAddr hE goes_none (by decide) rfl (fd58_1) ?_; intro a hE
              exact ⟨Kept.refl _ _, _, _, rfl, hE, rfl⟩
            · intro a w ux36 hE hM hp
              have f2 : ux36 2 = (ptr b1 (0 + 1)) := hp 0 _ rfl rfl
              refine s_loadA (cs := Flat.enc p0.Box) hE goes_none (by decide) (lk rfl f2) ty54 rfl (At.cat (pre := [[(vI p0.Field)]]) (seg := Flat.enc p0.Box) (post := [Flat.enc p0.Mix, Flat.enc p0.Places, [(vI p0.Rounds)]]) (hM.rawAt (pre := [_, _, _])) (cl1 (n := 1) (m := 0) rfl cl0)) (Flat.len _) ?_; intro a hE
              exact ⟨Kept.refl _ _, _, _, rfl, hE, rfl⟩
            · intro a w ux36 hE hM hp
              refine s_loadA (cs := Flat.enc s25.1) hE goes_none (by decide) rfl ty67 rfl (hM.rawAt (pre := [_, _])) (Flat.len _) ?_; intro a hE
              exact ⟨Kept.refl _ _, _, _, rfl, hE, rfl⟩
            · intro a w ux36 hE hM hp
              have f3 : ux36 3 = (Value.agg (Flat.enc p0.Box).toArray) := hp 0 _ rfl rfl
              have f4 : ux36 4 = (Value.agg (Flat.enc s25.1).toArray) := hp 1 _ rfl rfl
              refine s_call (vs := [(Value.agg (Flat.enc p0.Box).toArray), (Value.agg (Flat.enc s25.1).toArray)]) hE goes_none (by decide) (evs_of (evsC (lk rfl f3) (evsC (lk rfl f4) evsN))) cb158 (c_spec_l04Boxes _ p0.Box s25.1 r37 e38) ?_
              rintro v w a ⟨rfl, hK⟩ hE
              exact ⟨hK, _, _, rfl, hE, rfl⟩
            · intro a w ux36 hE hM hp
              have f1 : ux36 1 = (Value.agg (Flat.enc p0.Places).toArray) := hp 0 _ rfl rfl
              have f5 : ux36 5 = (Value.agg (Flat.enc r37).toArray) := hp 1 _ rfl rfl
              refine s_call (vs := [(Value.agg (Flat.enc p0.Places).toArray), (Value.agg (Flat.enc r37).toArray)]) hE goes_none (by decide) (evs_of (evsC (lk rfl f1) (evsC (lk rfl f5) evsN))) cb157 (c_spec_l03Move _ p0.Places r37 r39 e40) ?_
              rintro v w a ⟨rfl, hK⟩ hE
              exact ⟨hK, _, _, rfl, hE, rfl⟩
            · intro a w ux36 hE hM hg
              have f0 : ux36 0 = (ptr b1 (0 + 273)) := hg 0 (by decide)
              have f1 : ux36 1 = (Value.agg (Flat.enc p0.Places).toArray) := hg 1 (by decide)
              have f2 : ux36 2 = (ptr b1 (0 + 1)) := hg 2 (by decide)
              have f3 : ux36 3 = (Value.agg (Flat.enc p0.Box).toArray) := hg 3 (by decide)
              have f4 : ux36 4 = (Value.agg (Flat.enc s25.1).toArray) := hg 4 (by decide)
              have f5 : ux36 5 = (Value.agg (Flat.enc r37).toArray) := hg 5 (by decide)
              have f6 : ux36 6 = (Value.agg (Flat.enc r39).toArray) := hg 6 (by decide)
              have hE := hE.sub (e' := [(25, (ptr b1 (0 + 273))), (26, (Value.agg (Flat.enc p0.Places).toArray)), (27, (ptr b1 (0 + 1))), (28, (Value.agg (Flat.enc p0.Box).toArray)), (29, (Value.agg (Flat.enc s25.1).toArray)), (30, (Value.agg (Flat.enc r37).toArray)), (31, (Value.agg (Flat.enc r39).toArray)), (3, (vI p3)), (4, (ptr b1 0)), (6, (ptr b5 0)), (8, (ptr b7 0)), (9, u11), (10, (vI s25.2)), (20, (vI s25.2)), (21, (vI p3)), (22, (vT (decide (s25.2 ≤ p3))))]) ⟨lk rfl f0, lk rfl f1, lk rfl f2, lk rfl f3, lk rfl f4, lk rfl f5, lk rfl f6, rfl, rfl, rfl, rfl, rfl, rfl, rfl, rfl, rfl, trivial⟩
              have hM := hM.pull (pre := [_, _])
              refine s_store (seg := Flat.enc r39) (cs' := Flat.enc r39) hE hM goes_none rfl rfl rfl ty67 (Flat.len _) (Nat.le_of_eq ((Nat.zero_add _).trans (Eq.trans (Flat.len _) (Eq.symm (Flat.len _))))) (Flat.cell _) (splice_all (Eq.trans (Flat.len _) (Eq.symm (Flat.len _)))) ?_; intro w a hM hE
              refine c_fin0 ?_
              have ht41 := Option.some.inj hl34
              subst ht41
              refine c_mid ?_
              have hM := hM.pull (pre := [_, _, _])
              have hM := hM.pull (pre := [_])
              have hM := hM.pull (pre := [_, _, _])
              have hM := hM.pull (pre := [_, _, _])
              exact ⟨hE.sub ⟨rfl, rfl, rfl, rfl, rfl, rfl, trivial⟩, hM⟩
          · skip
            rintro a w ⟨hE, hM⟩
            obtain ⟨j42, hl43, hF44⟩ := bind_some hF35
            refine c_join (fun a w => Env 48 a [(3, (vI p3)), (4, (ptr b1 0)), (6, (ptr b5 0)), (8, (ptr b7 0)), (9, u11), (10, (vI s25.2))] ∧ M (Old w0) w0 w [osl NoB (r9 : List (Vector UInt8 16)) u11, raw b7 (Flat.enc (Vector.replicate 16 (0 : UInt8))), raw b5 (Flat.enc j42), raw b1 (cat [[(vI p0.Field)], Flat.enc p0.Box, Flat.enc p0.Mix, Flat.enc p0.Places, [(vI p0.Rounds)]])]) ?_ ?_
            · skip
              refine c_region ?_
              refine s_move hE goes_none (by decide) rfl ?_; intro a hE
              refine s_move hE goes_none (by decide) rfl ?_; intro a hE
              refine s_int hE goes_none (by decide) rfl rfl rfl ?_; intro a hE
              refine c_fin ?_
              refine c_cond hE rfl ?_ ?_
              · intro hb45
                have hl43 := ite_t hl43 hb45
                refine wp_region_lit ?_
                refine s_fieldAddr hE goes_none (by decide) rfl (fd58_0) ?_; intro a hE
                refine s_load (v := (vI p0.Field)) hE goes_none (by decide) rfl ty2 rfl (At.cat (pre := []) (seg := [(vI p0.Field)]) (post := [Flat.enc p0.Box, Flat.enc p0.Mix, Flat.enc p0.Places, [(vI p0.Rounds)]]) (hM.rawAt (pre := [_, _, _])) cl0) ?_; intro a hE
                refine s_fieldAddr hE goes_none (by decide) rfl (fd58_2) ?_; intro a hE
                refine s_loadA (cs := Flat.enc p0.Mix) hE goes_none (by decide) rfl ty55 rfl (At.cat (pre := [[(vI p0.Field)], Flat.enc p0.Box]) (seg := Flat.enc p0.Mix) (post := [Flat.enc p0.Places, [(vI p0.Rounds)]]) (hM.rawAt (pre := [_, _, _])) (cl1 (n := 1) (m := 256) rfl (cl1 (n := 256) (m := 0) (Flat.len _) cl0))) (Flat.len _) ?_; intro a hE
                refine s_loadA (cs := Flat.enc j33) hE goes_none (by decide) rfl ty67 rfl (hM.rawAt (pre := [_, _])) (Flat.len _) ?_; intro a hE
                obtain ⟨r46, e47, hl43⟩ := bind_some hl43
                refine s_call (vs := [(vI p0.Field), (Value.agg (Flat.enc p0.Mix).toArray), (Value.agg (Flat.enc j33).toArray)]) hE goes_none (by decide) rfl cb159 (c_spec_l03Mix _ p0.Field p0.Mix j33 r46 e47) ?_
                rintro v w a ⟨rfl, hK⟩ hE
                have hM := hM.keep hK
                have hM := hM.pull (pre := [_, _])
                refine s_store (seg := Flat.enc r46) (cs' := Flat.enc r46) hE hM goes_none rfl rfl rfl ty67 (Flat.len _) (Nat.le_of_eq ((Nat.zero_add _).trans (Eq.trans (Flat.len _) (Eq.symm (Flat.len _))))) (Flat.cell _) (splice_all (Eq.trans (Flat.len _) (Eq.symm (Flat.len _)))) ?_; intro w a hM hE
                refine c_fin0 ?_
                have ht48 := Option.some.inj hl43
                subst ht48
                refine c_mid ?_
                have hM := hM.pull (pre := [_, _, _])
                have hM := hM.pull (pre := [_])
                have hM := hM.pull (pre := [_, _, _])
                have hM := hM.pull (pre := [_, _, _])
                exact ⟨hE.sub ⟨rfl, rfl, rfl, rfl, rfl, rfl, trivial⟩, hM⟩
              · intro hb45
                have hl43 := ite_f hl43 hb45
                refine wp_skip ?_
                have ht49 := Option.some.inj hl43
                subst ht49
                refine c_mid ?_
                exact ⟨hE.sub ⟨rfl, rfl, rfl, rfl, rfl, rfl, trivial⟩, hM⟩
            · skip
              rintro a w ⟨hE, hM⟩
              obtain ⟨x51, e52, hF44⟩ := bind_some hF44
              have hi53 := idx_some e52
              obtain ⟨r54, e55, hF44⟩ := bind_some hF44
              refine c_draw (n := 48) (hd := [_, _, _, _, _, _]) (tl := [_]) hmix rfl rfl [41, 42, 43, 44, 45, 46] (by decide) (fun w => M (Old w0) w0 w [osl NoB (r9 : List (Vector UInt8 16)) u11, raw b7 (Flat.enc (Vector.replicate 16 (0 : UInt8))), raw b5 (Flat.enc j42), raw b1 (cat [[(vI p0.Field)], Flat.enc p0.Box, Flat.enc p0.Mix, Flat.enc p0.Places, [(vI p0.Rounds)]])]) (fun j => ([fun v _ => v = (Value.agg (Flat.enc j42).toArray), fun v _ => v = u11, fun v _ => v = (vI s25.2), fun v _ => v = (ptr (sb u11) (so u11 + (s25.2).toNat * 16)), fun v _ => v = (Value.agg (Flat.enc x51).toArray), fun v _ => v = (Value.agg (Flat.enc r54).toArray)] : List (Value → World → Prop)).getD j (fun _ _ => True)) (fun _ _ h hk => h.keep hk) (gup (gupE (gupE (gupE (gupE (gupE (gupE gupN))))))) hE hM.drew (steps_of (steps_cons ?_ (steps_cons ?_ (steps_cons ?_ (steps_cons ?_ (steps_cons ?_ (steps_cons ?_ steps_nil))))))) ?_
              · intro a w ux50 hE hM hp
                refine s_loadA (cs := Flat.enc j42) hE goes_none (by decide) rfl ty67 rfl (hM.rawAt (pre := [_, _])) (Flat.len _) ?_; intro a hE
                exact ⟨Kept.refl _ _, _, _, rfl, hE, rfl⟩
              · intro a w ux50 hE hM hp
                refine s_move hE goes_none (by decide) rfl ?_; intro a hE
                exact ⟨Kept.refl _ _, _, _, rfl, hE, rfl⟩
              · intro a w ux50 hE hM hp
                refine s_move hE goes_none (by decide) rfl ?_; intro a hE
                exact ⟨Kept.refl _ _, _, _, rfl, hE, rfl⟩
              · intro a w ux50 hE hM hp
                have f1 : ux50 1 = u11 := hp 0 _ rfl rfl
                have f2 : ux50 2 = (vI s25.2) := hp 1 _ rfl rfl
                refine s_indexS hE goes_none (by decide) (lk rfl f1) (lk rfl f2) Try.underlying60 ty67 (hM.sl (pre := []) noB) hi53.1 ?_; intro a hE
                exact ⟨Kept.refl _ _, _, _, rfl, hE, rfl⟩
              · intro a w ux50 hE hM hp
                have f3 : ux50 3 = (ptr (sb u11) (so u11 + (s25.2).toNat * 16)) := hp 0 _ rfl rfl
                refine s_loadA (cs := Flat.enc x51) hE goes_none (by decide) (lk rfl f3) ty67 rfl (sl_atF (hM.sl (pre := []) noB) hi53.2) (Flat.len _) ?_; intro a hE
                exact ⟨Kept.refl _ _, _, _, rfl, hE, rfl⟩
              · intro a w ux50 hE hM hp
                have f0 : ux50 0 = (Value.agg (Flat.enc j42).toArray) := hp 0 _ rfl rfl
                have f4 : ux50 4 = (Value.agg (Flat.enc x51).toArray) := hp 1 _ rfl rfl
                refine s_call (vs := [(Value.agg (Flat.enc j42).toArray), (Value.agg (Flat.enc x51).toArray)]) hE goes_none (by decide) (evs_of (evsC (lk rfl f0) (evsC (lk rfl f4) evsN))) cb108 (c_spec_l01Xor _ j42 x51 r54 e55) ?_
                rintro v w a ⟨rfl, hK⟩ hE
                exact ⟨hK, _, _, rfl, hE, rfl⟩
              · intro a w ux50 hE hM hg
                have f0 : ux50 0 = (Value.agg (Flat.enc j42).toArray) := hg 0 (by decide)
                have f1 : ux50 1 = u11 := hg 1 (by decide)
                have f2 : ux50 2 = (vI s25.2) := hg 2 (by decide)
                have f3 : ux50 3 = (ptr (sb u11) (so u11 + (s25.2).toNat * 16)) := hg 3 (by decide)
                have f4 : ux50 4 = (Value.agg (Flat.enc x51).toArray) := hg 4 (by decide)
                have f5 : ux50 5 = (Value.agg (Flat.enc r54).toArray) := hg 5 (by decide)
                have hE := hE.sub (e' := [(41, (Value.agg (Flat.enc j42).toArray)), (42, u11), (43, (vI s25.2)), (44, (ptr (sb u11) (so u11 + (s25.2).toNat * 16))), (45, (Value.agg (Flat.enc x51).toArray)), (46, (Value.agg (Flat.enc r54).toArray)), (3, (vI p3)), (4, (ptr b1 0)), (6, (ptr b5 0)), (8, (ptr b7 0)), (9, u11), (10, (vI s25.2))]) ⟨lk rfl f0, lk rfl f1, lk rfl f2, lk rfl f3, lk rfl f4, lk rfl f5, rfl, rfl, rfl, rfl, rfl, rfl, trivial⟩
                have hM := hM.pull (pre := [_, _])
                refine s_store (seg := Flat.enc r54) (cs' := Flat.enc r54) hE hM goes_none rfl rfl rfl ty67 (Flat.len _) (Nat.le_of_eq ((Nat.zero_add _).trans (Eq.trans (Flat.len _) (Eq.symm (Flat.len _))))) (Flat.cell _) (splice_all (Eq.trans (Flat.len _) (Eq.symm (Flat.len _)))) ?_; intro w a hM hE
                refine c_fin0 ?_
                refine c_nb ?_
                have ht56 := Option.some.inj hF44
                subst ht56
                refine c_mid ?_
                have hM := hM.pull (pre := [_, _, _])
                have hM := hM.pull (pre := [_])
                have hM := hM.pull (pre := [_, _, _])
                have hM := hM.pull (pre := [_, _, _])
                exact ⟨hE.sub ⟨rfl, rfl, rfl, rfl, rfl, rfl, trivial⟩, hM⟩
        · skip
          rintro a w ⟨hE, hM⟩
          refine wp_region_lit ?_
          refine s_move hE goes_none (by decide) rfl ?_; intro a hE
          refine s_int hE goes_none (by decide) rfl rfl rfl ?_; intro a hE
          refine s_assign hE goes_none (by decide) rfl ?_; intro a hE
          refine c_fin0 ?_
          refine c_mid ?_
          exact ⟨_, (Option.some.inj hF32).symm, hE.sub ⟨rfl, rfl, rfl, rfl, rfl, rfl, trivial⟩, hM⟩
      · intro hb29
        have hs26 := ite_f hs26 hb29
        refine wp_exit (e_then (e_then (e_eq ?_)))
        have ht57 := hx27 _ (Option.some.inj hs26).symm
        subst ht57
        refine c_mid ?_
        have hM := hM.pull (pre := [_, _])
        have hM := hM.pull (pre := [_, _])
        have hM := M.fst (l := [_, _]) hM
        exact ⟨hE.sub ⟨rfl, rfl, trivial⟩, hM⟩
    · skip
      rintro a w ⟨hE, hM⟩
      refine c_nx ?_
      refine c_region ?_
      refine s_loadA (cs := Flat.enc j22) hE goes_none (by decide) rfl ty67 rfl (hM.rawAt (pre := [_])) (Flat.len _) ?_; intro a hE
      refine s_store (seg := Flat.enc j22) (cs' := Flat.enc j22) hE hM goes_none rfl rfl rfl ty67 (Flat.len _) (Nat.le_of_eq ((Nat.zero_add _).trans (Eq.trans (Flat.len _) (Eq.symm (Flat.len _))))) (Flat.cell _) (splice_all (Eq.trans (Flat.len _) (Eq.symm (Flat.len _)))) ?_; intro w a hM hE
      refine c_fin ?_
      have hr := Option.some.inj hF24
      subst hr
      have hq58 : ResIs Try.prog _ _ (.cell 8 67) _ := res_cell hE rfl ty67 rfl (hM.rawAt (pre := [])) (Flat.len _) rfl
      have hM := M.fst (l := []) hM
      exact wp_ret (k_ret1 hE rfl hq58 ⟨_, rfl, rfl, hM.kept⟩)
noncomputable def L0_spec_l11Set (p0 : GCipher) (p1 : (Vector UInt8 16)) (p3 : Int) (p4 : Int) (s14 : (Vector UInt8 16) × (List (Vector UInt8 16)) × Int) : Option (Fl ((Vector UInt8 16) × (List (Vector UInt8 16)) × Int) (List (Vector UInt8 16))) :=
  if (decide (s14.2.2 < 256)) = true then ((vidx s14.1 p3).bind fun (x22 : UInt8) => (F_spec_l04Encipher p0 p1 (s14.1.setIfInBounds (p3).toNat (byteI s14.2.2)) p4).bind fun (r24 : (Vector UInt8 16)) => (app 16 s14.2.1 ([r24] : List (Vector UInt8 16))).bind fun (l28 : (List (Vector UInt8 16))) => some (Fl.nx ((s14.1.setIfInBounds (p3).toNat (byteI s14.2.2)), (s14.2.1 ++ ([r24] : List (Vector UInt8 16))), wr (s14.2.2 + 1)))) else (some (Fl.ex s14.2.1))
noncomputable def F_spec_l11Set (p0 : GCipher) (p1 : (Vector UInt8 16)) (p2 : (Vector UInt8 16)) (p3 : Int) (p4 : Int) : Option ((List (Vector UInt8 16))) :=
  (iter (L0_spec_l11Set p0 p1 p3 p4) (p2, ([] : List (Vector UInt8 16)), 0) : Option ((List (Vector UInt8 16)))).bind fun (j9 : (List (Vector UInt8 16))) => some j9
set_option maxRecDepth 20000 in
set_option maxHeartbeats 400000 in
theorem c_spec_l11Set (w0 : World) (p0 : GCipher) (p1 : (Vector UInt8 16)) (p2 : (Vector UInt8 16)) (p3 : Int) (p4 : Int) (r : (List (Vector UInt8 16))) (hF : F_spec_l11Set p0 p1 p2 p3 p4 = some r) :
    Calls Try.prog 107 [(Value.agg (Flat.enc p0).toArray), (Value.agg (Flat.enc p1).toArray), (Value.agg (Flat.enc p2).toArray), (vI p3), (vI p4)].toArray w0 (fun en w' => ∃ v, en = .returned v ∧ (∃ (y1 : Value), v = y1 ∧ Fr w0 w' [osl NoB (r : List (Vector UInt8 16)) y1] ∧ Kept (Old w0) w0 w')) := by
  refine c_enter (n := 31) Try.func107 rfl rfl (Nat.le_of_ble_eq_true rfl) rfl ?_
  intro a hE
  have hM := M.start w0
  unfold F_spec_l11Set at hF
  refine c_region ?_
  refine s_box (cs := cat [[(vI p0.Field)], Flat.enc p0.Box, Flat.enc p0.Mix, Flat.enc p0.Places, [(vI p0.Rounds)]]) hE hM goes_none (by decide) rfl rfl ?_; intro b1 w a hM hE
  refine s_box (cs := Flat.enc p1) hE hM goes_none (by decide) rfl rfl ?_; intro b3 w a hM hE
  refine s_box (cs := Flat.enc p2) hE hM goes_none (by decide) rfl rfl ?_; intro b5 w a hM hE
  refine s_assign hE goes_none (by decide) rfl ?_; intro a hE
  refine c_fin ?_
  refine c_region ?_
  refine s_buildF (xs := []) (l := ([] : List (Vector UInt8 16))) (vs := []) hE hM goes_none (by decide) rfl rfl Try.underlying60 ty67 rfl (by decide) rfl ?_; intro u7 w a hM hE
  refine s_assign hE goes_none (by decide) rfl ?_; intro a hE
  refine c_fin ?_
  refine wp_seq ?_
  refine c_region ?_
  refine s_assign hE goes_none (by decide) rfl ?_; intro a hE
  refine c_fin ?_
  obtain ⟨j9, hl10, hF11⟩ := bind_some hF
  refine c_cut (fun a w => ∃ (u12 : Value), Env 31 a [(11, u12)] ∧ M (Old w0) w0 w [osl NoB (j9 : List (Vector UInt8 16)) u12]) ?_ ?_
  · skip
    refine wp_block ?_
    have hM := hM.pull (pre := [_, _, _])
    have hM := hM.pull (pre := [_, _, _])
    have hM := hM.pull (pre := [_, _, _])
    refine c_loop (fun (s14 : (Vector UInt8 16) × (List (Vector UInt8 16)) × Int) a w => ∃ (u15 : Value), Env 31 a [(3, (vI p3)), (4, (vI p4)), (5, (ptr b1 0)), (6, (ptr b3 0)), (7, (ptr b5 0)), (11, u15), (12, (vI s14.2.2))] ∧ M (Old w0) w0 w [raw b5 (Flat.enc s14.1), raw b3 (Flat.enc p1), raw b1 (cat [[(vI p0.Field)], Flat.enc p0.Box, Flat.enc p0.Mix, Flat.enc p0.Places, [(vI p0.Rounds)]]), osl NoB (s14.2.1 : List (Vector UInt8 16)) u15]) hl10 ⟨u7, hE.sub ⟨rfl, rfl, rfl, rfl, rfl, rfl, rfl, trivial⟩, hM⟩ ?_
    rintro s14 a w ⟨u15, hE, hM⟩ o19 hs17 hx18
    unfold L0_spec_l11Set at hs17
    refine wp_seq ?_
    refine c_region ?_
    refine s_move hE goes_none (by decide) rfl ?_; intro a hE
    refine s_int hE goes_none (by decide) rfl rfl rfl ?_; intro a hE
    refine c_fin ?_
    refine c_cond hE rfl ?_ ?_
    · intro hb20
      have hs17 := ite_t hs17 hb20
      refine wp_skip ?_
      refine c_nx ?_
      refine wp_seq ?_
      refine wp_block ?_
      refine c_region ?_
      refine s_move hE goes_none (by decide) rfl ?_; intro a hE
      refine s_move hE goes_none (by decide) rfl ?_; intro a hE
      refine s_conv hE goes_none (by decide) rfl Try.underlying3 Try.underlying5 ?_; intro a hE
      rw [byteI_val] at hE
      obtain ⟨x22, e23, hs17⟩ := bind_some hs17
      have hi21 := vidx_some e23
      refine s_indexA hE goes_none (by decide) rfl rfl Try.underlying67 ty5 hi21.1 ?_; intro a hE
      refine s_store (seg := [(vB (byteI s14.2.2))]) (cs' := Flat.enc (s14.1.setIfInBounds (p3).toNat (byteI s14.2.2))) hE hM goes_none rfl rfl rfl ty5 rfl (fit_vec (v := s14.1) (x := byteI s14.2.2) hi21.1) (Flat.cell (byteI s14.2.2 : UInt8)) (splice_vec0 (v := s14.1) (x := byteI s14.2.2) hi21.1) ?_; intro w a hM hE
      refine c_fin ?_
      refine wp_region_lit ?_
      refine s_move hE goes_none (by decide) rfl ?_; intro a hE
      refine s_loadA (cs := Flat.enc p0) hE goes_none (by decide) rfl ty58 rfl (hM.rawAt (pre := [_, _])) (cat_len (cl1 (n := 1) (m := 289) rfl (cl1 (n := 256) (m := 33) (Flat.len _) (cl1 (n := 16) (m := 17) (Flat.len _) (cl1 (n := 16) (m := 1) (Flat.len _) (cl1 (n := 1) (m := 0) rfl cl0)))))) ?_; intro a hE
      refine s_loadA (cs := Flat.enc p1) hE goes_none (by decide) rfl ty67 rfl (hM.rawAt (pre := [_])) (Flat.len _) ?_; intro a hE
      refine s_loadA (cs := Flat.enc (s14.1.setIfInBounds (p3).toNat (byteI s14.2.2))) hE goes_none (by decide) rfl ty67 rfl (hM.rawAt (pre := [])) (Flat.len _) ?_; intro a hE
      refine s_move hE goes_none (by decide) rfl ?_; intro a hE
      obtain ⟨r24, e25, hs17⟩ := bind_some hs17
      refine s_call (vs := [(Value.agg (Flat.enc p0).toArray), (Value.agg (Flat.enc p1).toArray), (Value.agg (Flat.enc (s14.1.setIfInBounds (p3).toNat (byteI s14.2.2))).toArray), (vI p4)]) hE goes_none (by decide) rfl cb98 (c_spec_l04Encipher _ p0 p1 (s14.1.setIfInBounds (p3).toNat (byteI s14.2.2)) p4 r24 e25) ?_
      rintro v w a ⟨rfl, hK⟩ hE
      have hM := hM.keep hK
      refine s_buildF (xs := [.tmp 27]) (l := ([r24] : List (Vector UInt8 16))) (vs := [(Value.agg (Flat.enc r24).toArray)]) hE hM goes_none (by decide) rfl rfl Try.underlying60 ty67 rfl (by decide) rfl ?_; intro u26 w a hM hE
      obtain ⟨l28, e29, hs17⟩ := bind_some hs17
      obtain ⟨e32, rfl⟩ := app_some e29
      have hM := hM.pull (pre := [_, _, _, _])
      refine s_appendF hE hM goes_none (by decide) rfl rfl (hM.sl (pre := [_]) noB) Try.underlying60 ty67 rfl (by decide) e32 ?_; intro u30 w a hM hE
      refine s_assign hE goes_none (by decide) rfl ?_; intro a hE
      refine c_fin0 ?_
      refine c_nb ?_
      refine c_nx ?_
      refine wp_region_lit ?_
      refine s_move hE goes_none (by decide) rfl ?_; intro a hE
      refine s_int hE goes_none (by decide) rfl rfl rfl ?_; intro a hE
      refine s_assign hE goes_none (by decide) rfl ?_; intro a hE
      refine c_fin0 ?_
      refine c_mid ?_
      have hM := hM.pull (pre := [_, _, _, _])
      have hM := hM.pull (pre := [_, _, _, _])
      have hM := hM.pull (pre := [_, _, _, _])
      have hM := M.fst (l := [_, _, _, _]) hM
      exact ⟨_, (Option.some.inj hs17).symm, u30, hE.sub ⟨rfl, rfl, rfl, rfl, rfl, rfl, rfl, trivial⟩, hM⟩
    · intro hb20
      have hs17 := ite_f hs17 hb20
      refine wp_exit (e_then (e_then (e_eq ?_)))
      have ht33 := hx18 _ (Option.some.inj hs17).symm
      subst ht33
      refine c_mid ?_
      have hM := hM.pull (pre := [_, _, _])
      have hM := M.fst (l := [_]) hM
      exact ⟨u15, hE.sub ⟨rfl, trivial⟩, hM⟩
  · skip
    rintro a w ⟨u12, hE, hM⟩
    refine c_nx ?_
    refine c_region ?_
    refine s_move hE goes_none (by decide) rfl ?_; intro a hE
    refine s_assign hE goes_none (by decide) rfl ?_; intro a hE
    refine c_fin ?_
    have hr := Option.some.inj hF11
    subst hr
    exact wp_ret (k_ret1 hE rfl (res_tmp hE rfl) ⟨_, rfl, u12, rfl, hM.outF (locN1 locN0), hM.kept⟩)
noncomputable def L1_spec_DistinguishedBytes (r11 : (List (Vector UInt8 16))) (s21 : (List Int) × Int) (s38 : (Vector Bool 256) × Bool × Int) : Option (Fl ((Vector Bool 256) × Bool × Int) Bool) :=
  if (decide (s38.2.2 < 256)) = true then ((if s38.2.1 = true then ((idx r11 s38.2.2).bind fun (x47 : (Vector UInt8 16)) => (vidx x47 s21.2).bind fun (x51 : UInt8) => (vidx s38.1 (bI x51)).bind fun (x54 : Bool) => some (!x54)) else (some false) : Option (Bool)).bind fun (j43 : Bool) => (idx r11 s38.2.2).bind fun (x58 : (Vector UInt8 16)) => (vidx x58 s21.2).bind fun (x62 : UInt8) => (vidx s38.1 (bI x62)).bind fun (x65 : Bool) => some (Fl.nx ((s38.1.setIfInBounds ((bI x62)).toNat true), j43, wr (s38.2.2 + 1)))) else (some (Fl.ex s38.2.1))
noncomputable def L0_spec_DistinguishedBytes (r11 : (List (Vector UInt8 16))) (s21 : (List Int) × Int) : Option (Fl ((List Int) × Int) (List Int)) :=
  if (decide (s21.2 < 16)) = true then (((iter (L1_spec_DistinguishedBytes r11 s21) ((Vector.replicate 256 false), true, 0) : Option (Bool)).bind fun (j35 : Bool) => (if j35 = true then ((app 8 s21.1 ([s21.2] : List Int)).bind fun (l76 : (List Int)) => some (s21.1 ++ ([s21.2] : List Int))) else (some s21.1) : Option ((List Int))).bind fun (j68 : (List Int)) => some j68 : Option ((List Int))).bind fun (j28 : (List Int)) => some (Fl.nx (j28, wr (s21.2 + 1)))) else (some (Fl.ex s21.1))
noncomputable def F_spec_DistinguishedBytes (p0 : GCipher) (p1 : (Vector UInt8 16)) (p2 : (Vector UInt8 16)) (p3 : Int) (p4 : Int) : Option ((List Int) × Int) :=
  (F_spec_l11Code p0 p3 p4).bind fun (r7 : Int) => if (r7 != 0) = true then (some ([], r7)) else ((F_spec_l11Set p0 p1 p2 p3 p4).bind fun (r11 : (List (Vector UInt8 16))) => (iter (L0_spec_DistinguishedBytes r11) (([] : List Int), 0) : Option ((List Int))).bind fun (j16 : (List Int)) => some (j16, 0))
set_option maxRecDepth 20000 in
set_option maxHeartbeats 400000 in
theorem c_spec_DistinguishedBytes (w0 : World) (p0 : GCipher) (p1 : (Vector UInt8 16)) (p2 : (Vector UInt8 16)) (p3 : Int) (p4 : Int) (r : (List Int) × Int) (hF : F_spec_DistinguishedBytes p0 p1 p2 p3 p4 = some r) :
    Calls Try.prog 54 [(Value.agg (Flat.enc p0).toArray), (Value.agg (Flat.enc p1).toArray), (Value.agg (Flat.enc p2).toArray), (vI p3), (vI p4)].toArray w0 (fun en w' => ∃ v, en = .returned v ∧ (∃ (y1 : Value), v = (Value.tuple [y1, (vI r.2)].toArray) ∧ Fr w0 w' [osl NoB (r.1 : List Int) y1] ∧ Kept (Old w0) w0 w')) := by
  refine c_enter (n := 67) Try.func54 rfl rfl (Nat.le_of_ble_eq_true rfl) rfl ?_
  intro a hE
  have hM := M.start w0
  unfold F_spec_DistinguishedBytes at hF
  refine c_region ?_
  refine s_box (cs := cat [[(vI p0.Field)], Flat.enc p0.Box, Flat.enc p0.Mix, Flat.enc p0.Places, [(vI p0.Rounds)]]) hE hM goes_none (by decide) rfl rfl ?_; intro b1 w a hM hE
  refine s_box (cs := Flat.enc p1) hE hM goes_none (by decide) rfl rfl ?_; intro b3 w a hM hE
  refine s_box (cs := Flat.enc p2) hE hM goes_none (by decide) rfl rfl ?_; intro b5 w a hM hE
  refine s_assign hE goes_none (by decide) rfl ?_; intro a hE
  refine s_assign hE goes_none (by decide) rfl ?_; intro a hE
  refine c_fin ?_
  refine wp_seq ?_
  refine c_region ?_
  refine s_loadA (cs := Flat.enc p0) hE goes_none (by decide) rfl ty58 rfl (hM.rawAt (pre := [_, _])) (cat_len (cl1 (n := 1) (m := 289) rfl (cl1 (n := 256) (m := 33) (Flat.len _) (cl1 (n := 16) (m := 17) (Flat.len _) (cl1 (n := 16) (m := 1) (Flat.len _) (cl1 (n := 1) (m := 0) rfl cl0)))))) ?_; intro a hE
  refine s_move hE goes_none (by decide) rfl ?_; intro a hE
  refine s_move hE goes_none (by decide) rfl ?_; intro a hE
  obtain ⟨r7, e8, hF⟩ := bind_some hF
  refine s_call (vs := [(Value.agg (Flat.enc p0).toArray), (vI p3), (vI p4)]) hE goes_none (by decide) rfl cb106 (c_spec_l11Code _ p0 p3 p4 r7 e8) ?_
  rintro v w a ⟨rfl, hK⟩ hE
  have hM := hM.keep hK
  refine s_assign hE goes_none (by decide) rfl ?_; intro a hE
  refine c_fin ?_
  refine c_region ?_
  refine s_move hE goes_none (by decide) rfl ?_; intro a hE
  refine s_int hE goes_none (by decide) rfl rfl rfl ?_; intro a hE
  refine c_fin ?_
  refine c_cond hE rfl ?_ ?_
  · intro hb9
    have hF := ite_t hF hb9
    refine c_region ?_
    refine s_move hE goes_none (by decide) rfl ?_; intro a hE
    refine s_assign hE goes_none (by decide) rfl ?_; intro a hE
    refine s_assign hE goes_none (by decide) rfl ?_; intro a hE
    refine c_fin ?_
    have hM := M.nilS (α := Int) NoB noB hM
    have hr := Option.some.inj hF
    subst hr
    have hM := M.fst (l := [_]) hM
    exact wp_ret (r_then (k_ret2 hE rfl (res_tmp hE rfl) (res_tmp hE rfl) ⟨_, rfl, (Value.slice none 0 0), rfl, hM.outF (locN1 locN0), hM.kept⟩))
  · intro hb9
    have hF := ite_f hF hb9
    refine wp_skip ?_
    refine c_nx ?_
    refine c_region ?_
    refine s_loadA (cs := Flat.enc p0) hE goes_none (by decide) rfl ty58 rfl (hM.rawAt (pre := [_, _])) (cat_len (cl1 (n := 1) (m := 289) rfl (cl1 (n := 256) (m := 33) (Flat.len _) (cl1 (n := 16) (m := 17) (Flat.len _) (cl1 (n := 16) (m := 1) (Flat.len _) (cl1 (n := 1) (m := 0) rfl cl0)))))) ?_; intro a hE
    refine s_loadA (cs := Flat.enc p1) hE goes_none (by decide) rfl ty67 rfl (hM.rawAt (pre := [_])) (Flat.len _) ?_; intro a hE
    refine s_loadA (cs := Flat.enc p2) hE goes_none (by decide) rfl ty67 rfl (hM.rawAt (pre := [])) (Flat.len _) ?_; intro a hE
    refine s_move hE goes_none (by decide) rfl ?_; intro a hE
    refine s_move hE goes_none (by decide) rfl ?_; intro a hE
    obtain ⟨r11, e12, hF⟩ := bind_some hF
    refine s_call (vs := [(Value.agg (Flat.enc p0).toArray), (Value.agg (Flat.enc p1).toArray), (Value.agg (Flat.enc p2).toArray), (vI p3), (vI p4)]) hE goes_none (by decide) rfl cb107 (c_spec_l11Set _ p0 p1 p2 p3 p4 r11 e12) ?_
    rintro u13 w a ⟨_, rfl, hFr, hK⟩ hE
    have hM := hM.add hK hFr
    refine s_buildF (xs := []) (l := ([] : List Int)) (vs := []) hE hM goes_none (by decide) rfl rfl Try.underlying51 ty2 rfl (by decide) rfl ?_; intro u14 w a hM hE
    refine s_assign hE goes_none (by decide) rfl ?_; intro a hE
    refine s_assign hE goes_none (by decide) rfl ?_; intro a hE
    refine c_fin ?_
    refine wp_seq ?_
    refine c_region ?_
    refine s_assign hE goes_none (by decide) rfl ?_; intro a hE
    refine c_fin ?_
    obtain ⟨j16, hl17, hF18⟩ := bind_some hF
    refine c_cut (fun a w => ∃ (u19 : Value), Env 67 a [(14, u19)] ∧ M (Old w0) w0 w [osl NoB (j16 : List Int) u19]) ?_ ?_
    · skip
      refine wp_block ?_
      have hM := hM.pull (pre := [_])
      have hM := M.fst (l := [_, _]) hM
      refine c_loop (fun (s21 : (List Int) × Int) a w => ∃ (u22 : Value), Env 67 a [(13, u13), (14, u22), (15, (vI s21.2))] ∧ M (Old w0) w0 w [osl NoB (r11 : List (Vector UInt8 16)) u13, osl NoB (s21.1 : List Int) u22]) hl17 ⟨u14, hE.sub ⟨rfl, rfl, rfl, trivial⟩, hM⟩ ?_
      rintro s21 a w ⟨u22, hE, hM⟩ o26 hs24 hx25
      unfold L0_spec_DistinguishedBytes at hs24
      refine wp_seq ?_
      refine c_region ?_
      refine s_move hE goes_none (by decide) rfl ?_; intro a hE
      refine s_int hE goes_none (by decide) rfl rfl rfl ?_; intro a hE
      refine c_fin ?_
      refine c_cond hE rfl ?_ ?_
      · intro hb27
        have hs24 := ite_t hs24 hb27
        refine wp_skip ?_
        refine c_nx ?_
        obtain ⟨j28, hl29, hF30⟩ := bind_some hs24
        refine c_join (fun a w => ∃ (u31 : Value), Env 67 a [(13, u13), (14, u31), (15, (vI s21.2))] ∧ M (Old w0) w0 w [osl NoB (r11 : List (Vector UInt8 16)) u13, osl NoB (j28 : List Int) u31]) ?_ ?_
        · skip
          refine wp_block ?_
          refine c_region ?_
          refine s_buildA (parts := []) (vs := []) (cs := Flat.enc (Vector.replicate 256 false)) hE goes_none (by decide) rfl rfl ty112 rfl ty4 filla_nil ?_; intro a hE
          refine s_alloc hE hM goes_none (by decide) ty112 ?_; intro b33 w a hM hE
          refine s_store (seg := Flat.enc (Vector.replicate 256 false)) (cs' := Flat.enc (Vector.replicate 256 false)) hE hM goes_none rfl rfl rfl ty112 (Flat.len _) (Nat.le_of_eq ((Nat.zero_add _).trans (Eq.trans (Flat.len _) (Eq.symm (Flat.len _))))) (Flat.cell _) (splice_all (Eq.trans (Flat.len _) (Eq.symm (Flat.len _)))) ?_; intro w a hM hE
          refine s_assign hE goes_none (by decide) rfl ?_; intro a hE
          refine c_fin ?_
          refine wp_seq ?_
          refine c_region ?_
          refine s_assign hE goes_none (by decide) rfl ?_; intro a hE
          refine c_fin ?_
          obtain ⟨j35, hl36, hF37⟩ := bind_some hl29
          refine c_cut (fun a w => Env 67 a [(13, u13), (14, u22), (15, (vI s21.2)), (17, (vT j35))] ∧ M (Old w0) w0 w [osl NoB (r11 : List (Vector UInt8 16)) u13, osl NoB (s21.1 : List Int) u22]) ?_ ?_
          · skip
            refine wp_block ?_
            refine c_loop (fun (s38 : (Vector Bool 256) × Bool × Int) a w => Env 67 a [(13, u13), (14, u22), (15, (vI s21.2)), (16, (ptr b33 0)), (17, (vT s38.2.1)), (18, (vI s38.2.2))] ∧ M (Old w0) w0 w [raw b33 (Flat.enc s38.1), osl NoB (r11 : List (Vector UInt8 16)) u13, osl NoB (s21.1 : List Int) u22]) hl36 ⟨hE.sub ⟨rfl, rfl, rfl, rfl, rfl, rfl, trivial⟩, hM⟩ ?_
            rintro s38 a w ⟨hE, hM⟩ o41 hs39 hx40
            unfold L1_spec_DistinguishedBytes at hs39
            refine wp_seq ?_
            refine c_region ?_
            refine s_move hE goes_none (by decide) rfl ?_; intro a hE
            refine s_int hE goes_none (by decide) rfl rfl rfl ?_; intro a hE
            refine c_fin ?_
            refine c_cond hE rfl ?_ ?_
            · intro hb42
              have hs39 := ite_t hs39 hb42
              refine wp_skip ?_
              refine c_nx ?_
              refine wp_seq ?_
              refine wp_block ?_
              obtain ⟨j43, hl44, hF45⟩ := bind_some hs39
              refine c_join (fun a w => Env 67 a [(13, u13), (14, u22), (15, (vI s21.2)), (16, (ptr b33 0)), (17, (vT j43)), (18, (vI s38.2.2))] ∧ M (Old w0) w0 w [raw b33 (Flat.enc s38.1), osl NoB (r11 : List (Vector UInt8 16)) u13, osl NoB (s21.1 : List Int) u22]) ?_ ?_
              · skip
                refine wp_region_lit ?_
                refine s_move hE goes_none (by decide) rfl ?_; intro a hE
                refine s_move hE goes_none (by decide) rfl ?_; intro a hE
                refine splitB s38.2.1 (fun hb46 => ?_) (fun hb46 => ?_)
                · have hl44 := ite_t hl44 hb46
                  refine s_move hE (goes_yes hE rfl (lkb rfl hb46)) (by decide) rfl ?_; intro a hE
                  refine s_move hE (goes_yes hE rfl (lkb rfl hb46)) (by decide) rfl ?_; intro a hE
                  refine s_move hE (goes_yes hE rfl (lkb rfl hb46)) (by decide) rfl ?_; intro a hE
                  obtain ⟨x47, e48, hl44⟩ := bind_some hl44
                  have hi49 := idx_some e48
                  refine s_indexS hE (goes_yes hE rfl (lkb rfl hb46)) (by decide) rfl rfl Try.underlying60 ty67 (hM.sl (pre := [_]) noB) hi49.1 ?_; intro a hE
                  obtain ⟨x51, e52, hl44⟩ := bind_some hl44
                  have hi50 := vidx_some e52
                  refine s_indexA hE (goes_yes hE rfl (lkb rfl hb46)) (by decide) rfl rfl Try.underlying67 ty5 hi50.1 ?_; intro a hE
                  refine s_load (v := (vB x51)) hE (goes_yes hE rfl (lkb rfl hb46)) (by decide) rfl ty5 rfl (At.vec (sl_atF (hM.sl (pre := [_]) noB) hi49.2) hi50.2) ?_; intro a hE
                  obtain ⟨x54, e55, hl44⟩ := bind_some hl44
                  have hi53 := vidx_some e55
                  refine s_indexA hE (goes_yes hE rfl (lkb rfl hb46)) (by decide) rfl rfl Try.underlying112 ty4 hi53.1 ?_; intro a hE
                  refine s_load (v := (vT x54)) hE (goes_yes hE rfl (lkb rfl hb46)) (by decide) rfl ty4 rfl (At.vec (hM.rawAt (pre := [])) hi53.2) ?_; intro a hE
                  refine s_not hE (goes_yes hE rfl (lkb rfl hb46)) (by decide) rfl ?_; intro a hE
                  refine s_pickT hE goes_none (by decide) (lkb rfl hb46) rfl ?_; intro a hE
                  refine s_assign hE goes_none (by decide) rfl ?_; intro a hE
                  refine c_fin0 ?_
                  have ht56 := Option.some.inj hl44
                  subst ht56
                  refine c_mid ?_
                  exact ⟨hE.sub ⟨rfl, rfl, rfl, rfl, rfl, rfl, trivial⟩, hM⟩
                · have hl44 := ite_f hl44 hb46
                  refine s_skip hE rfl (lkb rfl hb46) rfl (by decide) ?_; intro a hE
                  refine s_skip hE rfl (lkb rfl hb46) rfl (by decide) ?_; intro a hE
                  refine s_skip hE rfl (lkb rfl hb46) rfl (by decide) ?_; intro a hE
                  refine s_skip hE rfl (lkb rfl hb46) rfl (by decide) ?_; intro a hE
                  refine s_skip hE rfl (lkb rfl hb46) rfl (by decide) ?_; intro a hE
                  refine s_skip hE rfl (lkb rfl hb46) rfl (by decide) ?_; intro a hE
                  refine s_skip hE rfl (lkb rfl hb46) rfl (by decide) ?_; intro a hE
                  refine s_skip hE rfl (lkb rfl hb46) rfl (by decide) ?_; intro a hE
                  refine s_skip hE rfl (lkb rfl hb46) rfl (by decide) ?_; intro a hE
                  refine s_pickF hE goes_none (by decide) (lkb rfl hb46) rfl ?_; intro a hE
                  refine s_assign hE goes_none (by decide) rfl ?_; intro a hE
                  refine c_fin0 ?_
                  have ht57 := Option.some.inj hl44
                  subst ht57
                  refine c_mid ?_
                  exact ⟨hE.sub ⟨rfl, rfl, rfl, rfl, rfl, rfl, trivial⟩, hM⟩
              · skip
                rintro a w ⟨hE, hM⟩
                refine wp_region_lit ?_
                refine s_move hE goes_none (by decide) rfl ?_; intro a hE
                refine s_move hE goes_none (by decide) rfl ?_; intro a hE
                refine s_move hE goes_none (by decide) rfl ?_; intro a hE
                obtain ⟨x58, e59, hF45⟩ := bind_some hF45
                have hi60 := idx_some e59
                refine s_indexS hE goes_none (by decide) rfl rfl Try.underlying60 ty67 (hM.sl (pre := [_]) noB) hi60.1 ?_; intro a hE
                obtain ⟨x62, e63, hF45⟩ := bind_some hF45
                have hi61 := vidx_some e63
                refine s_indexA hE goes_none (by decide) rfl rfl Try.underlying67 ty5 hi61.1 ?_; intro a hE
                refine s_load (v := (vB x62)) hE goes_none (by decide) rfl ty5 rfl (At.vec (sl_atF (hM.sl (pre := [_]) noB) hi60.2) hi61.2) ?_; intro a hE
                obtain ⟨x65, e66, hF45⟩ := bind_some hF45
                have hi64 := vidx_some e66
                refine s_indexA hE goes_none (by decide) rfl rfl Try.underlying112 ty4 hi64.1 ?_; intro a hE
                refine s_store (seg := [(vT true)]) (cs' := Flat.enc (s38.1.setIfInBounds ((bI x62)).toNat true)) hE hM goes_none rfl rfl rfl ty4 rfl (fit_vec (v := s38.1) (x := true) hi64.1) (Flat.cell (true : Bool)) (splice_vec0 (v := s38.1) (x := true) hi64.1) ?_; intro w a hM hE
                refine c_fin0 ?_
                refine c_nb ?_
                refine c_nx ?_
                refine wp_region_lit ?_
                refine s_move hE goes_none (by decide) rfl ?_; intro a hE
                refine s_int hE goes_none (by decide) rfl rfl rfl ?_; intro a hE
                refine s_assign hE goes_none (by decide) rfl ?_; intro a hE
                refine c_fin0 ?_
                refine c_mid ?_
                exact ⟨_, (Option.some.inj hF45).symm, hE.sub ⟨rfl, rfl, rfl, rfl, rfl, rfl, trivial⟩, hM⟩
            · intro hb42
              have hs39 := ite_f hs39 hb42
              refine wp_exit (e_then (e_then (e_eq ?_)))
              have ht67 := hx40 _ (Option.some.inj hs39).symm
              subst ht67
              refine c_mid ?_
              have hM := hM.pull (pre := [_, _])
              have hM := hM.pull (pre := [_, _])
              have hM := M.fst (l := [_, _]) hM
              exact ⟨hE.sub ⟨rfl, rfl, rfl, rfl, trivial⟩, hM⟩
          · skip
            rintro a w ⟨hE, hM⟩
            refine c_nx ?_
            refine c_region ?_
            refine s_move hE goes_none (by decide) rfl ?_; intro a hE
            refine c_fin ?_
            obtain ⟨j68, hl69, hF70⟩ := bind_some hF37
            refine c_cut (fun a w => ∃ (u71 : Value), Env 67 a [(13, u13), (14, u71), (15, (vI s21.2))] ∧ M (Old w0) w0 w [osl NoB (r11 : List (Vector UInt8 16)) u13, osl NoB (j68 : List Int) u71]) ?_ ?_
            · skip
              refine c_cond hE rfl ?_ ?_
              · intro hb73
                have hl69 := ite_t hl69 hb73
                refine wp_region_lit ?_
                refine s_move hE goes_none (by decide) rfl ?_; intro a hE
                refine s_move hE goes_none (by decide) rfl ?_; intro a hE
                refine s_buildF (xs := [.tmp 63]) (l := ([s21.2] : List Int)) (vs := [(vI s21.2)]) hE hM goes_none (by decide) rfl rfl Try.underlying51 ty2 rfl (by decide) rfl ?_; intro u74 w a hM hE
                obtain ⟨l76, e77, hl69⟩ := bind_some hl69
                obtain ⟨e80, rfl⟩ := app_some e77
                have hM := hM.pull (pre := [_, _])
                refine s_appendF hE hM goes_none (by decide) rfl rfl (hM.sl (pre := [_]) noB) Try.underlying51 ty2 rfl (by decide) e80 ?_; intro u78 w a hM hE
                refine s_assign hE goes_none (by decide) rfl ?_; intro a hE
                refine c_fin0 ?_
                have ht81 := Option.some.inj hl69
                subst ht81
                refine c_mid ?_
                have hM := hM.pull (pre := [_, _])
                have hM := M.fst (l := [_, _]) hM
                exact ⟨u78, hE.sub ⟨rfl, rfl, rfl, trivial⟩, hM⟩
              · intro hb73
                have hl69 := ite_f hl69 hb73
                refine wp_skip ?_
                have ht82 := Option.some.inj hl69
                subst ht82
                refine c_mid ?_
                exact ⟨u22, hE.sub ⟨rfl, rfl, rfl, trivial⟩, hM⟩
            · skip
              rintro a w ⟨u71, hE, hM⟩
              refine c_nb ?_
              have ht83 := Option.some.inj hF70
              subst ht83
              refine c_mid ?_
              exact ⟨u71, hE.sub ⟨rfl, rfl, rfl, trivial⟩, hM⟩
        · skip
          rintro a w ⟨u31, hE, hM⟩
          refine wp_region_lit ?_
          refine s_move hE goes_none (by decide) rfl ?_; intro a hE
          refine s_int hE goes_none (by decide) rfl rfl rfl ?_; intro a hE
          refine s_assign hE goes_none (by decide) rfl ?_; intro a hE
          refine c_fin0 ?_
          refine c_mid ?_
          exact ⟨_, (Option.some.inj hF30).symm, u31, hE.sub ⟨rfl, rfl, rfl, trivial⟩, hM⟩
      · intro hb27
        have hs24 := ite_f hs24 hb27
        refine wp_exit (e_then (e_then (e_eq ?_)))
        have ht84 := hx25 _ (Option.some.inj hs24).symm
        subst ht84
        refine c_mid ?_
        have hM := hM.pull (pre := [_])
        have hM := M.fst (l := [_]) hM
        exact ⟨u22, hE.sub ⟨rfl, trivial⟩, hM⟩
    · skip
      rintro a w ⟨u19, hE, hM⟩
      refine c_nx ?_
      refine c_region ?_
      refine s_move hE goes_none (by decide) rfl ?_; intro a hE
      refine s_assign hE goes_none (by decide) rfl ?_; intro a hE
      refine s_assign hE goes_none (by decide) rfl ?_; intro a hE
      refine c_fin ?_
      have hr := Option.some.inj hF18
      subst hr
      exact wp_ret (k_ret2 hE rfl (res_tmp hE rfl) (res_tmp hE rfl) ⟨_, rfl, u19, rfl, hM.outF (locN1 locN0), hM.kept⟩)
noncomputable def F_impl_inRange (p0 : Int) (p1 : Int) (p2 : Int) : Option (Bool) :=
  (if (decide (p1 ≤ p0)) = true then (some (decide (p0 ≤ p2))) else (some false) : Option (Bool)).bind fun (j1 : Bool) => some j1
set_option maxRecDepth 20000 in
set_option maxHeartbeats 400000 in
theorem c_impl_inRange (w0 : World) (p0 : Int) (p1 : Int) (p2 : Int) (r : Bool) (hF : F_impl_inRange p0 p1 p2 = some r) :
    Calls Try.prog 93 [(vI p0), (vI p1), (vI p2)].toArray w0 (fun en w' => ∃ v, en = .returned v ∧ (v = (vT r) ∧ Kept (Old w0) w0 w')) := by
  refine c_enter (n := 15) Try.func93 rfl rfl (Nat.le_of_ble_eq_true rfl) rfl ?_
  intro a hE
  have hM := M.start w0
  unfold F_impl_inRange at hF
  refine c_region ?_
  refine s_assign hE goes_none (by decide) rfl ?_; intro a hE
  refine c_fin ?_
  obtain ⟨j1, hl2, hF3⟩ := bind_some hF
  refine c_join (fun a w => Env 15 a [(6, (vT j1))] ∧ M (Old w0) w0 w []) ?_ ?_
  · skip
    refine wp_region_lit ?_
    refine s_move hE goes_none (by decide) rfl ?_; intro a hE
    refine s_move hE goes_none (by decide) rfl ?_; intro a hE
    refine s_int hE goes_none (by decide) rfl rfl rfl ?_; intro a hE
    refine s_move hE goes_none (by decide) rfl ?_; intro a hE
    refine splitB (decide (p1 ≤ p0)) (fun hb4 => ?_) (fun hb4 => ?_)
    · have hl2 := ite_t hl2 hb4
      refine s_move hE (goes_yes hE rfl (lkb rfl hb4)) (by decide) rfl ?_; intro a hE
      refine s_move hE (goes_yes hE rfl (lkb rfl hb4)) (by decide) rfl ?_; intro a hE
      refine s_int hE (goes_yes hE rfl (lkb rfl hb4)) (by decide) rfl rfl rfl ?_; intro a hE
      refine s_pickT hE goes_none (by decide) (lkb rfl hb4) rfl ?_; intro a hE
      refine s_assign hE goes_none (by decide) rfl ?_; intro a hE
      refine c_fin0 ?_
      have ht5 := Option.some.inj hl2
      subst ht5
      refine c_mid ?_
      exact ⟨hE.sub ⟨rfl, trivial⟩, hM⟩
    · have hl2 := ite_f hl2 hb4
      refine s_skip hE rfl (lkb rfl hb4) rfl (by decide) ?_; intro a hE
      refine s_skip hE rfl (lkb rfl hb4) rfl (by decide) ?_; intro a hE
      refine s_skip hE rfl (lkb rfl hb4) rfl (by decide) ?_; intro a hE
      refine s_pickF hE goes_none (by decide) (lkb rfl hb4) rfl ?_; intro a hE
      refine s_assign hE goes_none (by decide) rfl ?_; intro a hE
      refine c_fin0 ?_
      have ht6 := Option.some.inj hl2
      subst ht6
      refine c_mid ?_
      exact ⟨hE.sub ⟨rfl, trivial⟩, hM⟩
  · skip
    rintro a w ⟨hE, hM⟩
    have hr := Option.some.inj hF3
    subst hr
    exact wp_ret (k_ret1 hE rfl (res_tmp hE rfl) ⟨_, rfl, rfl, hM.kept⟩)
noncomputable def L0_impl_rest (p1 : Int) (p2 : Int) (s4 : Int × Int) : Option (Fl (Int × Int) Int) :=
  if (decide (s4.2 ≥ p2)) = true then (((nonneg s4.2).bind fun _ => (if ((andI (shrI s4.1 s4.2) 1) == 1) = true then ((nonneg (wr (s4.2 - p2))).bind fun _ => some (xorI s4.1 (shlI p1 (wr (s4.2 - p2))))) else (some s4.1) : Option (Int)).bind fun (j13 : Int) => some j13 : Option (Int)).bind fun (j9 : Int) => some (Fl.nx (j9, wr (s4.2 - 1)))) else (some (Fl.ex s4.1))
noncomputable def F_impl_rest (p0 : Int) (p1 : Int) (p2 : Int) : Option (Int) :=
  (iter (L0_impl_rest p1 p2) (p0, 15) : Option (Int)).bind fun (j1 : Int) => some j1
set_option maxRecDepth 20000 in
set_option maxHeartbeats 400000 in
theorem c_impl_rest (w0 : World) (p0 : Int) (p1 : Int) (p2 : Int) (r : Int) (hF : F_impl_rest p0 p1 p2 = some r) :
    Calls Try.prog 185 [(vI p0), (vI p1), (vI p2)].toArray w0 (fun en w' => ∃ v, en = .returned v ∧ (v = (vI r) ∧ Kept (Old w0) w0 w')) := by
  refine c_enter (n := 26) Try.func185 rfl rfl (Nat.le_of_ble_eq_true rfl) rfl ?_
  intro a hE
  have hM := M.start w0
  unfold F_impl_rest at hF
  refine c_region ?_
  refine s_assign hE goes_none (by decide) rfl ?_; intro a hE
  refine c_fin ?_
  refine wp_seq ?_
  refine c_region ?_
  refine s_assign hE goes_none (by decide) rfl ?_; intro a hE
  refine c_fin ?_
  obtain ⟨j1, hl2, hF3⟩ := bind_some hF
  refine c_cut (fun a w => Env 26 a [(0, (vI j1))] ∧ M (Old w0) w0 w []) ?_ ?_
  · skip
    refine wp_block ?_
    refine c_loop (fun (s4 : Int × Int) a w => Env 26 a [(0, (vI s4.1)), (1, (vI p1)), (2, (vI p2)), (7, (vI s4.2))] ∧ M (Old w0) w0 w []) hl2 ⟨hE.sub ⟨rfl, rfl, rfl, rfl, trivial⟩, hM⟩ ?_
    rintro s4 a w ⟨hE, hM⟩ o7 hs5 hx6
    unfold L0_impl_rest at hs5
    refine wp_seq ?_
    refine c_region ?_
    refine s_move hE goes_none (by decide) rfl ?_; intro a hE
    refine s_move hE goes_none (by decide) rfl ?_; intro a hE
    refine s_int hE goes_none (by decide) rfl rfl rfl ?_; intro a hE
    refine c_fin ?_
    refine c_cond hE rfl ?_ ?_
    · intro hb8
      have hs5 := ite_t hs5 hb8
      refine wp_skip ?_
      refine c_nx ?_
      obtain ⟨j9, hl10, hF11⟩ := bind_some hs5
      refine c_join (fun a w => Env 26 a [(0, (vI j9)), (1, (vI p1)), (2, (vI p2)), (7, (vI s4.2))] ∧ M (Old w0) w0 w []) ?_ ?_
      · skip
        refine wp_block ?_
        refine c_region ?_
        refine s_move hE goes_none (by decide) rfl ?_; intro a hE
        refine s_move hE goes_none (by decide) rfl ?_; intro a hE
        obtain ⟨_, e12, hl10⟩ := bind_some hl10
        have e12 := nonneg_some e12
        refine s_sh hE goes_none (by decide) rfl rfl (bI_shr _ _ e12) ?_; intro a hE
        refine s_int hE goes_none (by decide) rfl rfl rfl ?_; intro a hE
        refine s_int hE goes_none (by decide) rfl rfl rfl ?_; intro a hE
        refine c_fin ?_
        obtain ⟨j13, hl14, hF15⟩ := bind_some hl10
        refine c_cut (fun a w => Env 26 a [(0, (vI j13)), (1, (vI p1)), (2, (vI p2)), (7, (vI s4.2))] ∧ M (Old w0) w0 w []) ?_ ?_
        · skip
          refine c_cond hE rfl ?_ ?_
          · intro hb16
            have hl14 := ite_t hl14 hb16
            refine wp_region_lit ?_
            refine s_move hE goes_none (by decide) rfl ?_; intro a hE
            refine s_move hE goes_none (by decide) rfl ?_; intro a hE
            refine s_move hE goes_none (by decide) rfl ?_; intro a hE
            refine s_move hE goes_none (by decide) rfl ?_; intro a hE
            refine s_int hE goes_none (by decide) rfl rfl rfl ?_; intro a hE
            obtain ⟨_, e17, hl14⟩ := bind_some hl14
            have e17 := nonneg_some e17
            refine s_sh hE goes_none (by decide) rfl rfl (bI_shl _ _ e17) ?_; intro a hE
            refine s_int hE goes_none (by decide) rfl rfl rfl ?_; intro a hE
            refine s_assign hE goes_none (by decide) rfl ?_; intro a hE
            refine c_fin0 ?_
            have ht18 := Option.some.inj hl14
            subst ht18
            refine c_mid ?_
            exact ⟨hE.sub ⟨rfl, rfl, rfl, rfl, trivial⟩, hM⟩
          · intro hb16
            have hl14 := ite_f hl14 hb16
            refine wp_skip ?_
            have ht19 := Option.some.inj hl14
            subst ht19
            refine c_mid ?_
            exact ⟨hE.sub ⟨rfl, rfl, rfl, rfl, trivial⟩, hM⟩
        · skip
          rintro a w ⟨hE, hM⟩
          refine c_nb ?_
          have ht20 := Option.some.inj hF15
          subst ht20
          refine c_mid ?_
          exact ⟨hE.sub ⟨rfl, rfl, rfl, rfl, trivial⟩, hM⟩
      · skip
        rintro a w ⟨hE, hM⟩
        refine wp_region_lit ?_
        refine s_move hE goes_none (by decide) rfl ?_; intro a hE
        refine s_int hE goes_none (by decide) rfl rfl rfl ?_; intro a hE
        refine s_assign hE goes_none (by decide) rfl ?_; intro a hE
        refine c_fin0 ?_
        refine c_mid ?_
        exact ⟨_, (Option.some.inj hF11).symm, hE.sub ⟨rfl, rfl, rfl, rfl, trivial⟩, hM⟩
    · intro hb8
      have hs5 := ite_f hs5 hb8
      refine wp_exit (e_then (e_then (e_eq ?_)))
      have ht21 := hx6 _ (Option.some.inj hs5).symm
      subst ht21
      refine c_mid ?_
      exact ⟨hE.sub ⟨rfl, trivial⟩, hM⟩
  · skip
    rintro a w ⟨hE, hM⟩
    refine c_nx ?_
    refine c_region ?_
    refine s_move hE goes_none (by decide) rfl ?_; intro a hE
    refine s_assign hE goes_none (by decide) rfl ?_; intro a hE
    refine c_fin ?_
    have hr := Option.some.inj hF3
    subst hr
    exact wp_ret (k_ret1 hE rfl (res_tmp hE rfl) ⟨_, rfl, rfl, hM.kept⟩)
noncomputable def L1_impl_IsField (p0 : Int) (s8 : Int) (s18 : Int) : Option (Fl Int (Fl Unit Bool)) :=
  (nonneg s8).bind fun _ => if (decide (s18 < (shlI 2 s8))) = true then ((F_impl_rest p0 s18 s8).bind fun (r24 : Int) => if (r24 == 0) = true then (some (Fl.ex (Fl.ex false))) else (some (Fl.nx (wr (s18 + 1))))) else (some (Fl.ex (Fl.nx ())))
noncomputable def L0_impl_IsField (p0 : Int) (s8 : Int) : Option (Fl Int (Fl Unit Bool)) :=
  if (decide (s8 ≤ 4)) = true then ((nonneg s8).bind fun _ => (iter (L1_impl_IsField p0 s8) (shlI 1 s8) : Option (Fl Unit Bool)).bind fun (j14 : Fl Unit Bool) => j14.el (fun (s17 : Unit) => some (Fl.nx (wr (s8 + 1)))) (fun r => some (Fl.ex (Fl.ex r)))) else (some (Fl.ex (Fl.nx ())))
noncomputable def F_impl_IsField (p0 : Int) : Option (Bool) :=
  (F_impl_inRange p0 256 511).bind fun (r1 : Bool) => if (!r1) = true then (some false) else ((iter (L0_impl_IsField p0) 1 : Option (Fl Unit Bool)).bind fun (j4 : Fl Unit Bool) => j4.el (fun (s7 : Unit) => some true) (fun r => some r))
set_option maxRecDepth 20000 in
set_option maxHeartbeats 400000 in
theorem c_impl_IsField (w0 : World) (p0 : Int) (r : Bool) (hF : F_impl_IsField p0 = some r) :
    Calls Try.prog 132 [(vI p0)].toArray w0 (fun en w' => ∃ v, en = .returned v ∧ (v = (vT r) ∧ Kept (Old w0) w0 w')) := by
  refine c_enter (n := 25) Try.func132 rfl rfl (Nat.le_of_ble_eq_true rfl) rfl ?_
  intro a hE
  have hM := M.start w0
  unfold F_impl_IsField at hF
  refine c_region ?_
  refine s_assign hE goes_none (by decide) rfl ?_; intro a hE
  refine c_fin ?_
  refine wp_seq ?_
  refine c_region ?_
  refine s_move hE goes_none (by decide) rfl ?_; intro a hE
  obtain ⟨r1, e2, hF⟩ := bind_some hF
  refine s_call (vs := [(vI p0), (vI 256), (vI 511)]) hE goes_none (by decide) rfl cb93 (c_impl_inRange _ p0 256 511 r1 e2) ?_
  rintro v w a ⟨rfl, hK⟩ hE
  have hM := hM.keep hK
  refine s_not hE goes_none (by decide) rfl ?_; intro a hE
  refine c_fin ?_
  refine c_cond hE rfl ?_ ?_
  · intro hb3
    have hF := ite_t hF hb3
    refine c_region ?_
    refine s_assign hE goes_none (by decide) rfl ?_; intro a hE
    refine c_fin ?_
    have hr := Option.some.inj hF
    subst hr
    exact wp_ret (r_then (k_ret1 hE rfl (res_tmp hE rfl) ⟨_, rfl, rfl, hM.kept⟩))
  · intro hb3
    have hF := ite_f hF hb3
    refine wp_skip ?_
    refine c_nx ?_
    refine wp_seq ?_
    refine c_region ?_
    refine s_assign hE goes_none (by decide) rfl ?_; intro a hE
    refine c_fin ?_
    obtain ⟨j4, hl5, hF6⟩ := bind_some hF
    refine c_cut (fun a w => ∃ s7 : Unit, j4 = Fl.nx s7 ∧ Env 25 a [] ∧ M (Old w0) w0 w []) ?_ ?_
    · skip
      refine wp_block ?_
      refine c_loop (fun (s8 : Int) a w => Env 25 a [(0, (vI p0)), (3, (vI s8))] ∧ M (Old w0) w0 w []) hl5 ⟨hE.sub ⟨rfl, rfl, trivial⟩, hM⟩ ?_
      rintro s8 a w ⟨hE, hM⟩ o11 hs9 hx10
      unfold L0_impl_IsField at hs9
      refine wp_seq ?_
      refine c_region ?_
      refine s_move hE goes_none (by decide) rfl ?_; intro a hE
      refine s_int hE goes_none (by decide) rfl rfl rfl ?_; intro a hE
      refine c_fin ?_
      refine c_cond hE rfl ?_ ?_
      · intro hb12
        have hs9 := ite_t hs9 hb12
        refine wp_skip ?_
        refine c_nx ?_
        refine wp_seq ?_
        refine wp_block ?_
        refine c_region ?_
        refine s_move hE goes_none (by decide) rfl ?_; intro a hE
        obtain ⟨_, e13, hs9⟩ := bind_some hs9
        have e13 := nonneg_some e13
        refine s_sh hE goes_none (by decide) rfl rfl (bI_shl _ _ e13) ?_; intro a hE
        refine s_assign hE goes_none (by decide) rfl ?_; intro a hE
        refine c_fin ?_
        obtain ⟨j14, hl15, hF16⟩ := bind_some hs9
        refine c_cut (fun a w => ∃ s17 : Unit, j14 = Fl.nx s17 ∧ Env 25 a [(0, (vI p0)), (3, (vI s8))] ∧ M (Old w0) w0 w []) ?_ ?_
        · skip
          refine wp_block ?_
          refine c_loop (fun (s18 : Int) a w => Env 25 a [(0, (vI p0)), (3, (vI s8)), (4, (vI s18))] ∧ M (Old w0) w0 w []) hl15 ⟨hE.sub ⟨rfl, rfl, rfl, trivial⟩, hM⟩ ?_
          rintro s18 a w ⟨hE, hM⟩ o21 hs19 hx20
          unfold L1_impl_IsField at hs19
          refine wp_seq ?_
          refine c_region ?_
          refine s_move hE goes_none (by decide) rfl ?_; intro a hE
          refine s_move hE goes_none (by decide) rfl ?_; intro a hE
          obtain ⟨_, e22, hs19⟩ := bind_some hs19
          have e22 := nonneg_some e22
          refine s_sh hE goes_none (by decide) rfl rfl (bI_shl _ _ e22) ?_; intro a hE
          refine s_int hE goes_none (by decide) rfl rfl rfl ?_; intro a hE
          refine c_fin ?_
          refine c_cond hE rfl ?_ ?_
          · intro hb23
            have hs19 := ite_t hs19 hb23
            refine wp_skip ?_
            refine c_nx ?_
            refine wp_seq ?_
            refine wp_block ?_
            refine c_region ?_
            refine s_move hE goes_none (by decide) rfl ?_; intro a hE
            refine s_move hE goes_none (by decide) rfl ?_; intro a hE
            refine s_move hE goes_none (by decide) rfl ?_; intro a hE
            obtain ⟨r24, e25, hs19⟩ := bind_some hs19
            refine s_call (vs := [(vI p0), (vI s18), (vI s8)]) hE goes_none (by decide) rfl cb185 (c_impl_rest _ p0 s18 s8 r24 e25) ?_
            rintro v w a ⟨rfl, hK⟩ hE
            have hM := hM.keep hK
            refine s_int hE goes_none (by decide) rfl rfl rfl ?_; intro a hE
            refine c_fin ?_
            refine c_cond hE rfl ?_ ?_
            · intro hb26
              have hs19 := ite_t hs19 hb26
              refine c_region ?_
              refine s_assign hE goes_none (by decide) rfl ?_; intro a hE
              refine c_fin ?_
              have ht27 := hx20 _ (Option.some.inj hs19).symm
              subst ht27
              have ht28 := hx10 _ (Option.some.inj hF16).symm
              subst ht28
              have hr := Option.some.inj hF6
              subst hr
              exact wp_ret (r_inb (r_then (r_then (r_inb (r_then (r_inb (r_then (r_then (r_inb (r_then (r_then (k_ret1 hE rfl (res_tmp hE rfl) ⟨_, rfl, rfl, hM.kept⟩))))))))))))
            · intro hb26
              have hs19 := ite_f hs19 hb26
              refine wp_skip ?_
              refine c_nb ?_
              refine c_nx ?_
              refine wp_region_lit ?_
              refine s_move hE goes_none (by decide) rfl ?_; intro a hE
              refine s_int hE goes_none (by decide) rfl rfl rfl ?_; intro a hE
              refine s_assign hE goes_none (by decide) rfl ?_; intro a hE
              refine c_fin0 ?_
              refine c_mid ?_
              exact ⟨_, (Option.some.inj hs19).symm, hE.sub ⟨rfl, rfl, rfl, trivial⟩, hM⟩
          · intro hb23
            have hs19 := ite_f hs19 hb23
            refine wp_exit (e_then (e_then (e_eq ?_)))
            have ht29 := hx20 _ (Option.some.inj hs19).symm
            subst ht29
            refine c_mid ?_
            exact ⟨(), rfl, hE.sub ⟨rfl, rfl, trivial⟩, hM⟩
        · skip
          rintro a w ⟨s17, ht, hE, hM⟩
          subst ht
          have hF16 := el_nx hF16
          refine c_nb ?_
          refine c_nx ?_
          refine wp_region_lit ?_
          refine s_move hE goes_none (by decide) rfl ?_; intro a hE
          refine s_int hE goes_none (by decide) rfl rfl rfl ?_; intro a hE
          refine s_assign hE goes_none (by decide) rfl ?_; intro a hE
          refine c_fin0 ?_
          refine c_mid ?_
          exact ⟨_, (Option.some.inj hF16).symm, hE.sub ⟨rfl, rfl, trivial⟩, hM⟩
      · intro hb12
        have hs9 := ite_f hs9 hb12
        refine wp_exit (e_then (e_then (e_eq ?_)))
        have ht30 := hx10 _ (Option.some.inj hs9).symm
        subst ht30
        refine c_mid ?_
        exact ⟨(), rfl, hE.sub trivial, hM⟩
    · skip
      rintro a w ⟨s7, ht, hE, hM⟩
      subst ht
      have hF6 := el_nx hF6
      refine c_nx ?_
      refine c_region ?_
      refine s_assign hE goes_none (by decide) rfl ?_; intro a hE
      refine c_fin ?_
      have hr := Option.some.inj hF6
      subst hr
      exact wp_ret (k_ret1 hE rfl (res_tmp hE rfl) ⟨_, rfl, rfl, hM.kept⟩)
noncomputable def L0_slices_Index_bool_bool (p0 : (List Bool)) (p1 : Bool) (s5 : Int) : Option (Fl Int (Fl Unit Int)) :=
  if (decide (s5 < (p0.length : Int))) = true then ((idx p0 s5).bind fun (x10 : Bool) => if (p1 == x10) = true then (some (Fl.ex (Fl.ex s5))) else (some (Fl.nx (wr (s5 + 1))))) else (some (Fl.ex (Fl.nx ())))
noncomputable def F_slices_Index_bool_bool (p0 : (List Bool)) (p1 : Bool) : Option (Int) :=
  (iter (L0_slices_Index_bool_bool p0 p1) 0 : Option (Fl Unit Int)).bind fun (j1 : Fl Unit Int) => j1.el (fun (s4 : Unit) => some (-1)) (fun r => some r)
set_option maxRecDepth 20000 in
set_option maxHeartbeats 400000 in
theorem c_slices_Index_bool_bool (w0 : World) (p0 : (List Bool)) (v0_1 : Value) (hv0_1 : Ro w0 p0 [v0_1]) (p1 : Bool) (r : Int) (hF : F_slices_Index_bool_bool p0 p1 = some r) :
    Calls Try.prog 164 [v0_1, (vT p1)].toArray w0 (fun en w' => ∃ v, en = .returned v ∧ (v = (vI r) ∧ Kept (Old w0) w0 w')) := by
  refine c_enter (n := 19) Try.func164 rfl rfl (Nat.le_of_ble_eq_true rfl) rfl ?_
  intro a hE
  have hM := M.start w0
  unfold F_slices_Index_bool_bool at hF
  refine c_region ?_
  refine s_assign hE goes_none (by decide) rfl ?_; intro a hE
  refine c_fin ?_
  refine wp_seq ?_
  refine c_region ?_
  refine s_move hE goes_none (by decide) rfl ?_; intro a hE
  refine s_len hE goes_none (by decide) rfl Try.underlying136 (hM.rd hv0_1) ?_; intro a hE
  refine s_move hE goes_none (by decide) rfl ?_; intro a hE
  refine c_fin ?_
  obtain ⟨j1, hl2, hF3⟩ := bind_some hF
  refine c_cut (fun a w => ∃ s4 : Unit, j1 = Fl.nx s4 ∧ Env 19 a [] ∧ M (Old w0) w0 w []) ?_ ?_
  · skip
    refine wp_block ?_
    refine c_loop (fun (s5 : Int) a w => Env 19 a [(0, v0_1), (1, (vT p1)), (7, (vI (p0.length : Int))), (8, (vI s5))] ∧ M (Old w0) w0 w []) hl2 ⟨hE.sub ⟨rfl, rfl, rfl, rfl, trivial⟩, hM⟩ ?_
    rintro s5 a w ⟨hE, hM⟩ o8 hs6 hx7
    unfold L0_slices_Index_bool_bool at hs6
    refine c_region ?_
    refine s_int hE goes_none (by decide) rfl rfl rfl ?_; intro a hE
    refine c_fin ?_
    refine wp_seq ?_
    refine c_cond hE rfl ?_ ?_
    · intro hb9
      have hs6 := ite_t hs6 hb9
      refine wp_skip ?_
      refine c_nx ?_
      refine wp_seq ?_
      refine wp_block ?_
      refine c_region ?_
      refine s_move hE goes_none (by decide) rfl ?_; intro a hE
      refine s_assign hE goes_none (by decide) rfl ?_; intro a hE
      refine c_fin ?_
      refine c_region ?_
      refine s_move hE goes_none (by decide) rfl ?_; intro a hE
      refine s_move hE goes_none (by decide) rfl ?_; intro a hE
      refine s_move hE goes_none (by decide) rfl ?_; intro a hE
      obtain ⟨x10, e11, hs6⟩ := bind_some hs6
      have hi12 := idx_some e11
      refine s_indexS hE goes_none (by decide) rfl rfl Try.underlying136 ty4 (hM.rd hv0_1) hi12.1 ?_; intro a hE
      refine s_load (v := (vT x10)) hE goes_none (by decide) rfl ty4 rfl (sl_atF (hM.rd hv0_1) hi12.2) ?_; intro a hE
      refine s_eqT hE goes_none (by decide) rfl rfl Try.underlying4 ?_; intro a hE
      refine c_fin ?_
      refine c_cond hE rfl ?_ ?_
      · intro hb13
        have hs6 := ite_t hs6 hb13
        refine c_region ?_
        refine s_move hE goes_none (by decide) rfl ?_; intro a hE
        refine s_assign hE goes_none (by decide) rfl ?_; intro a hE
        refine c_fin ?_
        have ht14 := hx7 _ (Option.some.inj hs6).symm
        subst ht14
        have hr := Option.some.inj hF3
        subst hr
        exact wp_ret (r_inb (r_then (r_then (r_inb (r_then (r_then (k_ret1 hE rfl (res_tmp hE rfl) ⟨_, rfl, rfl, hM.kept⟩)))))))
      · intro hb13
        have hs6 := ite_f hs6 hb13
        refine wp_skip ?_
        refine c_nb ?_
        refine c_nx ?_
        refine wp_region_lit ?_
        refine s_int hE goes_none (by decide) rfl rfl rfl ?_; intro a hE
        refine s_move hE goes_none (by decide) rfl ?_; intro a hE
        refine c_fin0 ?_
        refine c_mid ?_
        exact ⟨_, (Option.some.inj hs6).symm, hE.sub ⟨rfl, rfl, rfl, rfl, trivial⟩, hM⟩
    · intro hb9
      have hs6 := ite_f hs6 hb9
      refine wp_exit (e_then (e_then (e_eq ?_)))
      have ht15 := hx7 _ (Option.some.inj hs6).symm
      subst ht15
      refine c_mid ?_
      exact ⟨(), rfl, hE.sub trivial, hM⟩
  · skip
    rintro a w ⟨s4, ht, hE, hM⟩
    subst ht
    have hF3 := el_nx hF3
    refine c_nx ?_
    refine c_region ?_
    refine s_assign hE goes_none (by decide) rfl ?_; intro a hE
    refine c_fin ?_
    have hr := Option.some.inj hF3
    subst hr
    exact wp_ret (k_ret1 hE rfl (res_tmp hE rfl) ⟨_, rfl, rfl, hM.kept⟩)
noncomputable def F_slices_Contains_bool_bool (p0 : (List Bool)) (p1 : Bool) : Option (Bool) :=
  (F_slices_Index_bool_bool p0 p1).bind fun (r1 : Int) => some (decide (r1 ≥ 0))
set_option maxRecDepth 20000 in
set_option maxHeartbeats 400000 in
theorem c_slices_Contains_bool_bool (w0 : World) (p0 : (List Bool)) (v0_1 : Value) (hv0_1 : Ro w0 p0 [v0_1]) (p1 : Bool) (r : Bool) (hF : F_slices_Contains_bool_bool p0 p1 = some r) :
    Calls Try.prog 112 [v0_1, (vT p1)].toArray w0 (fun en w' => ∃ v, en = .returned v ∧ (v = (vT r) ∧ Kept (Old w0) w0 w')) := by
  refine c_enter (n := 9) Try.func112 rfl rfl (Nat.le_of_ble_eq_true rfl) rfl ?_
  intro a hE
  have hM := M.start w0
  unfold F_slices_Contains_bool_bool at hF
  refine c_region ?_
  refine s_assign hE goes_none (by decide) rfl ?_; intro a hE
  refine c_fin ?_
  refine c_region ?_
  refine s_move hE goes_none (by decide) rfl ?_; intro a hE
  refine s_move hE goes_none (by decide) rfl ?_; intro a hE
  obtain ⟨r1, e2, hF⟩ := bind_some hF
  refine s_call (vs := [v0_1, (vT p1)]) hE goes_none (by decide) rfl cb164 (c_slices_Index_bool_bool _ p0 v0_1 (hM.rdo hv0_1) p1 r1 e2) ?_
  rintro v w a ⟨rfl, hK⟩ hE
  have hM := hM.keep hK
  refine s_int hE goes_none (by decide) rfl rfl rfl ?_; intro a hE
  refine s_assign hE goes_none (by decide) rfl ?_; intro a hE
  refine c_fin ?_
  have hr := Option.some.inj hF
  subst hr
  exact wp_ret (k_ret1 hE rfl (res_tmp hE rfl) ⟨_, rfl, rfl, hM.kept⟩)
noncomputable def L0_impl_IsPermutation (p0 : (Vector UInt8 256)) (s8 : (Vector Bool 256) × Int) : Option (Fl ((Vector Bool 256) × Int) (Vector Bool 256)) :=
  if (decide (s8.2 < 256)) = true then ((vidx p0 s8.2).bind fun (x13 : UInt8) => (vidx s8.1 (bI x13)).bind fun (x17 : Bool) => some (Fl.nx ((s8.1.setIfInBounds ((bI x13)).toNat true), wr (s8.2 + 1)))) else (some (Fl.ex s8.1))
noncomputable def F_impl_IsPermutation (p0 : (Vector UInt8 256)) : Option (Bool) :=
  (iter (L0_impl_IsPermutation p0) ((Vector.replicate 256 false), 0) : Option ((Vector Bool 256))).bind fun (j5 : (Vector Bool 256)) => (slc j5.toList (0 : Int) (256 : Int)).bind fun (l20 : (List Bool)) => (F_slices_Contains_bool_bool l20 false).bind fun (r23 : Bool) => some (!r23)
set_option maxRecDepth 20000 in
set_option maxHeartbeats 400000 in
theorem c_impl_IsPermutation (w0 : World) (p0 : (Vector UInt8 256)) (r : Bool) (hF : F_impl_IsPermutation p0 = some r) :
    Calls Try.prog 149 [(Value.agg (Flat.enc p0).toArray)].toArray w0 (fun en w' => ∃ v, en = .returned v ∧ (v = (vT r) ∧ Kept (Old w0) w0 w')) := by
  refine c_enter (n := 17) Try.func149 rfl rfl (Nat.le_of_ble_eq_true rfl) rfl ?_
  intro a hE
  have hM := M.start w0
  unfold F_impl_IsPermutation at hF
  refine c_region ?_
  refine s_box (cs := Flat.enc p0) hE hM goes_none (by decide) rfl rfl ?_; intro b1 w a hM hE
  refine s_assign hE goes_none (by decide) rfl ?_; intro a hE
  refine c_fin ?_
  refine c_region ?_
  refine s_buildA (parts := []) (vs := []) (cs := Flat.enc (Vector.replicate 256 false)) hE goes_none (by decide) rfl rfl ty112 rfl ty4 filla_nil ?_; intro a hE
  refine s_alloc hE hM goes_none (by decide) ty112 ?_; intro b3 w a hM hE
  refine s_store (seg := Flat.enc (Vector.replicate 256 false)) (cs' := Flat.enc (Vector.replicate 256 false)) hE hM goes_none rfl rfl rfl ty112 (Flat.len _) (Nat.le_of_eq ((Nat.zero_add _).trans (Eq.trans (Flat.len _) (Eq.symm (Flat.len _))))) (Flat.cell _) (splice_all (Eq.trans (Flat.len _) (Eq.symm (Flat.len _)))) ?_; intro w a hM hE
  refine c_fin ?_
  refine wp_seq ?_
  refine c_region ?_
  refine s_loadA (cs := Flat.enc p0) hE goes_none (by decide) rfl ty54 rfl (hM.rawAt (pre := [_])) (Flat.len _) ?_; intro a hE
  refine s_move hE goes_none (by decide) rfl ?_; intro a hE
  refine c_fin ?_
  obtain ⟨j5, hl6, hF7⟩ := bind_some hF
  refine c_cut (fun a w => Env 17 a [(3, (ptr b3 0))] ∧ M (Old w0) w0 w [raw b3 (Flat.enc j5)]) ?_ ?_
  · skip
    refine wp_block ?_
    have hM := M.fst (l := [_]) hM
    refine c_loop (fun (s8 : (Vector Bool 256) × Int) a w => Env 17 a [(3, (ptr b3 0)), (7, (Value.agg (Flat.enc p0).toArray)), (8, (vI s8.2))] ∧ M (Old w0) w0 w [raw b3 (Flat.enc s8.1)]) hl6 ⟨hE.sub ⟨rfl, rfl, rfl, trivial⟩, hM⟩ ?_
    rintro s8 a w ⟨hE, hM⟩ o11 hs9 hx10
    unfold L0_impl_IsPermutation at hs9
    refine c_region ?_
    refine s_int hE goes_none (by decide) rfl rfl rfl ?_; intro a hE
    refine c_fin ?_
    refine wp_seq ?_
    refine c_cond hE rfl ?_ ?_
    · intro hb12
      have hs9 := ite_t hs9 hb12
      refine wp_skip ?_
      refine c_nx ?_
      refine wp_seq ?_
      refine wp_block ?_
      refine c_region ?_
      obtain ⟨x13, e14, hs9⟩ := bind_some hs9
      have hi15 := vidx_some e14
      refine s_indexV hE goes_none (by decide) rfl rfl Try.underlying54 ty5 rfl rfl hi15 rfl ?_; intro a hE
      refine s_assign hE goes_none (by decide) rfl ?_; intro a hE
      refine c_fin ?_
      refine wp_region_lit ?_
      refine s_move hE goes_none (by decide) rfl ?_; intro a hE
      obtain ⟨x17, e18, hs9⟩ := bind_some hs9
      have hi16 := vidx_some e18
      refine s_indexA hE goes_none (by decide) rfl rfl Try.underlying112 ty4 hi16.1 ?_; intro a hE
      refine s_store (seg := [(vT true)]) (cs' := Flat.enc (s8.1.setIfInBounds ((bI x13)).toNat true)) hE hM goes_none rfl rfl rfl ty4 rfl (fit_vec (v := s8.1) (x := true) hi16.1) (Flat.cell (true : Bool)) (splice_vec0 (v := s8.1) (x := true) hi16.1) ?_; intro w a hM hE
      refine c_fin0 ?_
      refine c_nb ?_
      refine c_nx ?_
      refine wp_region_lit ?_
      refine s_int hE goes_none (by decide) rfl rfl rfl ?_; intro a hE
      refine s_move hE goes_none (by decide) rfl ?_; intro a hE
      refine c_fin0 ?_
      refine c_mid ?_
      exact ⟨_, (Option.some.inj hs9).symm, hE.sub ⟨rfl, rfl, rfl, trivial⟩, hM⟩
    · intro hb12
      have hs9 := ite_f hs9 hb12
      refine wp_exit (e_then (e_then (e_eq ?_)))
      have ht19 := hx10 _ (Option.some.inj hs9).symm
      subst ht19
      refine c_mid ?_
      exact ⟨hE.sub ⟨rfl, trivial⟩, hM⟩
  · skip
    rintro a w ⟨hE, hM⟩
    refine c_nx ?_
    refine c_region ?_
    obtain ⟨l20, e21, hF7⟩ := bind_some hF7
    have hb22 := slc_arr e21 -- ^
    refine s_sliceArr (N := 256) hE goes_none (by decide) rfl rfl rfl rfl rfl Try.underlying112 ty4 hb22 ?_; intro a hE
    obtain ⟨r23, e24, hF7⟩ := bind_some hF7
    refine s_call (vs := [(sliceV (.slice (some ⟨b3, 0, none⟩) 256 256) ((0 : Int)).toNat ((256 : Int)).toNat 1), (vT false)]) hE goes_none (by decide) rfl cb112 (c_slices_Contains_bool_bool _ l20 (sliceV (.slice (some ⟨b3, 0, none⟩) 256 256) ((0 : Int)).toNat ((256 : Int)).toNat 1) (ro_slice (At.sat (hM.rawAt (pre := [])) (by simp) (by decide)) e21) false r23 e24) ?_
    rintro v w a ⟨rfl, hK⟩ hE
    have hM := hM.keep hK
    refine s_not hE goes_none (by decide) rfl ?_; intro a hE
    refine s_assign hE goes_none (by decide) rfl ?_; intro a hE
    refine c_fin ?_
    have hr := Option.some.inj hF7
    subst hr
    have hM := M.fst (l := []) hM
    exact wp_ret (k_ret1 hE rfl (res_tmp hE rfl) ⟨_, rfl, rfl, hM.kept⟩)
noncomputable def L0_impl_UnitMatrix (s8 : (Vector (Vector UInt8 4) 4) × Int) : Option (Fl ((Vector (Vector UInt8 4) 4) × Int) (Vector (Vector UInt8 4) 4)) :=
  if (decide (s8.2 < 4)) = true then ((vidx s8.1 s8.2).bind fun (x14 : (Vector UInt8 4)) => (vidx x14 s8.2).bind fun (x17 : UInt8) => some (Fl.nx ((s8.1.setIfInBounds (s8.2).toNat (x14.setIfInBounds (s8.2).toNat 1)), wr (s8.2 + 1)))) else (some (Fl.ex s8.1))
noncomputable def F_impl_UnitMatrix : Option ((Vector (Vector UInt8 4) 4)) :=
  (iter (L0_impl_UnitMatrix) ((Vector.replicate 4 (Vector.replicate 4 (0 : UInt8))), 0) : Option ((Vector (Vector UInt8 4) 4))).bind fun (j5 : (Vector (Vector UInt8 4) 4)) => some j5
set_option maxRecDepth 20000 in
set_option maxHeartbeats 400000 in
theorem c_impl_UnitMatrix (w0 : World)  (r : (Vector (Vector UInt8 4) 4)) (hF : F_impl_UnitMatrix  = some r) :
    Calls Try.prog 194 [].toArray w0 (fun en w' => ∃ v, en = .returned v ∧ (v = (Value.agg (Flat.enc r).toArray) ∧ Kept (Old w0) w0 w')) := by
  refine c_enter (n := 13) Try.func194 rfl rfl (Nat.le_of_ble_eq_true rfl) rfl ?_
  intro a hE
  have hM := M.start w0
  unfold F_impl_UnitMatrix at hF
  refine c_region ?_
  refine s_alloc hE hM goes_none (by decide) ty55 ?_; intro b1 w a hM hE
  refine c_fin ?_
  refine c_region ?_
  refine s_buildA (parts := []) (vs := []) (cs := Flat.enc (Vector.replicate 4 (Vector.replicate 4 (0 : UInt8)))) hE goes_none (by decide) rfl rfl ty55 rfl ty44 filla_nil ?_; intro a hE
  refine s_alloc hE hM goes_none (by decide) ty55 ?_; intro b3 w a hM hE
  refine s_store (seg := Flat.enc (Vector.replicate 4 (Vector.replicate 4 (0 : UInt8)))) (cs' := Flat.enc (Vector.replicate 4 (Vector.replicate 4 (0 : UInt8)))) hE hM goes_none rfl rfl rfl ty55 (Flat.len _) (Nat.le_of_eq ((Nat.zero_add _).trans (Eq.trans (Flat.len _) (Eq.symm (Flat.len _))))) (Flat.cell _) (splice_all (Eq.trans (Flat.len _) (Eq.symm (Flat.len _)))) ?_; intro w a hM hE
  refine c_fin ?_
  refine wp_seq ?_
  refine c_region ?_
  refine s_move hE goes_none (by decide) rfl ?_; intro a hE
  refine c_fin ?_
  obtain ⟨j5, hl6, hF7⟩ := bind_some hF
  refine c_cut (fun a w => Env 13 a [(0, (ptr b1 0)), (1, (ptr b3 0))] ∧ M (Old w0) w0 w [raw b3 (Flat.enc j5), raw b1 (Flat.enc (Vector.replicate 4 (Vector.replicate 4 (0 : UInt8))))]) ?_ ?_
  · skip
    refine wp_block ?_
    refine c_loop (fun (s8 : (Vector (Vector UInt8 4) 4) × Int) a w => Env 13 a [(0, (ptr b1 0)), (1, (ptr b3 0)), (4, (vI s8.2))] ∧ M (Old w0) w0 w [raw b3 (Flat.enc s8.1), raw b1 (Flat.enc (Vector.replicate 4 (Vector.replicate 4 (0 : UInt8))))]) hl6 ⟨hE.sub ⟨rfl, rfl, rfl, trivial⟩, hM⟩ ?_
    rintro s8 a w ⟨hE, hM⟩ o11 hs9 hx10
    unfold L0_impl_UnitMatrix at hs9
    refine c_region ?_
    refine s_int hE goes_none (by decide) rfl rfl rfl ?_; intro a hE
    refine c_fin ?_
    refine wp_seq ?_
    refine c_cond hE rfl ?_ ?_
    · intro hb12
      have hs9 := ite_t hs9 hb12
      refine wp_skip ?_
      refine c_nx ?_
      refine wp_seq ?_
      refine wp_block ?_
      refine c_region ?_
      refine s_move hE goes_none (by decide) rfl ?_; intro a hE
      refine s_assign hE goes_none (by decide) rfl ?_; intro a hE
      refine c_fin ?_
      refine wp_region_lit ?_
      refine s_move hE goes_none (by decide) rfl ?_; intro a hE
      refine s_move hE goes_none (by decide) rfl ?_; intro a hE
      obtain ⟨x14, e15, hs9⟩ := bind_some hs9
      have hi13 := vidx_some e15
      refine s_indexA hE goes_none (by decide) rfl rfl Try.underlying55 ty44 hi13.1 ?_; intro a hE
      obtain ⟨x17, e18, hs9⟩ := bind_some hs9
      have hi16 := vidx_some e18
      refine s_indexA hE goes_none (by decide) rfl rfl Try.underlying44 ty5 hi16.1 ?_; intro a hE
      refine s_store (seg := [(vB 1)]) (cs' := Flat.enc (s8.1.setIfInBounds (s8.2).toNat (x14.setIfInBounds (s8.2).toNat 1))) hE hM goes_none rfl rfl rfl ty5 rfl (fit_vecI (o' := 0 + (s8.2).toNat * 1) hi13 (fit_vec (v := x14) (x := 1) hi16.1) (by first | omega | (simp only [Flat.n] <;> omega))) (Flat.cell (1 : UInt8)) (splice_vecI (o' := 0 + (s8.2).toNat * 1) hi13 (fit_vec (v := x14) (x := 1) hi16.1) (splice_vec0 (v := x14) (x := 1) hi16.1) (by first | omega | (simp only [Flat.n] <;> omega))) ?_; intro w a hM hE
      refine c_fin0 ?_
      refine c_nb ?_
      refine c_nx ?_
      refine wp_region_lit ?_
      refine s_int hE goes_none (by decide) rfl rfl rfl ?_; intro a hE
      refine s_move hE goes_none (by decide) rfl ?_; intro a hE
      refine c_fin0 ?_
      refine c_mid ?_
      exact ⟨_, (Option.some.inj hs9).symm, hE.sub ⟨rfl, rfl, rfl, trivial⟩, hM⟩
    · intro hb12
      have hs9 := ite_f hs9 hb12
      refine wp_exit (e_then (e_then (e_eq ?_)))
      have ht19 := hx10 _ (Option.some.inj hs9).symm
      subst ht19
      refine c_mid ?_
      exact ⟨hE.sub ⟨rfl, rfl, trivial⟩, hM⟩
  · skip
    rintro a w ⟨hE, hM⟩
    refine c_nx ?_
    refine c_region ?_
    refine s_loadA (cs := Flat.enc j5) hE goes_none (by decide) rfl ty55 rfl (hM.rawAt (pre := [])) (Flat.len _) ?_; intro a hE
    have hM := hM.pull (pre := [_])
    refine s_store (seg := Flat.enc j5) (cs' := Flat.enc j5) hE hM goes_none rfl rfl rfl ty55 (Flat.len _) (Nat.le_of_eq ((Nat.zero_add _).trans (Eq.trans (Flat.len _) (Eq.symm (Flat.len _))))) (Flat.cell _) (splice_all (Eq.trans (Flat.len _) (Eq.symm (Flat.len _)))) ?_; intro w a hM hE
    refine c_fin ?_
    have hr := Option.some.inj hF7
    subst hr
    have hq20 : ResIs Try.prog _ _ (.cell 0 55) _ := res_cell hE rfl ty55 rfl (hM.rawAt (pre := [])) (Flat.len _) rfl
    have hM := M.fst (l := []) hM
    exact wp_ret (k_ret1 hE rfl hq20 ⟨_, rfl, rfl, hM.kept⟩)
noncomputable def L0_impl_field_times (p1 : UInt8) (p2 : UInt8) (s4 : Int × Int) : Option (Fl (Int × Int) Int) :=
  if (decide (s4.2 < 8)) = true then (((nonneg s4.2).bind fun _ => (if (((shrB p2 s4.2) &&& 1) == 1) = true then ((nonneg s4.2).bind fun _ => some (xorI s4.1 (shlI (bI p1) s4.2))) else (some s4.1) : Option (Int)).bind fun (j13 : Int) => some j13 : Option (Int)).bind fun (j9 : Int) => some (Fl.nx (j9, wr (s4.2 + 1)))) else (some (Fl.ex s4.1))
noncomputable def F_impl_field_times (p0 : Int) (p1 : UInt8) (p2 : UInt8) : Option (UInt8) :=
  (iter (L0_impl_field_times p1 p2) (0, 0) : Option (Int)).bind fun (j1 : Int) => (F_impl_rest j1 p0 8).bind fun (r22 : Int) => some (byteI r22)
set_option maxRecDepth 20000 in
set_option maxHeartbeats 400000 in
theorem c_impl_field_times (w0 : World) (p0 : Int) (p1 : UInt8) (p2 : UInt8) (r : UInt8) (hF : F_impl_field_times p0 p1 p2 = some r) :
    Calls Try.prog 189 [(vI p0), (vB p1), (vB p2)].toArray w0 (fun en w' => ∃ v, en = .returned v ∧ (v = (vB r) ∧ Kept (Old w0) w0 w')) := by
  refine c_enter (n := 28) Try.func189 rfl rfl (Nat.le_of_ble_eq_true rfl) rfl ?_
  intro a hE
  have hM := M.start w0
  unfold F_impl_field_times at hF
  refine c_region ?_
  refine s_assign hE goes_none (by decide) rfl ?_; intro a hE
  refine c_fin ?_
  refine c_region ?_
  refine s_assign hE goes_none (by decide) rfl ?_; intro a hE
  refine c_fin ?_
  refine wp_seq ?_
  refine c_region ?_
  refine s_move hE goes_none (by decide) rfl ?_; intro a hE
  refine c_fin ?_
  obtain ⟨j1, hl2, hF3⟩ := bind_some hF
  refine c_cut (fun a w => Env 28 a [(0, (vI p0)), (7, (vI j1))] ∧ M (Old w0) w0 w []) ?_ ?_
  · skip
    refine wp_block ?_
    refine c_loop (fun (s4 : Int × Int) a w => Env 28 a [(0, (vI p0)), (1, (vB p1)), (2, (vB p2)), (7, (vI s4.1)), (9, (vI s4.2))] ∧ M (Old w0) w0 w []) hl2 ⟨hE.sub ⟨rfl, rfl, rfl, rfl, rfl, trivial⟩, hM⟩ ?_
    rintro s4 a w ⟨hE, hM⟩ o7 hs5 hx6
    unfold L0_impl_field_times at hs5
    refine c_region ?_
    refine s_int hE goes_none (by decide) rfl rfl rfl ?_; intro a hE
    refine c_fin ?_
    refine wp_seq ?_
    refine c_cond hE rfl ?_ ?_
    · intro hb8
      have hs5 := ite_t hs5 hb8
      refine wp_skip ?_
      refine c_nx ?_
      obtain ⟨j9, hl10, hF11⟩ := bind_some hs5
      refine c_join (fun a w => Env 28 a [(0, (vI p0)), (1, (vB p1)), (2, (vB p2)), (7, (vI j9)), (9, (vI s4.2))] ∧ M (Old w0) w0 w []) ?_ ?_
      · skip
        refine wp_block ?_
        refine c_region ?_
        refine s_move hE goes_none (by decide) rfl ?_; intro a hE
        refine s_assign hE goes_none (by decide) rfl ?_; intro a hE
        refine c_fin ?_
        refine c_region ?_
        refine s_move hE goes_none (by decide) rfl ?_; intro a hE
        refine s_move hE goes_none (by decide) rfl ?_; intro a hE
        obtain ⟨_, e12, hl10⟩ := bind_some hl10
        have e12 := nonneg_some e12
        refine s_sh hE goes_none (by decide) rfl rfl (bB_shr _ _ e12) ?_; intro a hE
        refine s_int hE goes_none (by decide) rfl rfl (bB_and (shrB p2 s4.2) 1) ?_; intro a hE
        refine s_int hE goes_none (by decide) rfl rfl (bB_eql ((shrB p2 s4.2) &&& 1) 1) ?_; intro a hE
        refine c_fin ?_
        obtain ⟨j13, hl14, hF15⟩ := bind_some hl10
        refine c_cut (fun a w => Env 28 a [(0, (vI p0)), (1, (vB p1)), (2, (vB p2)), (7, (vI j13)), (9, (vI s4.2))] ∧ M (Old w0) w0 w []) ?_ ?_
        · skip
          refine c_cond hE rfl ?_ ?_
          · intro hb16
            have hl14 := ite_t hl14 hb16
            refine wp_region_lit ?_
            refine s_move hE goes_none (by decide) rfl ?_; intro a hE
            refine s_move hE goes_none (by decide) rfl ?_; intro a hE
            refine s_conv hE goes_none (by decide) rfl Try.underlying5 Try.underlying2 ?_; intro a hE
            rw [byte_wide] at hE
            refine s_move hE goes_none (by decide) rfl ?_; intro a hE
            obtain ⟨_, e17, hl14⟩ := bind_some hl14
            have e17 := nonneg_some e17
            refine s_sh hE goes_none (by decide) rfl rfl (bI_shl _ _ e17) ?_; intro a hE
            refine s_int hE goes_none (by decide) rfl rfl rfl ?_; intro a hE
            refine s_assign hE goes_none (by decide) rfl ?_; intro a hE
            refine c_fin0 ?_
            have ht18 := Option.some.inj hl14
            subst ht18
            refine c_mid ?_
            exact ⟨hE.sub ⟨rfl, rfl, rfl, rfl, rfl, trivial⟩, hM⟩
          · intro hb16
            have hl14 := ite_f hl14 hb16
            refine wp_skip ?_
            have ht19 := Option.some.inj hl14
            subst ht19
            refine c_mid ?_
            exact ⟨hE.sub ⟨rfl, rfl, rfl, rfl, rfl, trivial⟩, hM⟩
        · skip
          rintro a w ⟨hE, hM⟩
          refine c_nb ?_
          have ht20 := Option.some.inj hF15
          subst ht20
          refine c_mid ?_
          exact ⟨hE.sub ⟨rfl, rfl, rfl, rfl, rfl, trivial⟩, hM⟩
      · skip
        rintro a w ⟨hE, hM⟩
        refine wp_region_lit ?_
        refine s_int hE goes_none (by decide) rfl rfl rfl ?_; intro a hE
        refine s_move hE goes_none (by decide) rfl ?_; intro a hE
        refine c_fin0 ?_
        refine c_mid ?_
        exact ⟨_, (Option.some.inj hF11).symm, hE.sub ⟨rfl, rfl, rfl, rfl, rfl, trivial⟩, hM⟩
    · intro hb8
      have hs5 := ite_f hs5 hb8
      refine wp_exit (e_then (e_then (e_eq ?_)))
      have ht21 := hx6 _ (Option.some.inj hs5).symm
      subst ht21
      refine c_mid ?_
      exact ⟨hE.sub ⟨rfl, rfl, trivial⟩, hM⟩
  · skip
    rintro a w ⟨hE, hM⟩
    refine c_nx ?_
    refine c_region ?_
    refine s_move hE goes_none (by decide) rfl ?_; intro a hE
    refine s_move hE goes_none (by decide) rfl ?_; intro a hE
    obtain ⟨r22, e23, hF3⟩ := bind_some hF3
    refine s_call (vs := [(vI j1), (vI p0), (vI 8)]) hE goes_none (by decide) rfl cb185 (c_impl_rest _ j1 p0 8 r22 e23) ?_
    rintro v w a ⟨rfl, hK⟩ hE
    have hM := hM.keep hK
    refine s_conv hE goes_none (by decide) rfl Try.underlying2 Try.underlying5 ?_; intro a hE
    rw [byteI_val] at hE
    refine s_assign hE goes_none (by decide) rfl ?_; intro a hE
    refine c_fin ?_
    have hr := Option.some.inj hF3
    subst hr
    exact wp_ret (k_ret1 hE rfl (res_tmp hE rfl) ⟨_, rfl, rfl, hM.kept⟩)
noncomputable def L0_impl_field_power (p0 : Int) (s4 : UInt8 × Int × UInt8) : Option (Fl (UInt8 × Int × UInt8) UInt8) :=
  if (decide (s4.2.1 > 0)) = true then (((if ((Int.tmod s4.2.1 2) == 1) = true then ((F_impl_field_times p0 s4.2.2 s4.1).bind fun (r16 : UInt8) => some r16) else (some s4.2.2) : Option (UInt8)).bind fun (j12 : UInt8) => (F_impl_field_times p0 s4.1 s4.1).bind fun (r20 : UInt8) => some (r20, j12) : Option (UInt8 × UInt8)).bind fun (j9 : UInt8 × UInt8) => some (Fl.nx (j9.1, wr (Int.tdiv s4.2.1 2), j9.2))) else (some (Fl.ex s4.2.2))
noncomputable def F_impl_field_power (p0 : Int) (p1 : UInt8) (p2 : Int) : Option (UInt8) :=
  (iter (L0_impl_field_power p0) (p1, p2, 1) : Option (UInt8)).bind fun (j1 : UInt8) => some j1
set_option maxRecDepth 20000 in
set_option maxHeartbeats 400000 in
theorem c_impl_field_power (w0 : World) (p0 : Int) (p1 : UInt8) (p2 : Int) (r : UInt8) (hF : F_impl_field_power p0 p1 p2 = some r) :
    Calls Try.prog 202 [(vI p0), (vB p1), (vI p2)].toArray w0 (fun en w' => ∃ v, en = .returned v ∧ (v = (vB r) ∧ Kept (Old w0) w0 w')) := by
  refine c_enter (n := 24) Try.func202 rfl rfl (Nat.le_of_ble_eq_true rfl) rfl ?_
  intro a hE
  have hM := M.start w0
  unfold F_impl_field_power at hF
  refine c_region ?_
  refine s_assign hE goes_none (by decide) rfl ?_; intro a hE
  refine c_fin ?_
  refine c_region ?_
  refine s_assign hE goes_none (by decide) rfl ?_; intro a hE
  refine c_fin ?_
  obtain ⟨j1, hl2, hF3⟩ := bind_some hF
  refine c_join (fun a w => Env 24 a [(7, (vB j1))] ∧ M (Old w0) w0 w []) ?_ ?_
  · skip
    refine wp_block ?_
    refine c_loop (fun (s4 : UInt8 × Int × UInt8) a w => Env 24 a [(0, (vI p0)), (1, (vB s4.1)), (2, (vI s4.2.1)), (7, (vB s4.2.2))] ∧ M (Old w0) w0 w []) hl2 ⟨hE.sub ⟨rfl, rfl, rfl, rfl, trivial⟩, hM⟩ ?_
    rintro s4 a w ⟨hE, hM⟩ o7 hs5 hx6
    unfold L0_impl_field_power at hs5
    refine wp_seq ?_
    refine c_region ?_
    refine s_move hE goes_none (by decide) rfl ?_; intro a hE
    refine s_int hE goes_none (by decide) rfl rfl rfl ?_; intro a hE
    refine c_fin ?_
    refine c_cond hE rfl ?_ ?_
    · intro hb8
      have hs5 := ite_t hs5 hb8
      refine wp_skip ?_
      refine c_nx ?_
      obtain ⟨j9, hl10, hF11⟩ := bind_some hs5
      refine c_join (fun a w => Env 24 a [(0, (vI p0)), (1, (vB j9.1)), (2, (vI s4.2.1)), (7, (vB j9.2))] ∧ M (Old w0) w0 w []) ?_ ?_
      · skip
        refine wp_block ?_
        obtain ⟨j12, hl13, hF14⟩ := bind_some hl10
        refine c_join (fun a w => Env 24 a [(0, (vI p0)), (1, (vB s4.1)), (2, (vI s4.2.1)), (7, (vB j12))] ∧ M (Old w0) w0 w []) ?_ ?_
        · skip
          refine c_region ?_
          refine s_move hE goes_none (by decide) rfl ?_; intro a hE
          refine s_int hE goes_none (by decide) rfl rfl (bI_rem _ _ (by decide)) ?_; intro a hE
          refine s_int hE goes_none (by decide) rfl rfl rfl ?_; intro a hE
          refine c_fin ?_
          refine c_cond hE rfl ?_ ?_
          · intro hb15
            have hl13 := ite_t hl13 hb15
            refine wp_region_lit ?_
            refine s_move hE goes_none (by decide) rfl ?_; intro a hE
            refine s_move hE goes_none (by decide) rfl ?_; intro a hE
            refine s_move hE goes_none (by decide) rfl ?_; intro a hE
            obtain ⟨r16, e17, hl13⟩ := bind_some hl13
            refine s_call (vs := [(vI p0), (vB s4.2.2), (vB s4.1)]) hE goes_none (by decide) rfl cb189 (c_impl_field_times _ p0 s4.2.2 s4.1 r16 e17) ?_
            rintro v w a ⟨rfl, hK⟩ hE
            have hM := hM.keep hK
            refine s_assign hE goes_none (by decide) rfl ?_; intro a hE
            refine c_fin0 ?_
            have ht18 := Option.some.inj hl13
            subst ht18
            refine c_mid ?_
            exact ⟨hE.sub ⟨rfl, rfl, rfl, rfl, trivial⟩, hM⟩
          · intro hb15
            have hl13 := ite_f hl13 hb15
            refine wp_skip ?_
            have ht19 := Option.some.inj hl13
            subst ht19
            refine c_mid ?_
            exact ⟨hE.sub ⟨rfl, rfl, rfl, rfl, trivial⟩, hM⟩
        · skip
          rintro a w ⟨hE, hM⟩
          refine wp_region_lit ?_
          refine s_move hE goes_none (by decide) rfl ?_; intro a hE
          refine s_move hE goes_none (by decide) rfl ?_; intro a hE
          refine s_move hE goes_none (by decide) rfl ?_; intro a hE
          obtain ⟨r20, e21, hF14⟩ := bind_some hF14
          refine s_call (vs := [(vI p0), (vB s4.1), (vB s4.1)]) hE goes_none (by decide) rfl cb189 (c_impl_field_times _ p0 s4.1 s4.1 r20 e21) ?_
          rintro v w a ⟨rfl, hK⟩ hE
          have hM := hM.keep hK
          refine s_assign hE goes_none (by decide) rfl ?_; intro a hE
          refine c_fin0 ?_
          refine c_nb ?_
          have ht22 := Option.some.inj hF14
          subst ht22
          refine c_mid ?_
          exact ⟨hE.sub ⟨rfl, rfl, rfl, rfl, trivial⟩, hM⟩
      · skip
        rintro a w ⟨hE, hM⟩
        refine wp_region_lit ?_
        refine s_move hE goes_none (by decide) rfl ?_; intro a hE
        refine s_int hE goes_none (by decide) rfl rfl (bI_quo _ _ (by decide)) ?_; intro a hE
        refine s_assign hE goes_none (by decide) rfl ?_; intro a hE
        refine c_fin0 ?_
        refine c_mid ?_
        exact ⟨_, (Option.some.inj hF11).symm, hE.sub ⟨rfl, rfl, rfl, rfl, trivial⟩, hM⟩
    · intro hb8
      have hs5 := ite_f hs5 hb8
      refine wp_exit (e_then (e_then (e_eq ?_)))
      have ht23 := hx6 _ (Option.some.inj hs5).symm
      subst ht23
      refine c_mid ?_
      exact ⟨hE.sub ⟨rfl, trivial⟩, hM⟩
  · skip
    rintro a w ⟨hE, hM⟩
    refine c_region ?_
    refine s_move hE goes_none (by decide) rfl ?_; intro a hE
    refine s_assign hE goes_none (by decide) rfl ?_; intro a hE
    refine c_fin ?_
    have hr := Option.some.inj hF3
    subst hr
    exact wp_ret (k_ret1 hE rfl (res_tmp hE rfl) ⟨_, rfl, rfl, hM.kept⟩)
noncomputable def F_impl_field_inverse (p0 : Int) (p1 : UInt8) : Option (UInt8) :=
  (F_impl_field_power p0 p1 254).bind fun (r1 : UInt8) => some r1
set_option maxRecDepth 20000 in
set_option maxHeartbeats 400000 in
theorem c_impl_field_inverse (w0 : World) (p0 : Int) (p1 : UInt8) (r : UInt8) (hF : F_impl_field_inverse p0 p1 = some r) :
    Calls Try.prog 190 [(vI p0), (vB p1)].toArray w0 (fun en w' => ∃ v, en = .returned v ∧ (v = (vB r) ∧ Kept (Old w0) w0 w')) := by
  refine c_enter (n := 8) Try.func190 rfl rfl (Nat.le_of_ble_eq_true rfl) rfl ?_
  intro a hE
  have hM := M.start w0
  unfold F_impl_field_inverse at hF
  refine c_region ?_
  refine s_assign hE goes_none (by decide) rfl ?_; intro a hE
  refine c_fin ?_
  refine c_region ?_
  refine s_move hE goes_none (by decide) rfl ?_; intro a hE
  refine s_move hE goes_none (by decide) rfl ?_; intro a hE
  obtain ⟨r1, e2, hF⟩ := bind_some hF
  refine s_call (vs := [(vI p0), (vB p1), (vI 254)]) hE goes_none (by decide) rfl cb202 (c_impl_field_power _ p0 p1 254 r1 e2) ?_
  rintro v w a ⟨rfl, hK⟩ hE
  have hM := hM.keep hK
  refine s_assign hE goes_none (by decide) rfl ?_; intro a hE
  refine c_fin ?_
  have hr := Option.some.inj hF
  subst hr
  exact wp_ret (k_ret1 hE rfl (res_tmp hE rfl) ⟨_, rfl, rfl, hM.kept⟩)
noncomputable def L1_impl_field_invert (s13 : (Vector (Vector UInt8 4) 4) × (Vector (Vector UInt8 4) 4) × Int × UInt8) (s21 : Int) : Option (Fl Int Int) :=
  (if (decide (s21 < 4)) = true then ((vidx s13.1 s21).bind fun (x30 : (Vector UInt8 4)) => (vidx x30 s13.2.2.1).bind fun (x33 : UInt8) => some (x33 == 0)) else (some false) : Option (Bool)).bind fun (j25 : Bool) => if j25 = true then (some (Fl.nx (wr (s21 + 1)))) else (some (Fl.ex s21))
noncomputable def L2_impl_field_invert (p0 : Int) (s13 : (Vector (Vector UInt8 4) 4) × (Vector (Vector UInt8 4) 4) × Int × UInt8) (r90 : UInt8) (s95 : (Vector (Vector UInt8 4) 4) × (Vector (Vector UInt8 4) 4) × Int) : Option (Fl ((Vector (Vector UInt8 4) 4) × (Vector (Vector UInt8 4) 4) × Int) ((Vector (Vector UInt8 4) 4) × (Vector (Vector UInt8 4) 4))) :=
  if (decide (s95.2.2 < 4)) = true then ((vidx s95.1 s13.2.2.1).bind fun (x102 : (Vector UInt8 4)) => (vidx x102 s95.2.2).bind fun (x105 : UInt8) => (F_impl_field_times p0 x105 r90).bind fun (r107 : UInt8) => (vidx s95.2.1 s13.2.2.1).bind fun (x110 : (Vector UInt8 4)) => (vidx x110 s95.2.2).bind fun (x113 : UInt8) => (F_impl_field_times p0 x113 r90).bind fun (r115 : UInt8) => (vidx s95.1 s13.2.2.1).bind fun (x118 : (Vector UInt8 4)) => (vidx x118 s95.2.2).bind fun (x121 : UInt8) => (vidx s95.2.1 s13.2.2.1).bind fun (x124 : (Vector UInt8 4)) => (vidx x124 s95.2.2).bind fun (x127 : UInt8) => some (Fl.nx ((s95.1.setIfInBounds (s13.2.2.1).toNat (x118.setIfInBounds (s95.2.2).toNat r107)), (s95.2.1.setIfInBounds (s13.2.2.1).toNat (x124.setIfInBounds (s95.2.2).toNat r115)), wr (s95.2.2 + 1)))) else (some (Fl.ex (s95.1, s95.2.1)))
noncomputable def L4_impl_field_invert (p0 : Int) (s13 : (Vector (Vector UInt8 4) 4) × (Vector (Vector UInt8 4) 4) × Int × UInt8) (s133 : (Vector (Vector UInt8 4) 4) × (Vector (Vector UInt8 4) 4) × Int) (x145 : UInt8) (s160 : (Vector (Vector UInt8 4) 4) × (Vector (Vector UInt8 4) 4) × Int) : Option (Fl ((Vector (Vector UInt8 4) 4) × (Vector (Vector UInt8 4) 4) × Int) ((Vector (Vector UInt8 4) 4) × (Vector (Vector UInt8 4) 4))) :=
  if (decide (s160.2.2 < 4)) = true then (((vidx s160.1 s133.2.2).bind fun (x170 : (Vector UInt8 4)) => (vidx x170 s160.2.2).bind fun (x173 : UInt8) => (vidx s160.1 s13.2.2.1).bind fun (x176 : (Vector UInt8 4)) => (vidx x176 s160.2.2).bind fun (x179 : UInt8) => (F_impl_field_times p0 x145 x179).bind fun (r181 : UInt8) => (vidx s160.1 s133.2.2).bind fun (x184 : (Vector UInt8 4)) => (vidx x184 s160.2.2).bind fun (x187 : UInt8) => some (s160.1.setIfInBounds (s133.2.2).toNat (x184.setIfInBounds (s160.2.2).toNat (x173 ^^^ r181))) : Option ((Vector (Vector UInt8 4) 4))).bind fun (j165 : (Vector (Vector UInt8 4) 4)) => (vidx s160.2.1 s133.2.2).bind fun (x192 : (Vector UInt8 4)) => (vidx x192 s160.2.2).bind fun (x195 : UInt8) => (vidx s160.2.1 s13.2.2.1).bind fun (x198 : (Vector UInt8 4)) => (vidx x198 s160.2.2).bind fun (x201 : UInt8) => (F_impl_field_times p0 x145 x201).bind fun (r203 : UInt8) => (vidx s160.2.1 s133.2.2).bind fun (x206 : (Vector UInt8 4)) => (vidx x206 s160.2.2).bind fun (x209 : UInt8) => some (Fl.nx (j165, (s160.2.1.setIfInBounds (s133.2.2).toNat (x206.setIfInBounds (s160.2.2).toNat (x195 ^^^ r203))), wr (s160.2.2 + 1)))) else (some (Fl.ex (s160.1, s160.2.1)))
noncomputable def L3_impl_field_invert (p0 : Int) (s13 : (Vector (Vector UInt8 4) 4) × (Vector (Vector UInt8 4) 4) × Int × UInt8) (s133 : (Vector (Vector UInt8 4) 4) × (Vector (Vector UInt8 4) 4) × Int) : Option (Fl ((Vector (Vector UInt8 4) 4) × (Vector (Vector UInt8 4) 4) × Int) ((Vector (Vector UInt8 4) 4) × (Vector (Vector UInt8 4) 4))) :=
  if (decide (s133.2.2 < 4)) = true then (((vidx s133.1 s133.2.2).bind fun (x142 : (Vector UInt8 4)) => (vidx x142 s13.2.2.1).bind fun (x145 : UInt8) => (if (s133.2.2 != s13.2.2.1) = true then (some (x145 != 0)) else (some false) : Option (Bool)).bind fun (j147 : Bool) => (if j147 = true then ((iter (L4_impl_field_invert p0 s13 s133 x145) (s133.1, s133.2.1, 0) : Option ((Vector (Vector UInt8 4) 4) × (Vector (Vector UInt8 4) 4))).bind fun (j157 : (Vector (Vector UInt8 4) 4) × (Vector (Vector UInt8 4) 4)) => some (j157.1, j157.2)) else (some (s133.1, s133.2.1)) : Option ((Vector (Vector UInt8 4) 4) × (Vector (Vector UInt8 4) 4))).bind fun (j153 : (Vector (Vector UInt8 4) 4) × (Vector (Vector UInt8 4) 4)) => some (j153.1, j153.2) : Option ((Vector (Vector UInt8 4) 4) × (Vector (Vector UInt8 4) 4))).bind fun (j138 : (Vector (Vector UInt8 4) 4) × (Vector (Vector UInt8 4) 4)) => some (Fl.nx (j138.1, j138.2, wr (s133.2.2 + 1)))) else (some (Fl.ex (s133.1, s133.2.1)))
noncomputable def L0_impl_field_invert (p0 : Int) (s13 : (Vector (Vector UInt8 4) 4) × (Vector (Vector UInt8 4) 4) × Int × UInt8) : Option (Fl ((Vector (Vector UInt8 4) 4) × (Vector (Vector UInt8 4) 4) × Int × UInt8) (Fl ((Vector (Vector UInt8 4) 4) × UInt8) (UInt8 × (Vector (Vector UInt8 4) 4)))) :=
  if (decide (s13.2.2.1 < 4)) = true then ((iter (L1_impl_field_invert s13) s13.2.2.1 : Option (Int)).bind fun (j18 : Int) => if (j18 == 4) = true then (some (Fl.ex (Fl.ex (0, (Vector.replicate 4 (Vector.replicate 4 (0 : UInt8))))))) else (((vidx s13.1 s13.2.2.1).bind fun (x47 : (Vector UInt8 4)) => (vidx s13.1 j18).bind fun (x50 : (Vector UInt8 4)) => (vidx s13.1 j18).bind fun (x53 : (Vector UInt8 4)) => (vidx (s13.1.setIfInBounds (j18).toNat x47) s13.2.2.1).bind fun (x56 : (Vector UInt8 4)) => some ((s13.1.setIfInBounds (j18).toNat x47).setIfInBounds (s13.2.2.1).toNat x50) : Option ((Vector (Vector UInt8 4) 4))).bind fun (j42 : (Vector (Vector UInt8 4) 4)) => ((vidx s13.2.1 s13.2.2.1).bind fun (x64 : (Vector UInt8 4)) => (vidx s13.2.1 j18).bind fun (x67 : (Vector UInt8 4)) => (vidx s13.2.1 j18).bind fun (x70 : (Vector UInt8 4)) => (vidx (s13.2.1.setIfInBounds (j18).toNat x64) s13.2.2.1).bind fun (x73 : (Vector UInt8 4)) => some ((s13.2.1.setIfInBounds (j18).toNat x64).setIfInBounds (s13.2.2.1).toNat x67) : Option ((Vector (Vector UInt8 4) 4))).bind fun (j59 : (Vector (Vector UInt8 4) 4)) => (vidx j42 s13.2.2.1).bind fun (x77 : (Vector UInt8 4)) => (vidx x77 s13.2.2.1).bind fun (x80 : UInt8) => (F_impl_field_times p0 s13.2.2.2 x80).bind fun (r82 : UInt8) => (vidx j42 s13.2.2.1).bind fun (x85 : (Vector UInt8 4)) => (vidx x85 s13.2.2.1).bind fun (x88 : UInt8) => (F_impl_field_inverse p0 x88).bind fun (r90 : UInt8) => (iter (L2_impl_field_invert p0 s13 r90) (j42, j59, 0) : Option ((Vector (Vector UInt8 4) 4) × (Vector (Vector UInt8 4) 4))).bind fun (j92 : (Vector (Vector UInt8 4) 4) × (Vector (Vector UInt8 4) 4)) => (iter (L3_impl_field_invert p0 s13) (j92.1, j92.2, 0) : Option ((Vector (Vector UInt8 4) 4) × (Vector (Vector UInt8 4) 4))).bind fun (j130 : (Vector (Vector UInt8 4) 4) × (Vector (Vector UInt8 4) 4)) => some (Fl.nx (j130.1, j130.2, wr (s13.2.2.1 + 1), r82)))) else (some (Fl.ex (Fl.nx (s13.2.1, s13.2.2.2))))
noncomputable def F_impl_field_invert (p0 : Int) (p1 : (Vector (Vector UInt8 4) 4)) : Option (UInt8 × (Vector (Vector UInt8 4) 4)) :=
  (F_impl_UnitMatrix).bind fun (r5 : (Vector (Vector UInt8 4) 4)) => (iter (L0_impl_field_invert p0) (p1, r5, 0, 1) : Option (Fl ((Vector (Vector UInt8 4) 4) × UInt8) (UInt8 × (Vector (Vector UInt8 4) 4)))).bind fun (j9 : Fl ((Vector (Vector UInt8 4) 4) × UInt8) (UInt8 × (Vector (Vector UInt8 4) 4))) => j9.el (fun (s12 : (Vector (Vector UInt8 4) 4) × UInt8) => (some (s12.1, s12.2) : Option ((Vector (Vector UInt8 4) 4) × UInt8)).bind fun (j217 : (Vector (Vector UInt8 4) 4) × UInt8) => some (j217.2, j217.1)) (fun r => some r)
set_option maxRecDepth 20000 in
set_option maxHeartbeats 400000 in
theorem c_impl_field_invert (w0 : World) (p0 : Int) (p1 : (Vector (Vector UInt8 4) 4)) (r : UInt8 × (Vector (Vector UInt8 4) 4)) (hF : F_impl_field_invert p0 p1 = some r) :
    Calls Try.prog 152 [(vI p0), (Value.agg (Flat.enc p1).toArray)].toArray w0 (fun en w' => ∃ v, en = .returned v ∧ (v = (Value.tuple [(vB r.1), (Value.agg (Flat.enc r.2).toArray)].toArray) ∧ Kept (Old w0) w0 w')) := by
  refine c_enter (n := 153) Try.func152 rfl rfl (Nat.le_of_ble_eq_true rfl) rfl ?_
  intro a hE
  have hM := M.start w0
  unfold F_impl_field_invert at hF
  refine c_region ?_
  refine s_box (cs := Flat.enc p1) hE hM goes_none (by decide) rfl rfl ?_; intro b1 w a hM hE
  refine s_assign hE goes_none (by decide) rfl ?_; intro a hE
  refine s_alloc hE hM goes_none (by decide) ty55 ?_; intro b3 w a hM hE
  refine c_fin ?_
  refine c_region ?_
  obtain ⟨r5, e6, hF⟩ := bind_some hF
  refine s_call (vs := []) hE goes_none (by decide) rfl cb194 (c_impl_UnitMatrix _  r5 e6) ?_
  rintro v w a ⟨rfl, hK⟩ hE
  have hM := hM.keep hK
  refine s_alloc hE hM goes_none (by decide) ty55 ?_; intro b7 w a hM hE
  refine s_store (seg := Flat.enc r5) (cs' := Flat.enc r5) hE hM goes_none rfl rfl rfl ty55 (Flat.len _) (Nat.le_of_eq ((Nat.zero_add _).trans (Eq.trans (Flat.len _) (Eq.symm (Flat.len _))))) (Flat.cell _) (splice_all (Eq.trans (Flat.len _) (Eq.symm (Flat.len _)))) ?_; intro w a hM hE
  refine s_assign hE goes_none (by decide) rfl ?_; intro a hE
  refine c_fin ?_
  refine wp_seq ?_
  refine c_region ?_
  refine s_move hE goes_none (by decide) rfl ?_; intro a hE
  refine c_fin ?_
  obtain ⟨j9, hl10, hF11⟩ := bind_some hF
  refine c_cut (fun a w => ∃ s12 : (Vector (Vector UInt8 4) 4) × UInt8, j9 = Fl.nx s12 ∧ Env 153 a [(5, (ptr b3 0)), (6, (ptr b7 0)), (7, (vB s12.2))] ∧ M (Old w0) w0 w [raw b7 (Flat.enc s12.1), raw b3 (Flat.enc (Vector.replicate 4 (Vector.replicate 4 (0 : UInt8))))]) ?_ ?_
  · skip
    refine wp_block ?_
    refine c_loop (fun (s13 : (Vector (Vector UInt8 4) 4) × (Vector (Vector UInt8 4) 4) × Int × UInt8) a w => Env 153 a [(0, (vI p0)), (3, (ptr b1 0)), (5, (ptr b3 0)), (6, (ptr b7 0)), (7, (vB s13.2.2.2)), (16, (vI s13.2.2.1))] ∧ M (Old w0) w0 w [raw b7 (Flat.enc s13.2.1), raw b3 (Flat.enc (Vector.replicate 4 (Vector.replicate 4 (0 : UInt8)))), raw b1 (Flat.enc s13.1)]) hl10 ⟨hE.sub ⟨rfl, rfl, rfl, rfl, rfl, rfl, trivial⟩, hM⟩ ?_
    rintro s13 a w ⟨hE, hM⟩ o16 hs14 hx15
    unfold L0_impl_field_invert at hs14
    refine c_region ?_
    refine s_int hE goes_none (by decide) rfl rfl rfl ?_; intro a hE
    refine c_fin ?_
    refine wp_seq ?_
    refine c_cond hE rfl ?_ ?_
    · intro hb17
      have hs14 := ite_t hs14 hb17
      refine wp_skip ?_
      refine c_nx ?_
      refine wp_seq ?_
      refine wp_block ?_
      refine c_region ?_
      refine s_move hE goes_none (by decide) rfl ?_; intro a hE
      refine s_assign hE goes_none (by decide) rfl ?_; intro a hE
      refine c_fin ?_
      refine c_region ?_
      refine s_move hE goes_none (by decide) rfl ?_; intro a hE
      refine s_assign hE goes_none (by decide) rfl ?_; intro a hE
      refine c_fin ?_
      obtain ⟨j18, hl19, hF20⟩ := bind_some hs14
      refine c_join (fun a w => Env 153 a [(0, (vI p0)), (3, (ptr b1 0)), (5, (ptr b3 0)), (6, (ptr b7 0)), (7, (vB s13.2.2.2)), (8, (vI s13.2.2.1)), (9, (vI j18)), (16, (vI s13.2.2.1))] ∧ M (Old w0) w0 w [raw b7 (Flat.enc s13.2.1), raw b3 (Flat.enc (Vector.replicate 4 (Vector.replicate 4 (0 : UInt8)))), raw b1 (Flat.enc s13.1)]) ?_ ?_
      · skip
        refine wp_block ?_
        refine c_loop (fun (s21 : Int) a w => Env 153 a [(0, (vI p0)), (3, (ptr b1 0)), (5, (ptr b3 0)), (6, (ptr b7 0)), (7, (vB s13.2.2.2)), (8, (vI s13.2.2.1)), (9, (vI s21)), (16, (vI s13.2.2.1))] ∧ M (Old w0) w0 w [raw b7 (Flat.enc s13.2.1), raw b3 (Flat.enc (Vector.replicate 4 (Vector.replicate 4 (0 : UInt8)))), raw b1 (Flat.enc s13.1)]) hl19 ⟨hE.sub ⟨rfl, rfl, rfl, rfl, rfl, rfl, rfl, rfl, trivial⟩, hM⟩ ?_
        rintro s21 a w ⟨hE, hM⟩ o24 hs22 hx23
        unfold L1_impl_field_invert at hs22
        refine wp_seq ?_
        obtain ⟨j25, hl26, hF27⟩ := bind_some hs22
        refine c_join (fun a w => Env 153 a [(0, (vI p0)), (3, (ptr b1 0)), (5, (ptr b3 0)), (6, (ptr b7 0)), (7, (vB s13.2.2.2)), (8, (vI s13.2.2.1)), (9, (vI s21)), (16, (vI s13.2.2.1)), (29, (vT j25))] ∧ M (Old w0) w0 w [raw b7 (Flat.enc s13.2.1), raw b3 (Flat.enc (Vector.replicate 4 (Vector.replicate 4 (0 : UInt8)))), raw b1 (Flat.enc s13.1)]) ?_ ?_
        · skip
          refine wp_region_lit ?_
          refine s_move hE goes_none (by decide) rfl ?_; intro a hE
          refine s_int hE goes_none (by decide) rfl rfl rfl ?_; intro a hE
          refine s_move hE goes_none (by decide) rfl ?_; intro a hE
          refine splitB (decide (s21 < 4)) (fun hb28 => ?_) (fun hb28 => ?_)
          · have hl26 := ite_t hl26 hb28
            refine s_move hE (goes_yes hE rfl (lkb rfl hb28)) (by decide) rfl ?_; intro a hE
            refine s_move hE (goes_yes hE rfl (lkb rfl hb28)) (by decide) rfl ?_; intro a hE
            obtain ⟨x30, e31, hl26⟩ := bind_some hl26
            have hi29 := vidx_some e31
            refine s_indexA hE (goes_yes hE rfl (lkb rfl hb28)) (by decide) rfl rfl Try.underlying55 ty44 hi29.1 ?_; intro a hE
            obtain ⟨x33, e34, hl26⟩ := bind_some hl26
            have hi32 := vidx_some e34
            refine s_indexA hE (goes_yes hE rfl (lkb rfl hb28)) (by decide) rfl rfl Try.underlying44 ty5 hi32.1 ?_; intro a hE
            refine s_load (v := (vB x33)) hE (goes_yes hE rfl (lkb rfl hb28)) (by decide) rfl ty5 rfl (At.vec (At.vec (hM.rawAt (pre := [_, _])) hi29.2) hi32.2) ?_; intro a hE
            refine s_int hE (goes_yes hE rfl (lkb rfl hb28)) (by decide) rfl rfl (bB_eql x33 0) ?_; intro a hE
            refine s_pickT hE goes_none (by decide) (lkb rfl hb28) rfl ?_; intro a hE
            refine c_fin0 ?_
            have ht35 := Option.some.inj hl26
            subst ht35
            refine c_mid ?_
            exact ⟨hE.sub ⟨rfl, rfl, rfl, rfl, rfl, rfl, rfl, rfl, rfl, trivial⟩, hM⟩
          · have hl26 := ite_f hl26 hb28
            refine s_skip hE rfl (lkb rfl hb28) rfl (by decide) ?_; intro a hE
            refine s_skip hE rfl (lkb rfl hb28) rfl (by decide) ?_; intro a hE
            refine s_skip hE rfl (lkb rfl hb28) rfl (by decide) ?_; intro a hE
            refine s_skip hE rfl (lkb rfl hb28) rfl (by decide) ?_; intro a hE
            refine s_skip hE rfl (lkb rfl hb28) rfl (by decide) ?_; intro a hE
            refine s_skip hE rfl (lkb rfl hb28) rfl (by decide) ?_; intro a hE
            refine s_pickF hE goes_none (by decide) (lkb rfl hb28) rfl ?_; intro a hE
            refine c_fin0 ?_
            have ht36 := Option.some.inj hl26
            subst ht36
            refine c_mid ?_
            exact ⟨hE.sub ⟨rfl, rfl, rfl, rfl, rfl, rfl, rfl, rfl, rfl, trivial⟩, hM⟩
        · skip
          rintro a w ⟨hE, hM⟩
          refine c_cond hE rfl ?_ ?_
          · intro hb37
            have hF27 := ite_t hF27 hb37
            refine wp_skip ?_
            refine c_nx ?_
            refine wp_block ?_
            refine wp_region_lit ?_
            refine s_move hE goes_none (by decide) rfl ?_; intro a hE
            refine s_int hE goes_none (by decide) rfl rfl rfl ?_; intro a hE
            refine s_assign hE goes_none (by decide) rfl ?_; intro a hE
            refine c_fin0 ?_
            refine c_nb ?_
            refine c_mid ?_
            exact ⟨_, (Option.some.inj hF27).symm, hE.sub ⟨rfl, rfl, rfl, rfl, rfl, rfl, rfl, rfl, trivial⟩, hM⟩
          · intro hb37
            have hF27 := ite_f hF27 hb37
            refine wp_exit (e_then (e_then (e_eq ?_)))
            have ht38 := hx23 _ (Option.some.inj hF27).symm
            subst ht38
            refine c_mid ?_
            exact ⟨hE.sub ⟨rfl, rfl, rfl, rfl, rfl, rfl, rfl, rfl, trivial⟩, hM⟩
      · skip
        rintro a w ⟨hE, hM⟩
        refine wp_seq ?_
        refine c_region ?_
        refine s_move hE goes_none (by decide) rfl ?_; intro a hE
        refine s_int hE goes_none (by decide) rfl rfl rfl ?_; intro a hE
        refine c_fin ?_
        refine c_cond hE rfl ?_ ?_
        · intro hb39
          have hF20 := ite_t hF20 hb39
          refine c_region ?_
          refine s_buildA (parts := []) (vs := []) (cs := Flat.enc (Vector.replicate 4 (Vector.replicate 4 (0 : UInt8)))) hE goes_none (by decide) rfl rfl ty55 rfl ty44 filla_nil ?_; intro a hE
          refine s_assign hE goes_none (by decide) rfl ?_; intro a hE
          have hM := hM.pull (pre := [_])
          refine s_store (seg := Flat.enc (Vector.replicate 4 (Vector.replicate 4 (0 : UInt8)))) (cs' := Flat.enc (Vector.replicate 4 (Vector.replicate 4 (0 : UInt8)))) hE hM goes_none rfl rfl rfl ty55 (Flat.len _) (Nat.le_of_eq ((Nat.zero_add _).trans (Eq.trans (Flat.len _) (Eq.symm (Flat.len _))))) (Flat.cell _) (splice_all (Eq.trans (Flat.len _) (Eq.symm (Flat.len _)))) ?_; intro w a hM hE
          refine c_fin ?_
          have ht40 := hx15 _ (Option.some.inj hF20).symm
          subst ht40
          have hr := Option.some.inj hF11
          subst hr
          have hq41 : ResIs Try.prog _ _ (.cell 5 55) _ := res_cell hE rfl ty55 rfl (hM.rawAt (pre := [])) (Flat.len _) rfl
          have hM := M.fst (l := []) hM
          exact wp_ret (r_then (r_inb (r_then (r_then (r_inb (r_then (r_then (k_ret2 hE rfl (res_tmp hE rfl) hq41 ⟨_, rfl, rfl, hM.kept⟩))))))))
        · intro hb39
          have hF20 := ite_f hF20 hb39
          refine wp_skip ?_
          refine c_nx ?_
          obtain ⟨j42, hl43, hF44⟩ := bind_some hF20
          refine c_join (fun a w => Env 153 a [(0, (vI p0)), (3, (ptr b1 0)), (5, (ptr b3 0)), (6, (ptr b7 0)), (7, (vB s13.2.2.2)), (8, (vI s13.2.2.1)), (9, (vI j18)), (16, (vI s13.2.2.1))] ∧ M (Old w0) w0 w [raw b7 (Flat.enc s13.2.1), raw b3 (Flat.enc (Vector.replicate 4 (Vector.replicate 4 (0 : UInt8)))), raw b1 (Flat.enc j42)]) ?_ ?_
          · skip
            have hM := hM.pull (pre := [_, _])
            obtain ⟨x47, e48, hl43⟩ := bind_some hl43
            have hi46 := vidx_some e48
            obtain ⟨x50, e51, hl43⟩ := bind_some hl43
            have hi49 := vidx_some e51
            obtain ⟨x53, e54, hl43⟩ := bind_some hl43
            have hi52 := vidx_some e54
            refine c_draw3 (n := 153) (hd := [_, _, _, _, _, _, _, _, _, _]) (tl := [_, _]) hmix rfl rfl [35, 36, 37, 38, 39, 40, 41, 42, 43, 162] (by decide) (fun D u w => M (Old w0) w0 w ([raw b7 (Flat.enc s13.2.1), raw b3 (Flat.enc (Vector.replicate 4 (Vector.replicate 4 (0 : UInt8))))] ++ qL ([mkT 9 (raw b1 (Flat.enc s13.1)) (raw b1 (Flat.enc (s13.1.setIfInBounds (j18).toNat x47)))] : Mk) D u) ∧ GOk ([([], fun us v => v = (vI j18)), ([], fun us v => v = (vI s13.2.2.1)), ([], fun us v => v = (vI s13.2.2.1)), ([], fun us v => v = (ptr b1 (0 + (s13.2.2.1).toNat * 4))), ([], fun us v => v = (Value.agg (Flat.enc x47).toArray)), ([], fun us v => v = (vI j18)), ([], fun us v => v = (ptr b1 (0 + (j18).toNat * 4))), ([], fun us v => v = (Value.agg (Flat.enc x50).toArray)), ([], fun us v => v = (ptr b1 (0 + (j18).toNat * 4))), ([], fun us v => True)] : Gs) D u) hE (fun u => ⟨M.qT (M.q0 hM.drew u), gok0⟩) (steps_of (steps_cons ?_ (steps_cons ?_ (steps_cons ?_ (steps_cons ?_ (steps_cons ?_ (steps_cons ?_ (steps_cons ?_ (steps_cons ?_ (steps_cons ?_ (steps_cons ?_ steps_nil))))))))))) ?_
            · intro a w ux45 D hE hI hD hdc hp
              have hM0 := hI.1
              have hM : M (Old w0) w0 w [raw b7 (Flat.enc s13.2.1), raw b3 (Flat.enc (Vector.replicate 4 (Vector.replicate 4 (0 : UInt8)))), tog (D 9) (raw b1 (Flat.enc s13.1)) (raw b1 (Flat.enc (s13.1.setIfInBounds (j18).toNat x47)))] := hI.1
              have hM := hM.togA (pre := [_, _]) (Bool.eq_false_iff.2 fun hx => Bool.noConfusion (hD.symm.trans (hdc 9 _ _ rfl (List.mem_of_getElem? (i := 2) rfl) rfl hx)))
              refine s_move hE goes_none (by decide) rfl ?_; intro a hE
              exact ⟨_, _, rfl, hE, M.qKeep hM0 rfl, hI.2.put hD rfl allN rfl⟩
            · intro a w ux45 D hE hI hD hdc hp
              have hM0 := hI.1
              have hM : M (Old w0) w0 w [raw b7 (Flat.enc s13.2.1), raw b3 (Flat.enc (Vector.replicate 4 (Vector.replicate 4 (0 : UInt8)))), tog (D 9) (raw b1 (Flat.enc s13.1)) (raw b1 (Flat.enc (s13.1.setIfInBounds (j18).toNat x47)))] := hI.1
              refine s_move hE goes_none (by decide) rfl ?_; intro a hE
              exact ⟨_, _, rfl, hE, M.qKeep hM0 rfl, hI.2.put hD rfl allN rfl⟩
            · intro a w ux45 D hE hI hD hdc hp
              have hM0 := hI.1
              have hM : M (Old w0) w0 w [raw b7 (Flat.enc s13.2.1), raw b3 (Flat.enc (Vector.replicate 4 (Vector.replicate 4 (0 : UInt8)))), tog (D 9) (raw b1 (Flat.enc s13.1)) (raw b1 (Flat.enc (s13.1.setIfInBounds (j18).toNat x47)))] := hI.1
              have hM := hM.togA (pre := [_, _]) (Bool.eq_false_iff.2 fun hx => Bool.noConfusion (hD.symm.trans (hdc 9 _ _ rfl (List.mem_of_getElem? (i := 4) rfl) rfl hx)))
              refine s_move hE goes_none (by decide) rfl ?_; intro a hE
              exact ⟨_, _, rfl, hE, M.qKeep hM0 rfl, hI.2.put hD rfl allN rfl⟩
            · intro a w ux45 D hE hI hD hdc hp
              have d2 : D 2 = true := hp 0 _ rfl rfl
              have g2 := hI.2 2 d2 _ rfl
              have f2 : ux45 2 = (vI s13.2.2.1) := g2.2
              have hM0 := hI.1
              have hM : M (Old w0) w0 w [raw b7 (Flat.enc s13.2.1), raw b3 (Flat.enc (Vector.replicate 4 (Vector.replicate 4 (0 : UInt8)))), tog (D 9) (raw b1 (Flat.enc s13.1)) (raw b1 (Flat.enc (s13.1.setIfInBounds (j18).toNat x47)))] := hI.1
              have hM := hM.togA (pre := [_, _]) (Bool.eq_false_iff.2 fun hx => Bool.noConfusion (hD.symm.trans (hdc 9 _ _ rfl (List.mem_of_getElem? (i := 5) rfl) rfl hx)))
              refine s_indexA hE goes_none (by decide) rfl (lk rfl f2) Try.underlying55 ty44 hi46.1 ?_; intro a hE
              exact ⟨_, _, rfl, hE, M.qKeep hM0 rfl, hI.2.put hD rfl allN rfl⟩
            · intro a w ux45 D hE hI hD hdc hp
              have d3 : D 3 = true := hp 0 _ rfl rfl
              have g3 := hI.2 3 d3 _ rfl
              have f3 : ux45 3 = (ptr b1 (0 + (s13.2.2.1).toNat * 4)) := g3.2
              have hM0 := hI.1
              have hM : M (Old w0) w0 w [raw b7 (Flat.enc s13.2.1), raw b3 (Flat.enc (Vector.replicate 4 (Vector.replicate 4 (0 : UInt8)))), tog (D 9) (raw b1 (Flat.enc s13.1)) (raw b1 (Flat.enc (s13.1.setIfInBounds (j18).toNat x47)))] := hI.1
              have hM := hM.togA (pre := [_, _]) (Bool.eq_false_iff.2 fun hx => Bool.noConfusion (hD.symm.trans (hdc 9 _ _ rfl (List.mem_of_getElem? (i := 1) rfl) rfl hx)))
              refine s_loadA (cs := Flat.enc x47) hE goes_none (by decide) (lk rfl f3) ty44 rfl (At.vec (hM.rawAt (pre := [_, _])) hi46.2) (Flat.len _) ?_; intro a hE
              exact ⟨_, _, rfl, hE, M.qKeep hM0 rfl, hI.2.put hD rfl allN rfl⟩
            · intro a w ux45 D hE hI hD hdc hp
              have hM0 := hI.1
              have hM : M (Old w0) w0 w [raw b7 (Flat.enc s13.2.1), raw b3 (Flat.enc (Vector.replicate 4 (Vector.replicate 4 (0 : UInt8)))), tog (D 9) (raw b1 (Flat.enc s13.1)) (raw b1 (Flat.enc (s13.1.setIfInBounds (j18).toNat x47)))] := hI.1
              refine s_move hE goes_none (by decide) rfl ?_; intro a hE
              exact ⟨_, _, rfl, hE, M.qKeep hM0 rfl, hI.2.put hD rfl allN rfl⟩
            · intro a w ux45 D hE hI hD hdc hp
              have d5 : D 5 = true := hp 0 _ rfl rfl
              have g5 := hI.2 5 d5 _ rfl
              have f5 : ux45 5 = (vI j18) := g5.2
              have hM0 := hI.1
              have hM : M (Old w0) w0 w [raw b7 (Flat.enc s13.2.1), raw b3 (Flat.enc (Vector.replicate 4 (Vector.replicate 4 (0 : UInt8)))), tog (D 9) (raw b1 (Flat.enc s13.1)) (raw b1 (Flat.enc (s13.1.setIfInBounds (j18).toNat x47)))] := hI.1
              have hM := hM.togA (pre := [_, _]) (Bool.eq_false_iff.2 fun hx => Bool.noConfusion (hD.symm.trans (hdc 9 _ _ rfl (List.mem_of_getElem? (i := 8) rfl) rfl hx)))
              refine s_indexA hE goes_none (by decide) rfl (lk rfl f5) Try.underlying55 ty44 hi49.1 ?_; intro a hE
              exact ⟨_, _, rfl, hE, M.qKeep hM0 rfl, hI.2.put hD rfl allN rfl⟩
            · intro a w ux45 D hE hI hD hdc hp
              have d6 : D 6 = true := hp 0 _ rfl rfl
              have g6 := hI.2 6 d6 _ rfl
              have f6 : ux45 6 = (ptr b1 (0 + (j18).toNat * 4)) := g6.2
              have hM0 := hI.1
              have hM : M (Old w0) w0 w [raw b7 (Flat.enc s13.2.1), raw b3 (Flat.enc (Vector.replicate 4 (Vector.replicate 4 (0 : UInt8)))), tog (D 9) (raw b1 (Flat.enc s13.1)) (raw b1 (Flat.enc (s13.1.setIfInBounds (j18).toNat x47)))] := hI.1
              have hM := hM.togA (pre := [_, _]) (Bool.eq_false_iff.2 fun hx => Bool.noConfusion (hD.symm.trans (hdc 9 _ _ rfl (List.mem_of_getElem? (i := 9) rfl) rfl hx)))
              refine s_loadA (cs := Flat.enc x50) hE goes_none (by decide) (lk rfl f6) ty44 rfl (At.vec (hM.rawAt (pre := [_, _])) hi49.2) (Flat.len _) ?_; intro a hE
              exact ⟨_, _, rfl, hE, M.qKeep hM0 rfl, hI.2.put hD rfl allN rfl⟩
            · intro a w ux45 D hE hI hD hdc hp
              have d0 : D 0 = true := hp 0 _ rfl rfl
              have g0 := hI.2 0 d0 _ rfl
              have f0 : ux45 0 = (vI j18) := g0.2
              have hM0 := hI.1
              have hM : M (Old w0) w0 w [raw b7 (Flat.enc s13.2.1), raw b3 (Flat.enc (Vector.replicate 4 (Vector.replicate 4 (0 : UInt8)))), tog (D 9) (raw b1 (Flat.enc s13.1)) (raw b1 (Flat.enc (s13.1.setIfInBounds (j18).toNat x47)))] := hI.1
              have hM := hM.togA (pre := [_, _]) (Bool.eq_false_iff.2 fun hx => Bool.noConfusion (hD.symm.trans (hdc 9 _ _ rfl (List.mem_of_getElem? (i := 0) rfl) rfl hx)))
              refine s_indexA hE goes_none (by decide) rfl (lk rfl f0) Try.underlying55 ty44 hi52.1 ?_; intro a hE
              exact ⟨_, _, rfl, hE, M.qKeep hM0 rfl, hI.2.put hD rfl allN rfl⟩
            · intro a w ux45 D hE hI hD hdc hp
              have d4 : D 4 = true := hp 1 _ rfl rfl
              have g4 := hI.2 4 d4 _ rfl
              have f4 : ux45 4 = (Value.agg (Flat.enc x47).toArray) := g4.2
              have d8 : D 8 = true := hp 0 _ rfl rfl
              have g8 := hI.2 8 d8 _ rfl
              have f8 : ux45 8 = (ptr b1 (0 + (j18).toNat * 4)) := g8.2
              have hM0 := hI.1
              have hM : M (Old w0) w0 w [raw b7 (Flat.enc s13.2.1), raw b3 (Flat.enc (Vector.replicate 4 (Vector.replicate 4 (0 : UInt8)))), tog (D 9) (raw b1 (Flat.enc s13.1)) (raw b1 (Flat.enc (s13.1.setIfInBounds (j18).toNat x47)))] := hI.1
              have hM := hM.togA (pre := [_, _]) hD
              have hM := hM.pull (pre := [_, _])
              refine s_store (seg := Flat.enc x47) (cs' := Flat.enc (s13.1.setIfInBounds (j18).toNat x47)) hE hM goes_none (lk rfl f8) (lk rfl f4) rfl ty44 (Flat.len _) (fit_vec (v := s13.1) (x := x47) hi52.1) (Flat.cell _) (splice_vec0 (v := s13.1) (x := x47) hi52.1) ?_; intro w a hM hE
              exact ⟨undef, _, rfl, Env.dummy hE (by decide), M.qTog (mk1 := []) (mk2 := []) hM rfl, hI.2.put hD rfl allN trivial⟩
            · intro a w ux45 D hE hI hall
              have hM : M (Old w0) w0 w [raw b7 (Flat.enc s13.2.1), raw b3 (Flat.enc (Vector.replicate 4 (Vector.replicate 4 (0 : UInt8)))), tog (D 9) (raw b1 (Flat.enc s13.1)) (raw b1 (Flat.enc (s13.1.setIfInBounds (j18).toNat x47)))] := hI.1
              have d0 : D 0 = true := hall 0 (by decide)
              have d1 : D 1 = true := hall 1 (by decide)
              have d2 : D 2 = true := hall 2 (by decide)
              have d3 : D 3 = true := hall 3 (by decide)
              have d4 : D 4 = true := hall 4 (by decide)
              have d5 : D 5 = true := hall 5 (by decide)
              have d6 : D 6 = true := hall 6 (by decide)
              have d7 : D 7 = true := hall 7 (by decide)
              have d8 : D 8 = true := hall 8 (by decide)
              have d9 : D 9 = true := hall 9 (by decide)
              have f0 : ux45 0 = (vI j18) := (hI.2 0 d0 _ rfl).2
              have f1 : ux45 1 = (vI s13.2.2.1) := (hI.2 1 d1 _ rfl).2
              have f2 : ux45 2 = (vI s13.2.2.1) := (hI.2 2 d2 _ rfl).2
              have f3 : ux45 3 = (ptr b1 (0 + (s13.2.2.1).toNat * 4)) := (hI.2 3 d3 _ rfl).2
              have f4 : ux45 4 = (Value.agg (Flat.enc x47).toArray) := (hI.2 4 d4 _ rfl).2
              have f5 : ux45 5 = (vI j18) := (hI.2 5 d5 _ rfl).2
              have f6 : ux45 6 = (ptr b1 (0 + (j18).toNat * 4)) := (hI.2 6 d6 _ rfl).2
              have f7 : ux45 7 = (Value.agg (Flat.enc x50).toArray) := (hI.2 7 d7 _ rfl).2
              have f8 : ux45 8 = (ptr b1 (0 + (j18).toNat * 4)) := (hI.2 8 d8 _ rfl).2
              have hM := hM.togB (pre := [_, _]) d9
              have hE := hE.sub (e' := [(35, (vI j18)), (36, (vI s13.2.2.1)), (37, (vI s13.2.2.1)), (38, (ptr b1 (0 + (s13.2.2.1).toNat * 4))), (39, (Value.agg (Flat.enc x47).toArray)), (40, (vI j18)), (41, (ptr b1 (0 + (j18).toNat * 4))), (42, (Value.agg (Flat.enc x50).toArray)), (43, (ptr b1 (0 + (j18).toNat * 4))), (0, (vI p0)), (3, (ptr b1 0)), (5, (ptr b3 0)), (6, (ptr b7 0)), (7, (vB s13.2.2.2)), (8, (vI s13.2.2.1)), (9, (vI j18)), (16, (vI s13.2.2.1)), (32, (vI j18)), (33, (vT (j18 == 4)))]) ⟨lk rfl f0, lk rfl f1, lk rfl f2, lk rfl f3, lk rfl f4, lk rfl f5, lk rfl f6, lk rfl f7, lk rfl f8, rfl, rfl, rfl, rfl, rfl, rfl, rfl, rfl, rfl, rfl, trivial⟩
              obtain ⟨x56, e57, hl43⟩ := bind_some hl43
              have hi55 := vidx_some e57
              refine s_indexA hE goes_none (by decide) rfl rfl Try.underlying55 ty44 hi55.1 ?_; intro a hE
              have hM := hM.pull (pre := [_, _])
              refine s_store (seg := Flat.enc x50) (cs' := Flat.enc ((s13.1.setIfInBounds (j18).toNat x47).setIfInBounds (s13.2.2.1).toNat x50)) hE hM goes_none rfl rfl rfl ty44 (Flat.len _) (fit_vec (v := (s13.1.setIfInBounds (j18).toNat x47)) (x := x50) hi55.1) (Flat.cell _) (splice_vec0 (v := (s13.1.setIfInBounds (j18).toNat x47)) (x := x50) hi55.1) ?_; intro w a hM hE
              refine c_fin0 ?_
              have ht58 := Option.some.inj hl43
              subst ht58
              refine c_mid ?_
              have hM := hM.pull (pre := [_, _])
              have hM := hM.pull (pre := [_, _])
              exact ⟨hE.sub ⟨rfl, rfl, rfl, rfl, rfl, rfl, rfl, rfl, trivial⟩, hM⟩
          · skip
            rintro a w ⟨hE, hM⟩
            obtain ⟨j59, hl60, hF61⟩ := bind_some hF44
            refine c_join (fun a w => Env 153 a [(0, (vI p0)), (3, (ptr b1 0)), (5, (ptr b3 0)), (6, (ptr b7 0)), (7, (vB s13.2.2.2)), (8, (vI s13.2.2.1)), (16, (vI s13.2.2.1))] ∧ M (Old w0) w0 w [raw b7 (Flat.enc j59), raw b3 (Flat.enc (Vector.replicate 4 (Vector.replicate 4 (0 : UInt8)))), raw b1 (Flat.enc j42)]) ?_ ?_
            · skip
              obtain ⟨x64, e65, hl60⟩ := bind_some hl60
              have hi63 := vidx_some e65
              obtain ⟨x67, e68, hl60⟩ := bind_some hl60
              have hi66 := vidx_some e68
              obtain ⟨x70, e71, hl60⟩ := bind_some hl60
              have hi69 := vidx_some e71
              refine c_draw3 (n := 153) (hd := [_, _, _, _, _, _, _, _, _, _]) (tl := [_, _]) hmix rfl rfl [45, 46, 47, 48, 49, 50, 51, 52, 53, 162] (by decide) (fun D u w => M (Old w0) w0 w ([raw b3 (Flat.enc (Vector.replicate 4 (Vector.replicate 4 (0 : UInt8)))), raw b1 (Flat.enc j42)] ++ qL ([mkT 9 (raw b7 (Flat.enc s13.2.1)) (raw b7 (Flat.enc (s13.2.1.setIfInBounds (j18).toNat x64)))] : Mk) D u) ∧ GOk ([([], fun us v => v = (vI j18)), ([], fun us v => v = (vI s13.2.2.1)), ([], fun us v => v = (vI s13.2.2.1)), ([], fun us v => v = (ptr b7 (0 + (s13.2.2.1).toNat * 4))), ([], fun us v => v = (Value.agg (Flat.enc x64).toArray)), ([], fun us v => v = (vI j18)), ([], fun us v => v = (ptr b7 (0 + (j18).toNat * 4))), ([], fun us v => v = (Value.agg (Flat.enc x67).toArray)), ([], fun us v => v = (ptr b7 (0 + (j18).toNat * 4))), ([], fun us v => True)] : Gs) D u) hE (fun u => ⟨M.qT (M.q0 hM.drew u), gok0⟩) (steps_of (steps_cons ?_ (steps_cons ?_ (steps_cons ?_ (steps_cons ?_ (steps_cons ?_ (steps_cons ?_ (steps_cons ?_ (steps_cons ?_ (steps_cons ?_ (steps_cons ?_ steps_nil))))))))))) ?_
              · intro a w ux62 D hE hI hD hdc hp
                have hM0 := hI.1
                have hM : M (Old w0) w0 w [raw b3 (Flat.enc (Vector.replicate 4 (Vector.replicate 4 (0 : UInt8)))), raw b1 (Flat.enc j42), tog (D 9) (raw b7 (Flat.enc s13.2.1)) (raw b7 (Flat.enc (s13.2.1.setIfInBounds (j18).toNat x64)))] := hI.1
                have hM := hM.togA (pre := [_, _]) (Bool.eq_false_iff.2 fun hx => Bool.noConfusion (hD.symm.trans (hdc 9 _ _ rfl (List.mem_of_getElem? (i := 2) rfl) rfl hx)))
                refine s_move hE goes_none (by decide) rfl ?_; intro a hE
                exact ⟨_, _, rfl, hE, M.qKeep hM0 rfl, hI.2.put hD rfl allN rfl⟩
              · intro a w ux62 D hE hI hD hdc hp
                have hM0 := hI.1
                have hM : M (Old w0) w0 w [raw b3 (Flat.enc (Vector.replicate 4 (Vector.replicate 4 (0 : UInt8)))), raw b1 (Flat.enc j42), tog (D 9) (raw b7 (Flat.enc s13.2.1)) (raw b7 (Flat.enc (s13.2.1.setIfInBounds (j18).toNat x64)))] := hI.1
                refine s_move hE goes_none (by decide) rfl ?_; intro a hE
                exact ⟨_, _, rfl, hE, M.qKeep hM0 rfl, hI.2.put hD rfl allN rfl⟩
              · intro a w ux62 D hE hI hD hdc hp
                have hM0 := hI.1
                have hM : M (Old w0) w0 w [raw b3 (Flat.enc (Vector.replicate 4 (Vector.replicate 4 (0 : UInt8)))), raw b1 (Flat.enc j42), tog (D 9) (raw b7 (Flat.enc s13.2.1)) (raw b7 (Flat.enc (s13.2.1.setIfInBounds (j18).toNat x64)))] := hI.1
                have hM := hM.togA (pre := [_, _]) (Bool.eq_false_iff.2 fun hx => Bool.noConfusion (hD.symm.trans (hdc 9 _ _ rfl (List.mem_of_getElem? (i := 4) rfl) rfl hx)))
                refine s_move hE goes_none (by decide) rfl ?_; intro a hE
                exact ⟨_, _, rfl, hE, M.qKeep hM0 rfl, hI.2.put hD rfl allN rfl⟩
              · intro a w ux62 D hE hI hD hdc hp
                have d2 : D 2 = true := hp 0 _ rfl rfl
                have g2 := hI.2 2 d2 _ rfl
                have f2 : ux62 2 = (vI s13.2.2.1) := g2.2
                have hM0 := hI.1
                have hM : M (Old w0) w0 w [raw b3 (Flat.enc (Vector.replicate 4 (Vector.replicate 4 (0 : UInt8)))), raw b1 (Flat.enc j42), tog (D 9) (raw b7 (Flat.enc s13.2.1)) (raw b7 (Flat.enc (s13.2.1.setIfInBounds (j18).toNat x64)))] := hI.1
                have hM := hM.togA (pre := [_, _]) (Bool.eq_false_iff.2 fun hx => Bool.noConfusion (hD.symm.trans (hdc 9 _ _ rfl (List.mem_of_getElem? (i := 5) rfl) rfl hx)))
                refine s_indexA hE goes_none (by decide) rfl (lk rfl f2) Try.underlying55 ty44 hi63.1 ?_; intro a hE
                exact ⟨_, _, rfl, hE, M.qKeep hM0 rfl, hI.2.put hD rfl allN rfl⟩
              · intro a w ux62 D hE hI hD hdc hp
                have d3 : D 3 = true := hp 0 _ rfl rfl
                have g3 := hI.2 3 d3 _ rfl
                have f3 : ux62 3 = (ptr b7 (0 + (s13.2.2.1).toNat * 4)) := g3.2
                have hM0 := hI.1
                have hM : M (Old w0) w0 w [raw b3 (Flat.enc (Vector.replicate 4 (Vector.replicate 4 (0 : UInt8)))), raw b1 (Flat.enc j42), tog (D 9) (raw b7 (Flat.enc s13.2.1)) (raw b7 (Flat.enc (s13.2.1.setIfInBounds (j18).toNat x64)))] := hI.1
                have hM := hM.togA (pre := [_, _]) (Bool.eq_false_iff.2 fun hx => Bool.noConfusion (hD.symm.trans (hdc 9 _ _ rfl (List.mem_of_getElem? (i := 1) rfl) rfl hx)))
                refine s_loadA (cs := Flat.enc x64) hE goes_none (by decide) (lk rfl f3) ty44 rfl (At.vec (hM.rawAt (pre := [_, _])) hi63.2) (Flat.len _) ?_; intro a hE
                exact ⟨_, _, rfl, hE, M.qKeep hM0 rfl, hI.2.put hD rfl allN rfl⟩
              · intro a w ux62 D hE hI hD hdc hp
                have hM0 := hI.1
                have hM : M (Old w0) w0 w [raw b3 (Flat.enc (Vector.replicate 4 (Vector.replicate 4 (0 : UInt8)))), raw b1 (Flat.enc j42), tog (D 9) (raw b7 (Flat.enc s13.2.1)) (raw b7 (Flat.enc (s13.2.1.setIfInBounds (j18).toNat x64)))] := hI.1
                refine s_move hE goes_none (by decide) rfl ?_; intro a hE
                exact ⟨_, _, rfl, hE, M.qKeep hM0 rfl, hI.2.put hD rfl allN rfl⟩
              · intro a w ux62 D hE hI hD hdc hp
                have d5 : D 5 = true := hp 0 _ rfl rfl
                have g5 := hI.2 5 d5 _ rfl
                have f5 : ux62 5 = (vI j18) := g5.2
                have hM0 := hI.1
                have hM : M (Old w0) w0 w [raw b3 (Flat.enc (Vector.replicate 4 (Vector.replicate 4 (0 : UInt8)))), raw b1 (Flat.enc j42), tog (D 9) (raw b7 (Flat.enc s13.2.1)) (raw b7 (Flat.enc (s13.2.1.setIfInBounds (j18).toNat x64)))] := hI.1
                have hM := hM.togA (pre := [_, _]) (Bool.eq_false_iff.2 fun hx => Bool.noConfusion (hD.symm.trans (hdc 9 _ _ rfl (List.mem_of_getElem? (i := 8) rfl) rfl hx)))
                refine s_indexA hE goes_none (by decide) rfl (lk rfl f5) Try.underlying55 ty44 hi66.1 ?_; intro a hE
                exact ⟨_, _, rfl, hE, M.qKeep hM0 rfl, hI.2.put hD rfl allN rfl⟩
              · intro a w ux62 D hE hI hD hdc hp
                have d6 : D 6 = true := hp 0 _ rfl rfl
                have g6 := hI.2 6 d6 _ rfl
                have f6 : ux62 6 = (ptr b7 (0 + (j18).toNat * 4)) := g6.2
                have hM0 := hI.1
                have hM : M (Old w0) w0 w [raw b3 (Flat.enc (Vector.replicate 4 (Vector.replicate 4 (0 : UInt8)))), raw b1 (Flat.enc j42), tog (D 9) (raw b7 (Flat.enc s13.2.1)) (raw b7 (Flat.enc (s13.2.1.setIfInBounds (j18).toNat x64)))] := hI.1
                have hM := hM.togA (pre := [_, _]) (Bool.eq_false_iff.2 fun hx => Bool.noConfusion (hD.symm.trans (hdc 9 _ _ rfl (List.mem_of_getElem? (i := 9) rfl) rfl hx)))
                refine s_loadA (cs := Flat.enc x67) hE goes_none (by decide) (lk rfl f6) ty44 rfl (At.vec (hM.rawAt (pre := [_, _])) hi66.2) (Flat.len _) ?_; intro a hE
                exact ⟨_, _, rfl, hE, M.qKeep hM0 rfl, hI.2.put hD rfl allN rfl⟩
              · intro a w ux62 D hE hI hD hdc hp
                have d0 : D 0 = true := hp 0 _ rfl rfl
                have g0 := hI.2 0 d0 _ rfl
                have f0 : ux62 0 = (vI j18) := g0.2
                have hM0 := hI.1
                have hM : M (Old w0) w0 w [raw b3 (Flat.enc (Vector.replicate 4 (Vector.replicate 4 (0 : UInt8)))), raw b1 (Flat.enc j42), tog (D 9) (raw b7 (Flat.enc s13.2.1)) (raw b7 (Flat.enc (s13.2.1.setIfInBounds (j18).toNat x64)))] := hI.1
                have hM := hM.togA (pre := [_, _]) (Bool.eq_false_iff.2 fun hx => Bool.noConfusion (hD.symm.trans (hdc 9 _ _ rfl (List.mem_of_getElem? (i := 0) rfl) rfl hx)))
                refine s_indexA hE goes_none (by decide) rfl (lk rfl f0) Try.underlying55 ty44 hi69.1 ?_; intro a hE
                exact ⟨_, _, rfl, hE, M.qKeep hM0 rfl, hI.2.put hD rfl allN rfl⟩
              · intro a w ux62 D hE hI hD hdc hp
                have d4 : D 4 = true := hp 1 _ rfl rfl
                have g4 := hI.2 4 d4 _ rfl
                have f4 : ux62 4 = (Value.agg (Flat.enc x64).toArray) := g4.2
                have d8 : D 8 = true := hp 0 _ rfl rfl
                have g8 := hI.2 8 d8 _ rfl
                have f8 : ux62 8 = (ptr b7 (0 + (j18).toNat * 4)) := g8.2
                have hM0 := hI.1
                have hM : M (Old w0) w0 w [raw b3 (Flat.enc (Vector.replicate 4 (Vector.replicate 4 (0 : UInt8)))), raw b1 (Flat.enc j42), tog (D 9) (raw b7 (Flat.enc s13.2.1)) (raw b7 (Flat.enc (s13.2.1.setIfInBounds (j18).toNat x64)))] := hI.1
                have hM := hM.togA (pre := [_, _]) hD
                have hM := hM.pull (pre := [_, _])
                refine s_store (seg := Flat.enc x64) (cs' := Flat.enc (s13.2.1.setIfInBounds (j18).toNat x64)) hE hM goes_none (lk rfl f8) (lk rfl f4) rfl ty44 (Flat.len _) (fit_vec (v := s13.2.1) (x := x64) hi69.1) (Flat.cell _) (splice_vec0 (v := s13.2.1) (x := x64) hi69.1) ?_; intro w a hM hE
                exact ⟨undef, _, rfl, Env.dummy hE (by decide), M.qTog (mk1 := []) (mk2 := []) hM rfl, hI.2.put hD rfl allN trivial⟩
              · intro a w ux62 D hE hI hall
                have hM : M (Old w0) w0 w [raw b3 (Flat.enc (Vector.replicate 4 (Vector.replicate 4 (0 : UInt8)))), raw b1 (Flat.enc j42), tog (D 9) (raw b7 (Flat.enc s13.2.1)) (raw b7 (Flat.enc (s13.2.1.setIfInBounds (j18).toNat x64)))] := hI.1
                have d0 : D 0 = true := hall 0 (by decide)
                have d1 : D 1 = true := hall 1 (by decide)
                have d2 : D 2 = true := hall 2 (by decide)
                have d3 : D 3 = true := hall 3 (by decide)
                have d4 : D 4 = true := hall 4 (by decide)
                have d5 : D 5 = true := hall 5 (by decide)
                have d6 : D 6 = true := hall 6 (by decide)
                have d7 : D 7 = true := hall 7 (by decide)
                have d8 : D 8 = true := hall 8 (by decide)
                have d9 : D 9 = true := hall 9 (by decide)
                have f0 : ux62 0 = (vI j18) := (hI.2 0 d0 _ rfl).2
                have f1 : ux62 1 = (vI s13.2.2.1) := (hI.2 1 d1 _ rfl).2
                have f2 : ux62 2 = (vI s13.2.2.1) := (hI.2 2 d2 _ rfl).2
                have f3 : ux62 3 = (ptr b7 (0 + (s13.2.2.1).toNat * 4)) := (hI.2 3 d3 _ rfl).2
                have f4 : ux62 4 = (Value.agg (Flat.enc x64).toArray) := (hI.2 4 d4 _ rfl).2
                have f5 : ux62 5 = (vI j18) := (hI.2 5 d5 _ rfl).2
                have f6 : ux62 6 = (ptr b7 (0 + (j18).toNat * 4)) := (hI.2 6 d6 _ rfl).2
                have f7 : ux62 7 = (Value.agg (Flat.enc x67).toArray) := (hI.2 7 d7 _ rfl).2
                have f8 : ux62 8 = (ptr b7 (0 + (j18).toNat * 4)) := (hI.2 8 d8 _ rfl).2
                have hM := hM.togB (pre := [_, _]) d9
                have hE := hE.sub (e' := [(45, (vI j18)), (46, (vI s13.2.2.1)), (47, (vI s13.2.2.1)), (48, (ptr b7 (0 + (s13.2.2.1).toNat * 4))), (49, (Value.agg (Flat.enc x64).toArray)), (50, (vI j18)), (51, (ptr b7 (0 + (j18).toNat * 4))), (52, (Value.agg (Flat.enc x67).toArray)), (53, (ptr b7 (0 + (j18).toNat * 4))), (0, (vI p0)), (3, (ptr b1 0)), (5, (ptr b3 0)), (6, (ptr b7 0)), (7, (vB s13.2.2.2)), (8, (vI s13.2.2.1)), (9, (vI j18)), (16, (vI s13.2.2.1))]) ⟨lk rfl f0, lk rfl f1, lk rfl f2, lk rfl f3, lk rfl f4, lk rfl f5, lk rfl f6, lk rfl f7, lk rfl f8, rfl, rfl, rfl, rfl, rfl, rfl, rfl, rfl, trivial⟩
                obtain ⟨x73, e74, hl60⟩ := bind_some hl60
                have hi72 := vidx_some e74
                refine s_indexA hE goes_none (by decide) rfl rfl Try.underlying55 ty44 hi72.1 ?_; intro a hE
                have hM := hM.pull (pre := [_, _])
                refine s_store (seg := Flat.enc x67) (cs' := Flat.enc ((s13.2.1.setIfInBounds (j18).toNat x64).setIfInBounds (s13.2.2.1).toNat x67)) hE hM goes_none rfl rfl rfl ty44 (Flat.len _) (fit_vec (v := (s13.2.1.setIfInBounds (j18).toNat x64)) (x := x67) hi72.1) (Flat.cell _) (splice_vec0 (v := (s13.2.1.setIfInBounds (j18).toNat x64)) (x := x67) hi72.1) ?_; intro w a hM hE
                refine c_fin0 ?_
                have ht75 := Option.some.inj hl60
                subst ht75
                refine c_mid ?_
                exact ⟨hE.sub ⟨rfl, rfl, rfl, rfl, rfl, rfl, rfl, trivial⟩, hM⟩
            · skip
              rintro a w ⟨hE, hM⟩
              refine c_region ?_
              refine s_move hE goes_none (by decide) rfl ?_; intro a hE
              refine s_move hE goes_none (by decide) rfl ?_; intro a hE
              refine s_move hE goes_none (by decide) rfl ?_; intro a hE
              refine s_move hE goes_none (by decide) rfl ?_; intro a hE
              obtain ⟨x77, e78, hF61⟩ := bind_some hF61
              have hi76 := vidx_some e78
              refine s_indexA hE goes_none (by decide) rfl rfl Try.underlying55 ty44 hi76.1 ?_; intro a hE
              obtain ⟨x80, e81, hF61⟩ := bind_some hF61
              have hi79 := vidx_some e81
              refine s_indexA hE goes_none (by decide) rfl rfl Try.underlying44 ty5 hi79.1 ?_; intro a hE
              refine s_load (v := (vB x80)) hE goes_none (by decide) rfl ty5 rfl (At.vec (At.vec (hM.rawAt (pre := [_, _])) hi76.2) hi79.2) ?_; intro a hE
              obtain ⟨r82, e83, hF61⟩ := bind_some hF61
              refine s_call (vs := [(vI p0), (vB s13.2.2.2), (vB x80)]) hE goes_none (by decide) rfl cb189 (c_impl_field_times _ p0 s13.2.2.2 x80 r82 e83) ?_
              rintro v w a ⟨rfl, hK⟩ hE
              have hM := hM.keep hK
              refine s_assign hE goes_none (by decide) rfl ?_; intro a hE
              refine c_fin ?_
              refine c_region ?_
              refine s_move hE goes_none (by decide) rfl ?_; intro a hE
              refine s_move hE goes_none (by decide) rfl ?_; intro a hE
              refine s_move hE goes_none (by decide) rfl ?_; intro a hE
              obtain ⟨x85, e86, hF61⟩ := bind_some hF61
              have hi84 := vidx_some e86
              refine s_indexA hE goes_none (by decide) rfl rfl Try.underlying55 ty44 hi84.1 ?_; intro a hE
              obtain ⟨x88, e89, hF61⟩ := bind_some hF61
              have hi87 := vidx_some e89
              refine s_indexA hE goes_none (by decide) rfl rfl Try.underlying44 ty5 hi87.1 ?_; intro a hE
              refine s_load (v := (vB x88)) hE goes_none (by decide) rfl ty5 rfl (At.vec (At.vec (hM.rawAt (pre := [_, _])) hi84.2) hi87.2) ?_; intro a hE
              obtain ⟨r90, e91, hF61⟩ := bind_some hF61
              refine s_call (vs := [(vI p0), (vB x88)]) hE goes_none (by decide) rfl cb190 (c_impl_field_inverse _ p0 x88 r90 e91) ?_
              rintro v w a ⟨rfl, hK⟩ hE
              have hM := hM.keep hK
              refine s_assign hE goes_none (by decide) rfl ?_; intro a hE
              refine c_fin ?_
              refine wp_seq ?_
              refine c_region ?_
              refine s_move hE goes_none (by decide) rfl ?_; intro a hE
              refine c_fin ?_
              obtain ⟨j92, hl93, hF94⟩ := bind_some hF61
              refine c_cut (fun a w => Env 153 a [(0, (vI p0)), (3, (ptr b1 0)), (5, (ptr b3 0)), (6, (ptr b7 0)), (7, (vB r82)), (8, (vI s13.2.2.1)), (16, (vI s13.2.2.1))] ∧ M (Old w0) w0 w [raw b7 (Flat.enc j92.2), raw b3 (Flat.enc (Vector.replicate 4 (Vector.replicate 4 (0 : UInt8)))), raw b1 (Flat.enc j92.1)]) ?_ ?_
              · skip
                refine wp_block ?_
                refine c_loop (fun (s95 : (Vector (Vector UInt8 4) 4) × (Vector (Vector UInt8 4) 4) × Int) a w => Env 153 a [(0, (vI p0)), (3, (ptr b1 0)), (5, (ptr b3 0)), (6, (ptr b7 0)), (7, (vB r82)), (8, (vI s13.2.2.1)), (10, (vB r90)), (16, (vI s13.2.2.1)), (70, (vI s95.2.2))] ∧ M (Old w0) w0 w [raw b7 (Flat.enc s95.2.1), raw b3 (Flat.enc (Vector.replicate 4 (Vector.replicate 4 (0 : UInt8)))), raw b1 (Flat.enc s95.1)]) hl93 ⟨hE.sub ⟨rfl, rfl, rfl, rfl, rfl, rfl, rfl, rfl, rfl, trivial⟩, hM⟩ ?_
                rintro s95 a w ⟨hE, hM⟩ o98 hs96 hx97
                unfold L2_impl_field_invert at hs96
                refine c_region ?_
                refine s_int hE goes_none (by decide) rfl rfl rfl ?_; intro a hE
                refine c_fin ?_
                refine wp_seq ?_
                refine c_cond hE rfl ?_ ?_
                · intro hb99
                  have hs96 := ite_t hs96 hb99
                  refine wp_skip ?_
                  refine c_nx ?_
                  refine wp_seq ?_
                  refine wp_block ?_
                  refine c_region ?_
                  refine s_move hE goes_none (by decide) rfl ?_; intro a hE
                  refine s_assign hE goes_none (by decide) rfl ?_; intro a hE
                  refine c_fin ?_
                  have hM := hM.pull (pre := [_, _])
                  obtain ⟨x102, e103, hs96⟩ := bind_some hs96
                  have hi101 := vidx_some e103
                  obtain ⟨x105, e106, hs96⟩ := bind_some hs96
                  have hi104 := vidx_some e106
                  obtain ⟨r107, e108, hs96⟩ := bind_some hs96
                  obtain ⟨x110, e111, hs96⟩ := bind_some hs96
                  have hi109 := vidx_some e111
                  obtain ⟨x113, e114, hs96⟩ := bind_some hs96
                  have hi112 := vidx_some e114
                  obtain ⟨r115, e116, hs96⟩ := bind_some hs96
                  obtain ⟨x118, e119, hs96⟩ := bind_some hs96
                  have hi117 := vidx_some e119
                  obtain ⟨x121, e122, hs96⟩ := bind_some hs96
                  have hi120 := vidx_some e122
                  obtain ⟨x124, e125, hs96⟩ := bind_some hs96
                  have hi123 := vidx_some e125
                  refine c_draw3 (n := 153) (hd := [_, _, _, _, _, _, _, _, _, _, _, _, _, _, _, _, _, _, _, _, _, _, _, _]) (tl := [_, _]) hmix rfl rfl [73, 74, 75, 76, 77, 78, 79, 80, 81, 82, 83, 84, 85, 86, 87, 88, 89, 90, 91, 92, 93, 94, 175, 95] (by decide) (fun D u w => M (Old w0) w0 w ([raw b7 (Flat.enc s95.2.1), raw b3 (Flat.enc (Vector.replicate 4 (Vector.replicate 4 (0 : UInt8))))] ++ qL ([mkT 22 (raw b1 (Flat.enc s95.1)) (raw b1 (Flat.enc (s95.1.setIfInBounds (s13.2.2.1).toNat (x118.setIfInBounds (s95.2.2).toNat r107))))] : Mk) D u) ∧ GOk ([([], fun us v => v = (vI s13.2.2.1)), ([], fun us v => v = (vI s95.2.2)), ([], fun us v => v = (vI s13.2.2.1)), ([], fun us v => v = (vI s95.2.2)), ([], fun us v => v = (vI p0)), ([], fun us v => v = (vI s13.2.2.1)), ([], fun us v => v = (vI s95.2.2)), ([], fun us v => v = (ptr b1 (0 + (s13.2.2.1).toNat * 4))), ([], fun us v => v = (ptr b1 (0 + (s13.2.2.1).toNat * 4 + (s95.2.2).toNat * 1))), ([], fun us v => v = (vB x105)), ([], fun us v => v = (vB r90)), ([], fun us v => v = (vB r107)), ([], fun us v => v = (vI p0)), ([], fun us v => v = (vI s13.2.2.1)), ([], fun us v => v = (vI s95.2.2)), ([], fun us v => v = (ptr b7 (0 + (s13.2.2.1).toNat * 4))), ([], fun us v => v = (ptr b7 (0 + (s13.2.2.1).toNat * 4 + (s95.2.2).toNat * 1))), ([], fun us v => v = (vB x113)), ([], fun us v => v = (vB r90)), ([], fun us v => v = (vB r115)), ([], fun us v => v = (ptr b1 (0 + (s13.2.2.1).toNat * 4))), ([], fun us v => v = (ptr b1 (0 + (s13.2.2.1).toNat * 4 + (s95.2.2).toNat * 1))), ([], fun us v => True), ([], fun us v => v = (ptr b7 (0 + (s13.2.2.1).toNat * 4)))] : Gs) D u) hE (fun u => ⟨M.qT (M.q0 hM.drew u), gok0⟩) (steps_of (steps_cons ?_ (steps_cons ?_ (steps_cons ?_ (steps_cons ?_ (steps_cons ?_ (steps_cons ?_ (steps_cons ?_ (steps_cons ?_ (steps_cons ?_ (steps_cons ?_ (steps_cons ?_ (steps_cons ?_ (steps_cons ?_ (steps_cons ?_ (steps_cons ?_ (steps_cons ?_ (steps_cons ?_ (steps_cons ?_ (steps_cons ?_ (steps_cons ?_ (steps_cons ?_ (steps_cons ?_ (steps_cons ?_ (steps_cons ?_ steps_nil))))))))))))))))))))))))) ?_
                  · intro a w ux100 D hE hI hD hdc hp
                    have hM0 := hI.1
                    have hM : M (Old w0) w0 w [raw b7 (Flat.enc s95.2.1), raw b3 (Flat.enc (Vector.replicate 4 (Vector.replicate 4 (0 : UInt8)))), tog (D 22) (raw b1 (Flat.enc s95.1)) (raw b1 (Flat.enc (s95.1.setIfInBounds (s13.2.2.1).toNat (x118.setIfInBounds (s95.2.2).toNat r107))))] := hI.1
                    have hM := hM.togA (pre := [_, _]) (Bool.eq_false_iff.2 fun hx => Bool.noConfusion (hD.symm.trans (hdc 22 _ _ rfl (List.mem_of_getElem? (i := 3) rfl) rfl hx)))
                    refine s_move hE goes_none (by decide) rfl ?_; intro a hE
                    exact ⟨_, _, rfl, hE, M.qKeep hM0 rfl, hI.2.put hD rfl allN rfl⟩
                  · intro a w ux100 D hE hI hD hdc hp
                    have hM0 := hI.1
                    have hM : M (Old w0) w0 w [raw b7 (Flat.enc s95.2.1), raw b3 (Flat.enc (Vector.replicate 4 (Vector.replicate 4 (0 : UInt8)))), tog (D 22) (raw b1 (Flat.enc s95.1)) (raw b1 (Flat.enc (s95.1.setIfInBounds (s13.2.2.1).toNat (x118.setIfInBounds (s95.2.2).toNat r107))))] := hI.1
                    have hM := hM.togA (pre := [_, _]) (Bool.eq_false_iff.2 fun hx => Bool.noConfusion (hD.symm.trans (hdc 22 _ _ rfl (List.mem_of_getElem? (i := 4) rfl) rfl hx)))
                    refine s_move hE goes_none (by decide) rfl ?_; intro a hE
                    exact ⟨_, _, rfl, hE, M.qKeep hM0 rfl, hI.2.put hD rfl allN rfl⟩
                  · intro a w ux100 D hE hI hD hdc hp
                    have hM0 := hI.1
                    have hM : M (Old w0) w0 w [raw b7 (Flat.enc s95.2.1), raw b3 (Flat.enc (Vector.replicate 4 (Vector.replicate 4 (0 : UInt8)))), tog (D 22) (raw b1 (Flat.enc s95.1)) (raw b1 (Flat.enc (s95.1.setIfInBounds (s13.2.2.1).toNat (x118.setIfInBounds (s95.2.2).toNat r107))))] := hI.1
                    refine s_move hE goes_none (by decide) rfl ?_; intro a hE
                    exact ⟨_, _, rfl, hE, M.qKeep hM0 rfl, hI.2.put hD rfl allN rfl⟩
                  · intro a w ux100 D hE hI hD hdc hp
                    have hM0 := hI.1
                    have hM : M (Old w0) w0 w [raw b7 (Flat.enc s95.2.1), raw b3 (Flat.enc (Vector.replicate 4 (Vector.replicate 4 (0 : UInt8)))), tog (D 22) (raw b1 (Flat.enc s95.1)) (raw b1 (Flat.enc (s95.1.setIfInBounds (s13.2.2.1).toNat (x118.setIfInBounds (s95.2.2).toNat r107))))] := hI.1
                    refine s_move hE goes_none (by decide) rfl ?_; intro a hE
                    exact ⟨_, _, rfl, hE, M.qKeep hM0 rfl, hI.2.put hD rfl allN rfl⟩
                  · intro a w ux100 D hE hI hD hdc hp
                    have hM0 := hI.1
                    have hM : M (Old w0) w0 w [raw b7 (Flat.enc s95.2.1), raw b3 (Flat.enc (Vector.replicate 4 (Vector.replicate 4 (0 : UInt8)))), tog (D 22) (raw b1 (Flat.enc s95.1)) (raw b1 (Flat.enc (s95.1.setIfInBounds (s13.2.2.1).toNat (x118.setIfInBounds (s95.2.2).toNat r107))))] := hI.1
                    have hM := hM.togA (pre := [_, _]) (Bool.eq_false_iff.2 fun hx => Bool.noConfusion (hD.symm.trans (hdc 22 _ _ rfl (List.mem_of_getElem? (i := 7) rfl) rfl hx)))
                    refine s_move hE goes_none (by decide) rfl ?_; intro a hE
                    exact ⟨_, _, rfl, hE, M.qKeep hM0 rfl, hI.2.put hD rfl allN rfl⟩
                  · intro a w ux100 D hE hI hD hdc hp
                    have hM0 := hI.1
                    have hM : M (Old w0) w0 w [raw b7 (Flat.enc s95.2.1), raw b3 (Flat.enc (Vector.replicate 4 (Vector.replicate 4 (0 : UInt8)))), tog (D 22) (raw b1 (Flat.enc s95.1)) (raw b1 (Flat.enc (s95.1.setIfInBounds (s13.2.2.1).toNat (x118.setIfInBounds (s95.2.2).toNat r107))))] := hI.1
                    have hM := hM.togA (pre := [_, _]) (Bool.eq_false_iff.2 fun hx => Bool.noConfusion (hD.symm.trans (hdc 22 _ _ rfl (List.mem_of_getElem? (i := 8) rfl) rfl hx)))
                    refine s_move hE goes_none (by decide) rfl ?_; intro a hE
                    exact ⟨_, _, rfl, hE, M.qKeep hM0 rfl, hI.2.put hD rfl allN rfl⟩
                  · intro a w ux100 D hE hI hD hdc hp
                    have hM0 := hI.1
                    have hM : M (Old w0) w0 w [raw b7 (Flat.enc s95.2.1), raw b3 (Flat.enc (Vector.replicate 4 (Vector.replicate 4 (0 : UInt8)))), tog (D 22) (raw b1 (Flat.enc s95.1)) (raw b1 (Flat.enc (s95.1.setIfInBounds (s13.2.2.1).toNat (x118.setIfInBounds (s95.2.2).toNat r107))))] := hI.1
                    have hM := hM.togA (pre := [_, _]) (Bool.eq_false_iff.2 fun hx => Bool.noConfusion (hD.symm.trans (hdc 22 _ _ rfl (List.mem_of_getElem? (i := 9) rfl) rfl hx)))
                    refine s_move hE goes_none (by decide) rfl ?_; intro a hE
                    exact ⟨_, _, rfl, hE, M.qKeep hM0 rfl, hI.2.put hD rfl allN rfl⟩
                  · intro a w ux100 D hE hI hD hdc hp
                    have d5 : D 5 = true := hp 0 _ rfl rfl
                    have g5 := hI.2 5 d5 _ rfl
                    have f5 : ux100 5 = (vI s13.2.2.1) := g5.2
                    have hM0 := hI.1
                    have hM : M (Old w0) w0 w [raw b7 (Flat.enc s95.2.1), raw b3 (Flat.enc (Vector.replicate 4 (Vector.replicate 4 (0 : UInt8)))), tog (D 22) (raw b1 (Flat.enc s95.1)) (raw b1 (Flat.enc (s95.1.setIfInBounds (s13.2.2.1).toNat (x118.setIfInBounds (s95.2.2).toNat r107))))] := hI.1
                    have hM := hM.togA (pre := [_, _]) (Bool.eq_false_iff.2 fun hx => Bool.noConfusion (hD.symm.trans (hdc 22 _ _ rfl (List.mem_of_getElem? (i := 10) rfl) rfl hx)))
                    refine s_indexA hE goes_none (by decide) rfl (lk rfl f5) Try.underlying55 ty44 hi101.1 ?_; intro a hE
                    exact ⟨_, _, rfl, hE, M.qKeep hM0 rfl, hI.2.put hD rfl allN rfl⟩
                  · intro a w ux100 D hE hI hD hdc hp
                    have d6 : D 6 = true := hp 1 _ rfl rfl
                    have g6 := hI.2 6 d6 _ rfl
                    have f6 : ux100 6 = (vI s95.2.2) := g6.2
                    have d7 : D 7 = true := hp 0 _ rfl rfl
                    have g7 := hI.2 7 d7 _ rfl
                    have f7 : ux100 7 = (ptr b1 (0 + (s13.2.2.1).toNat * 4)) := g7.2
                    have hM0 := hI.1
                    have hM : M (Old w0) w0 w [raw b7 (Flat.enc s95.2.1), raw b3 (Flat.enc (Vector.replicate 4 (Vector.replicate 4 (0 : UInt8)))), tog (D 22) (raw b1 (Flat.enc s95.1)) (raw b1 (Flat.enc (s95.1.setIfInBounds (s13.2.2.1).toNat (x118.setIfInBounds (s95.2.2).toNat r107))))] := hI.1
                    have hM := hM.togA (pre := [_, _]) (Bool.eq_false_iff.2 fun hx => Bool.noConfusion (hD.symm.trans (hdc 22 _ _ rfl (List.mem_of_getElem? (i := 11) rfl) rfl hx)))
                    refine s_indexA hE goes_none (by decide) (lk rfl f7) (lk rfl f6) Try.underlying44 ty5 hi104.1 ?_; intro a hE
                    exact ⟨_, _, rfl, hE, M.qKeep hM0 rfl, hI.2.put hD rfl allN rfl⟩
                  · intro a w ux100 D hE hI hD hdc hp
                    have d8 : D 8 = true := hp 0 _ rfl rfl
                    have g8 := hI.2 8 d8 _ rfl
                    have f8 : ux100 8 = (ptr b1 (0 + (s13.2.2.1).toNat * 4 + (s95.2.2).toNat * 1)) := g8.2
                    have hM0 := hI.1
                    have hM : M (Old w0) w0 w [raw b7 (Flat.enc s95.2.1), raw b3 (Flat.enc (Vector.replicate 4 (Vector.replicate 4 (0 : UInt8)))), tog (D 22) (raw b1 (Flat.enc s95.1)) (raw b1 (Flat.enc (s95.1.setIfInBounds (s13.2.2.1).toNat (x118.setIfInBounds (s95.2.2).toNat r107))))] := hI.1
                    have hM := hM.togA (pre := [_, _]) (Bool.eq_false_iff.2 fun hx => Bool.noConfusion (hD.symm.trans (hdc 22 _ _ rfl (List.mem_of_getElem? (i := 12) rfl) rfl hx)))
                    refine s_load (v := (vB x105)) hE goes_none (by decide) (lk rfl f8) ty5 rfl (At.vec (At.vec (hM.rawAt (pre := [_, _])) hi101.2) hi104.2) ?_; intro a hE
                    exact ⟨_, _, rfl, hE, M.qKeep hM0 rfl, hI.2.put hD rfl allN rfl⟩
                  · intro a w ux100 D hE hI hD hdc hp
                    have hM0 := hI.1
                    have hM : M (Old w0) w0 w [raw b7 (Flat.enc s95.2.1), raw b3 (Flat.enc (Vector.replicate 4 (Vector.replicate 4 (0 : UInt8)))), tog (D 22) (raw b1 (Flat.enc s95.1)) (raw b1 (Flat.enc (s95.1.setIfInBounds (s13.2.2.1).toNat (x118.setIfInBounds (s95.2.2).toNat r107))))] := hI.1
                    have hM := hM.togA (pre := [_, _]) (Bool.eq_false_iff.2 fun hx => Bool.noConfusion (hD.symm.trans (hdc 22 _ _ rfl (List.mem_of_getElem? (i := 13) rfl) rfl hx)))
                    refine s_move hE goes_none (by decide) rfl ?_; intro a hE
                    exact ⟨_, _, rfl, hE, M.qKeep hM0 rfl, hI.2.put hD rfl allN rfl⟩
                  · intro a w ux100 D hE hI hD hdc hp
                    have d4 : D 4 = true := hp 0 _ rfl rfl
                    have g4 := hI.2 4 d4 _ rfl
                    have f4 : ux100 4 = (vI p0) := g4.2
                    have d9 : D 9 = true := hp 1 _ rfl rfl
                    have g9 := hI.2 9 d9 _ rfl
                    have f9 : ux100 9 = (vB x105) := g9.2
                    have d10 : D 10 = true := hp 2 _ rfl rfl
                    have g10 := hI.2 10 d10 _ rfl
                    have f10 : ux100 10 = (vB r90) := g10.2
                    have hM0 := hI.1
                    have hM : M (Old w0) w0 w [raw b7 (Flat.enc s95.2.1), raw b3 (Flat.enc (Vector.replicate 4 (Vector.replicate 4 (0 : UInt8)))), tog (D 22) (raw b1 (Flat.enc s95.1)) (raw b1 (Flat.enc (s95.1.setIfInBounds (s13.2.2.1).toNat (x118.setIfInBounds (s95.2.2).toNat r107))))] := hI.1
                    have hM := hM.togA (pre := [_, _]) (Bool.eq_false_iff.2 fun hx => Bool.noConfusion (hD.symm.trans (hdc 22 _ _ rfl (List.mem_of_getElem? (i := 1) rfl) rfl hx)))
                    refine s_call (vs := [(vI p0), (vB x105), (vB r90)]) hE goes_none (by decide) (evs_of (evsC (lk rfl f4) (evsC (lk rfl f9) (evsC (lk rfl f10) evsN)))) cb189 (c_impl_field_times _ p0 x105 r90 r107 e108) ?_
                    rintro v w a ⟨rfl, hK⟩ hE
                    exact ⟨_, _, rfl, hE, M.qKeep (hM0.keep hK) rfl, hI.2.put hD rfl allN rfl⟩
                  · intro a w ux100 D hE hI hD hdc hp
                    have hM0 := hI.1
                    have hM : M (Old w0) w0 w [raw b7 (Flat.enc s95.2.1), raw b3 (Flat.enc (Vector.replicate 4 (Vector.replicate 4 (0 : UInt8)))), tog (D 22) (raw b1 (Flat.enc s95.1)) (raw b1 (Flat.enc (s95.1.setIfInBounds (s13.2.2.1).toNat (x118.setIfInBounds (s95.2.2).toNat r107))))] := hI.1
                    refine s_move hE goes_none (by decide) rfl ?_; intro a hE
                    exact ⟨_, _, rfl, hE, M.qKeep hM0 rfl, hI.2.put hD rfl allN rfl⟩
                  · intro a w ux100 D hE hI hD hdc hp
                    have hM0 := hI.1
                    have hM : M (Old w0) w0 w [raw b7 (Flat.enc s95.2.1), raw b3 (Flat.enc (Vector.replicate 4 (Vector.replicate 4 (0 : UInt8)))), tog (D 22) (raw b1 (Flat.enc s95.1)) (raw b1 (Flat.enc (s95.1.setIfInBounds (s13.2.2.1).toNat (x118.setIfInBounds (s95.2.2).toNat r107))))] := hI.1
                    refine s_move hE goes_none (by decide) rfl ?_; intro a hE
                    exact ⟨_, _, rfl, hE, M.qKeep hM0 rfl, hI.2.put hD rfl allN rfl⟩
                  · intro a w ux100 D hE hI hD hdc hp
                    have hM0 := hI.1
                    have hM : M (Old w0) w0 w [raw b7 (Flat.enc s95.2.1), raw b3 (Flat.enc (Vector.replicate 4 (Vector.replicate 4 (0 : UInt8)))), tog (D 22) (raw b1 (Flat.enc s95.1)) (raw b1 (Flat.enc (s95.1.setIfInBounds (s13.2.2.1).toNat (x118.setIfInBounds (s95.2.2).toNat r107))))] := hI.1
                    refine s_move hE goes_none (by decide) rfl ?_; intro a hE
                    exact ⟨_, _, rfl, hE, M.qKeep hM0 rfl, hI.2.put hD rfl allN rfl⟩
                  · intro a w ux100 D hE hI hD hdc hp
                    have d13 : D 13 = true := hp 0 _ rfl rfl
                    have g13 := hI.2 13 d13 _ rfl
                    have f13 : ux100 13 = (vI s13.2.2.1) := g13.2
                    have hM0 := hI.1
                    have hM : M (Old w0) w0 w [raw b7 (Flat.enc s95.2.1), raw b3 (Flat.enc (Vector.replicate 4 (Vector.replicate 4 (0 : UInt8)))), tog (D 22) (raw b1 (Flat.enc s95.1)) (raw b1 (Flat.enc (s95.1.setIfInBounds (s13.2.2.1).toNat (x118.setIfInBounds (s95.2.2).toNat r107))))] := hI.1
                    refine s_indexA hE goes_none (by decide) rfl (lk rfl f13) Try.underlying55 ty44 hi109.1 ?_; intro a hE
                    exact ⟨_, _, rfl, hE, M.qKeep hM0 rfl, hI.2.put hD rfl allN rfl⟩
                  · intro a w ux100 D hE hI hD hdc hp
                    have d14 : D 14 = true := hp 1 _ rfl rfl
                    have g14 := hI.2 14 d14 _ rfl
                    have f14 : ux100 14 = (vI s95.2.2) := g14.2
                    have d15 : D 15 = true := hp 0 _ rfl rfl
                    have g15 := hI.2 15 d15 _ rfl
                    have f15 : ux100 15 = (ptr b7 (0 + (s13.2.2.1).toNat * 4)) := g15.2
                    have hM0 := hI.1
                    have hM : M (Old w0) w0 w [raw b7 (Flat.enc s95.2.1), raw b3 (Flat.enc (Vector.replicate 4 (Vector.replicate 4 (0 : UInt8)))), tog (D 22) (raw b1 (Flat.enc s95.1)) (raw b1 (Flat.enc (s95.1.setIfInBounds (s13.2.2.1).toNat (x118.setIfInBounds (s95.2.2).toNat r107))))] := hI.1
                    refine s_indexA hE goes_none (by decide) (lk rfl f15) (lk rfl f14) Try.underlying44 ty5 hi112.1 ?_; intro a hE
                    exact ⟨_, _, rfl, hE, M.qKeep hM0 rfl, hI.2.put hD rfl allN rfl⟩
                  · intro a w ux100 D hE hI hD hdc hp
                    have d16 : D 16 = true := hp 0 _ rfl rfl
                    have g16 := hI.2 16 d16 _ rfl
                    have f16 : ux100 16 = (ptr b7 (0 + (s13.2.2.1).toNat * 4 + (s95.2.2).toNat * 1)) := g16.2
                    have hM0 := hI.1
                    have hM : M (Old w0) w0 w [raw b7 (Flat.enc s95.2.1), raw b3 (Flat.enc (Vector.replicate 4 (Vector.replicate 4 (0 : UInt8)))), tog (D 22) (raw b1 (Flat.enc s95.1)) (raw b1 (Flat.enc (s95.1.setIfInBounds (s13.2.2.1).toNat (x118.setIfInBounds (s95.2.2).toNat r107))))] := hI.1
                    refine s_load (v := (vB x113)) hE goes_none (by decide) (lk rfl f16) ty5 rfl (At.vec (At.vec (hM.rawAt (pre := [])) hi109.2) hi112.2) ?_; intro a hE
                    exact ⟨_, _, rfl, hE, M.qKeep hM0 rfl, hI.2.put hD rfl allN rfl⟩
                  · intro a w ux100 D hE hI hD hdc hp
                    have hM0 := hI.1
                    have hM : M (Old w0) w0 w [raw b7 (Flat.enc s95.2.1), raw b3 (Flat.enc (Vector.replicate 4 (Vector.replicate 4 (0 : UInt8)))), tog (D 22) (raw b1 (Flat.enc s95.1)) (raw b1 (Flat.enc (s95.1.setIfInBounds (s13.2.2.1).toNat (x118.setIfInBounds (s95.2.2).toNat r107))))] := hI.1
                    refine s_move hE goes_none (by decide) rfl ?_; intro a hE
                    exact ⟨_, _, rfl, hE, M.qKeep hM0 rfl, hI.2.put hD rfl allN rfl⟩
                  · intro a w ux100 D hE hI hD hdc hp
                    have d12 : D 12 = true := hp 0 _ rfl rfl
                    have g12 := hI.2 12 d12 _ rfl
                    have f12 : ux100 12 = (vI p0) := g12.2
                    have d17 : D 17 = true := hp 1 _ rfl rfl
                    have g17 := hI.2 17 d17 _ rfl
                    have f17 : ux100 17 = (vB x113) := g17.2
                    have d18 : D 18 = true := hp 2 _ rfl rfl
                    have g18 := hI.2 18 d18 _ rfl
                    have f18 : ux100 18 = (vB r90) := g18.2
                    have hM0 := hI.1
                    have hM : M (Old w0) w0 w [raw b7 (Flat.enc s95.2.1), raw b3 (Flat.enc (Vector.replicate 4 (Vector.replicate 4 (0 : UInt8)))), tog (D 22) (raw b1 (Flat.enc s95.1)) (raw b1 (Flat.enc (s95.1.setIfInBounds (s13.2.2.1).toNat (x118.setIfInBounds (s95.2.2).toNat r107))))] := hI.1
                    have hM := hM.togA (pre := [_, _]) (Bool.eq_false_iff.2 fun hx => Bool.noConfusion (hD.symm.trans (hdc 22 _ _ rfl (List.mem_of_getElem? (i := 2) rfl) rfl hx)))
                    refine s_call (vs := [(vI p0), (vB x113), (vB r90)]) hE goes_none (by decide) (evs_of (evsC (lk rfl f12) (evsC (lk rfl f17) (evsC (lk rfl f18) evsN)))) cb189 (c_impl_field_times _ p0 x113 r90 r115 e116) ?_
                    rintro v w a ⟨rfl, hK⟩ hE
                    exact ⟨_, _, rfl, hE, M.qKeep (hM0.keep hK) rfl, hI.2.put hD rfl allN rfl⟩
                  · intro a w ux100 D hE hI hD hdc hp
                    have d0 : D 0 = true := hp 0 _ rfl rfl
                    have g0 := hI.2 0 d0 _ rfl
                    have f0 : ux100 0 = (vI s13.2.2.1) := g0.2
                    have hM0 := hI.1
                    have hM : M (Old w0) w0 w [raw b7 (Flat.enc s95.2.1), raw b3 (Flat.enc (Vector.replicate 4 (Vector.replicate 4 (0 : UInt8)))), tog (D 22) (raw b1 (Flat.enc s95.1)) (raw b1 (Flat.enc (s95.1.setIfInBounds (s13.2.2.1).toNat (x118.setIfInBounds (s95.2.2).toNat r107))))] := hI.1
                    refine s_indexA hE goes_none (by decide) rfl (lk rfl f0) Try.underlying55 ty44 hi117.1 ?_; intro a hE
                    exact ⟨_, _, rfl, hE, M.qKeep hM0 rfl, hI.2.put hD rfl allN rfl⟩
                  · intro a w ux100 D hE hI hD hdc hp
                    have d1 : D 1 = true := hp 1 _ rfl rfl
                    have g1 := hI.2 1 d1 _ rfl
                    have f1 : ux100 1 = (vI s95.2.2) := g1.2
                    have d20 : D 20 = true := hp 0 _ rfl rfl
                    have g20 := hI.2 20 d20 _ rfl
                    have f20 : ux100 20 = (ptr b1 (0 + (s13.2.2.1).toNat * 4)) := g20.2
                    have hM0 := hI.1
                    have hM : M (Old w0) w0 w [raw b7 (Flat.enc s95.2.1), raw b3 (Flat.enc (Vector.replicate 4 (Vector.replicate 4 (0 : UInt8)))), tog (D 22) (raw b1 (Flat.enc s95.1)) (raw b1 (Flat.enc (s95.1.setIfInBounds (s13.2.2.1).toNat (x118.setIfInBounds (s95.2.2).toNat r107))))] := hI.1
                    have hM := hM.togA (pre := [_, _]) (Bool.eq_false_iff.2 fun hx => Bool.noConfusion (hD.symm.trans (hdc 22 _ _ rfl (List.mem_of_getElem? (i := 0) rfl) rfl hx)))
                    refine s_indexA hE goes_none (by decide) (lk rfl f20) (lk rfl f1) Try.underlying44 ty5 hi120.1 ?_; intro a hE
                    exact ⟨_, _, rfl, hE, M.qKeep hM0 rfl, hI.2.put hD rfl allN rfl⟩
                  · intro a w ux100 D hE hI hD hdc hp
                    have d11 : D 11 = true := hp 1 _ rfl rfl
                    have g11 := hI.2 11 d11 _ rfl
                    have f11 : ux100 11 = (vB r107) := g11.2
                    have d21 : D 21 = true := hp 0 _ rfl rfl
                    have g21 := hI.2 21 d21 _ rfl
                    have f21 : ux100 21 = (ptr b1 (0 + (s13.2.2.1).toNat * 4 + (s95.2.2).toNat * 1)) := g21.2
                    have hM0 := hI.1
                    have hM : M (Old w0) w0 w [raw b7 (Flat.enc s95.2.1), raw b3 (Flat.enc (Vector.replicate 4 (Vector.replicate 4 (0 : UInt8)))), tog (D 22) (raw b1 (Flat.enc s95.1)) (raw b1 (Flat.enc (s95.1.setIfInBounds (s13.2.2.1).toNat (x118.setIfInBounds (s95.2.2).toNat r107))))] := hI.1
                    have hM := hM.togA (pre := [_, _]) hD
                    have hM := hM.pull (pre := [_, _])
                    refine s_store (seg := [(vB r107)]) (cs' := Flat.enc (s95.1.setIfInBounds (s13.2.2.1).toNat (x118.setIfInBounds (s95.2.2).toNat r107))) hE hM goes_none (lk rfl f21) (lk rfl f11) rfl ty5 rfl (fit_vecI (o' := 0 + (s95.2.2).toNat * 1) hi117 (fit_vec (v := x118) (x := r107) hi120.1) (by first | omega | (simp only [Flat.n] <;> omega))) (Flat.cell (r107 : UInt8)) (splice_vecI (o' := 0 + (s95.2.2).toNat * 1) hi117 (fit_vec (v := x118) (x := r107) hi120.1) (splice_vec0 (v := x118) (x := r107) hi120.1) (by first | omega | (simp only [Flat.n] <;> omega))) ?_; intro w a hM hE
                    exact ⟨undef, _, rfl, Env.dummy hE (by decide), M.qTog (mk1 := []) (mk2 := []) hM rfl, hI.2.put hD rfl allN trivial⟩
                  · intro a w ux100 D hE hI hD hdc hp
                    have d2 : D 2 = true := hp 0 _ rfl rfl
                    have g2 := hI.2 2 d2 _ rfl
                    have f2 : ux100 2 = (vI s13.2.2.1) := g2.2
                    have hM0 := hI.1
                    have hM : M (Old w0) w0 w [raw b7 (Flat.enc s95.2.1), raw b3 (Flat.enc (Vector.replicate 4 (Vector.replicate 4 (0 : UInt8)))), tog (D 22) (raw b1 (Flat.enc s95.1)) (raw b1 (Flat.enc (s95.1.setIfInBounds (s13.2.2.1).toNat (x118.setIfInBounds (s95.2.2).toNat r107))))] := hI.1
                    refine s_indexA hE goes_none (by decide) rfl (lk rfl f2) Try.underlying55 ty44 hi123.1 ?_; intro a hE
                    exact ⟨_, _, rfl, hE, M.qKeep hM0 rfl, hI.2.put hD rfl allN rfl⟩
                  · intro a w ux100 D hE hI hall
                    have hM : M (Old w0) w0 w [raw b7 (Flat.enc s95.2.1), raw b3 (Flat.enc (Vector.replicate 4 (Vector.replicate 4 (0 : UInt8)))), tog (D 22) (raw b1 (Flat.enc s95.1)) (raw b1 (Flat.enc (s95.1.setIfInBounds (s13.2.2.1).toNat (x118.setIfInBounds (s95.2.2).toNat r107))))] := hI.1
                    have d0 : D 0 = true := hall 0 (by decide)
                    have d1 : D 1 = true := hall 1 (by decide)
                    have d2 : D 2 = true := hall 2 (by decide)
                    have d3 : D 3 = true := hall 3 (by decide)
                    have d4 : D 4 = true := hall 4 (by decide)
                    have d5 : D 5 = true := hall 5 (by decide)
                    have d6 : D 6 = true := hall 6 (by decide)
                    have d7 : D 7 = true := hall 7 (by decide)
                    have d8 : D 8 = true := hall 8 (by decide)
                    have d9 : D 9 = true := hall 9 (by decide)
                    have d10 : D 10 = true := hall 10 (by decide)
                    have d11 : D 11 = true := hall 11 (by decide)
                    have d12 : D 12 = true := hall 12 (by decide)
                    have d13 : D 13 = true := hall 13 (by decide)
                    have d14 : D 14 = true := hall 14 (by decide)
                    have d15 : D 15 = true := hall 15 (by decide)
                    have d16 : D 16 = true := hall 16 (by decide)
                    have d17 : D 17 = true := hall 17 (by decide)
                    have d18 : D 18 = true := hall 18 (by decide)
                    have d19 : D 19 = true := hall 19 (by decide)
                    have d20 : D 20 = true := hall 20 (by decide)
                    have d21 : D 21 = true := hall 21 (by decide)
                    have d22 : D 22 = true := hall 22 (by decide)
                    have d23 : D 23 = true := hall 23 (by decide)
                    have f0 : ux100 0 = (vI s13.2.2.1) := (hI.2 0 d0 _ rfl).2
                    have f1 : ux100 1 = (vI s95.2.2) := (hI.2 1 d1 _ rfl).2
                    have f2 : ux100 2 = (vI s13.2.2.1) := (hI.2 2 d2 _ rfl).2
                    have f3 : ux100 3 = (vI s95.2.2) := (hI.2 3 d3 _ rfl).2
                    have f4 : ux100 4 = (vI p0) := (hI.2 4 d4 _ rfl).2
                    have f5 : ux100 5 = (vI s13.2.2.1) := (hI.2 5 d5 _ rfl).2
                    have f6 : ux100 6 = (vI s95.2.2) := (hI.2 6 d6 _ rfl).2
                    have f7 : ux100 7 = (ptr b1 (0 + (s13.2.2.1).toNat * 4)) := (hI.2 7 d7 _ rfl).2
                    have f8 : ux100 8 = (ptr b1 (0 + (s13.2.2.1).toNat * 4 + (s95.2.2).toNat * 1)) := (hI.2 8 d8 _ rfl).2
                    have f9 : ux100 9 = (vB x105) := (hI.2 9 d9 _ rfl).2
                    have f10 : ux100 10 = (vB r90) := (hI.2 10 d10 _ rfl).2
                    have f11 : ux100 11 = (vB r107) := (hI.2 11 d11 _ rfl).2
                    have f12 : ux100 12 = (vI p0) := (hI.2 12 d12 _ rfl).2
                    have f13 : ux100 13 = (vI s13.2.2.1) := (hI.2 13 d13 _ rfl).2
                    have f14 : ux100 14 = (vI s95.2.2) := (hI.2 14 d14 _ rfl).2
                    have f15 : ux100 15 = (ptr b7 (0 + (s13.2.2.1).toNat * 4)) := (hI.2 15 d15 _ rfl).2
                    have f16 : ux100 16 = (ptr b7 (0 + (s13.2.2.1).toNat * 4 + (s95.2.2).toNat * 1)) := (hI.2 16 d16 _ rfl).2
                    have f17 : ux100 17 = (vB x113) := (hI.2 17 d17 _ rfl).2
                    have f18 : ux100 18 = (vB r90) := (hI.2 18 d18 _ rfl).2
                    have f19 : ux100 19 = (vB r115) := (hI.2 19 d19 _ rfl).2
                    have f20 : ux100 20 = (ptr b1 (0 + (s13.2.2.1).toNat * 4)) := (hI.2 20 d20 _ rfl).2
                    have f21 : ux100 21 = (ptr b1 (0 + (s13.2.2.1).toNat * 4 + (s95.2.2).toNat * 1)) := (hI.2 21 d21 _ rfl).2
                    have f23 : ux100 23 = (ptr b7 (0 + (s13.2.2.1).toNat * 4)) := (hI.2 23 d23 _ rfl).2
                    have hM := hM.togB (pre := [_, _]) d22
                    have hE := hE.sub (e' := [(73, (vI s13.2.2.1)), (74, (vI s95.2.2)), (75, (vI s13.2.2.1)), (76, (vI s95.2.2)), (77, (vI p0)), (78, (vI s13.2.2.1)), (79, (vI s95.2.2)), (80, (ptr b1 (0 + (s13.2.2.1).toNat * 4))), (81, (ptr b1 (0 + (s13.2.2.1).toNat * 4 + (s95.2.2).toNat * 1))), (82, (vB x105)), (83, (vB r90)), (84, (vB r107)), (85, (vI p0)), (86, (vI s13.2.2.1)), (87, (vI s95.2.2)), (88, (ptr b7 (0 + (s13.2.2.1).toNat * 4))), (89, (ptr b7 (0 + (s13.2.2.1).toNat * 4 + (s95.2.2).toNat * 1))), (90, (vB x113)), (91, (vB r90)), (92, (vB r115)), (93, (ptr b1 (0 + (s13.2.2.1).toNat * 4))), (94, (ptr b1 (0 + (s13.2.2.1).toNat * 4 + (s95.2.2).toNat * 1))), (95, (ptr b7 (0 + (s13.2.2.1).toNat * 4))), (0, (vI p0)), (3, (ptr b1 0)), (5, (ptr b3 0)), (6, (ptr b7 0)), (7, (vB r82)), (8, (vI s13.2.2.1)), (10, (vB r90)), (11, (vI s95.2.2)), (16, (vI s13.2.2.1)), (70, (vI s95.2.2)), (71, (vT (decide (s95.2.2 < 4)))), (72, (vI s95.2.2))]) ⟨lk rfl f0, lk rfl f1, lk rfl f2, lk rfl f3, lk rfl f4, lk rfl f5, lk rfl f6, lk rfl f7, lk rfl f8, lk rfl f9, lk rfl f10, lk rfl f11, lk rfl f12, lk rfl f13, lk rfl f14, lk rfl f15, lk rfl f16, lk rfl f17, lk rfl f18, lk rfl f19, lk rfl f20, lk rfl f21, lk rfl f23, rfl, rfl, rfl, rfl, rfl, rfl, rfl, rfl, rfl, rfl, rfl, rfl, trivial⟩
                    obtain ⟨x127, e128, hs96⟩ := bind_some hs96
                    have hi126 := vidx_some e128
                    refine s_indexA hE goes_none (by decide) rfl rfl Try.underlying44 ty5 hi126.1 ?_; intro a hE
                    refine s_store (seg := [(vB r115)]) (cs' := Flat.enc (s95.2.1.setIfInBounds (s13.2.2.1).toNat (x124.setIfInBounds (s95.2.2).toNat r115))) hE hM goes_none rfl rfl rfl ty5 rfl (fit_vecI (o' := 0 + (s95.2.2).toNat * 1) hi123 (fit_vec (v := x124) (x := r115) hi126.1) (by first | omega | (simp only [Flat.n] <;> omega))) (Flat.cell (r115 : UInt8)) (splice_vecI (o' := 0 + (s95.2.2).toNat * 1) hi123 (fit_vec (v := x124) (x := r115) hi126.1) (splice_vec0 (v := x124) (x := r115) hi126.1) (by first | omega | (simp only [Flat.n] <;> omega))) ?_; intro w a hM hE
                    refine c_fin0 ?_
                    refine c_nb ?_
                    refine c_nx ?_
                    refine wp_region_lit ?_
                    refine s_int hE goes_none (by decide) rfl rfl rfl ?_; intro a hE
                    refine s_move hE goes_none (by decide) rfl ?_; intro a hE
                    refine c_fin0 ?_
                    refine c_mid ?_
                    exact ⟨_, (Option.some.inj hs96).symm, hE.sub ⟨rfl, rfl, rfl, rfl, rfl, rfl, rfl, rfl, rfl, trivial⟩, hM⟩
                · intro hb99
                  have hs96 := ite_f hs96 hb99
                  refine wp_exit (e_then (e_then (e_eq ?_)))
                  have ht129 := hx97 _ (Option.some.inj hs96).symm
                  subst ht129
                  refine c_mid ?_
                  exact ⟨hE.sub ⟨rfl, rfl, rfl, rfl, rfl, rfl, rfl, trivial⟩, hM⟩
              · skip
                rintro a w ⟨hE, hM⟩
                refine c_nx ?_
                refine c_region ?_
                refine s_move hE goes_none (by decide) rfl ?_; intro a hE
                refine c_fin ?_
                obtain ⟨j130, hl131, hF132⟩ := bind_some hF94
                refine c_cut (fun a w => Env 153 a [(0, (vI p0)), (3, (ptr b1 0)), (5, (ptr b3 0)), (6, (ptr b7 0)), (7, (vB r82)), (16, (vI s13.2.2.1))] ∧ M (Old w0) w0 w [raw b7 (Flat.enc j130.2), raw b3 (Flat.enc (Vector.replicate 4 (Vector.replicate 4 (0 : UInt8)))), raw b1 (Flat.enc j130.1)]) ?_ ?_
                · skip
                  refine wp_block ?_
                  refine c_loop (fun (s133 : (Vector (Vector UInt8 4) 4) × (Vector (Vector UInt8 4) 4) × Int) a w => Env 153 a [(0, (vI p0)), (3, (ptr b1 0)), (5, (ptr b3 0)), (6, (ptr b7 0)), (7, (vB r82)), (8, (vI s13.2.2.1)), (16, (vI s13.2.2.1)), (98, (vI s133.2.2))] ∧ M (Old w0) w0 w [raw b7 (Flat.enc s133.2.1), raw b3 (Flat.enc (Vector.replicate 4 (Vector.replicate 4 (0 : UInt8)))), raw b1 (Flat.enc s133.1)]) hl131 ⟨hE.sub ⟨rfl, rfl, rfl, rfl, rfl, rfl, rfl, rfl, trivial⟩, hM⟩ ?_
                  rintro s133 a w ⟨hE, hM⟩ o136 hs134 hx135
                  unfold L3_impl_field_invert at hs134
                  refine c_region ?_
                  refine s_int hE goes_none (by decide) rfl rfl rfl ?_; intro a hE
                  refine c_fin ?_
                  refine wp_seq ?_
                  refine c_cond hE rfl ?_ ?_
                  · intro hb137
                    have hs134 := ite_t hs134 hb137
                    refine wp_skip ?_
                    refine c_nx ?_
                    obtain ⟨j138, hl139, hF140⟩ := bind_some hs134
                    refine c_join (fun a w => Env 153 a [(0, (vI p0)), (3, (ptr b1 0)), (5, (ptr b3 0)), (6, (ptr b7 0)), (7, (vB r82)), (8, (vI s13.2.2.1)), (16, (vI s13.2.2.1)), (98, (vI s133.2.2))] ∧ M (Old w0) w0 w [raw b7 (Flat.enc j138.2), raw b3 (Flat.enc (Vector.replicate 4 (Vector.replicate 4 (0 : UInt8)))), raw b1 (Flat.enc j138.1)]) ?_ ?_
                    · skip
                      refine wp_block ?_
                      refine c_region ?_
                      refine s_move hE goes_none (by decide) rfl ?_; intro a hE
                      refine s_assign hE goes_none (by decide) rfl ?_; intro a hE
                      refine c_fin ?_
                      refine c_region ?_
                      refine s_move hE goes_none (by decide) rfl ?_; intro a hE
                      refine s_move hE goes_none (by decide) rfl ?_; intro a hE
                      obtain ⟨x142, e143, hl139⟩ := bind_some hl139
                      have hi141 := vidx_some e143
                      refine s_indexA hE goes_none (by decide) rfl rfl Try.underlying55 ty44 hi141.1 ?_; intro a hE
                      obtain ⟨x145, e146, hl139⟩ := bind_some hl139
                      have hi144 := vidx_some e146
                      refine s_indexA hE goes_none (by decide) rfl rfl Try.underlying44 ty5 hi144.1 ?_; intro a hE
                      refine s_load (v := (vB x145)) hE goes_none (by decide) rfl ty5 rfl (At.vec (At.vec (hM.rawAt (pre := [_, _])) hi141.2) hi144.2) ?_; intro a hE
                      refine s_assign hE goes_none (by decide) rfl ?_; intro a hE
                      refine c_fin ?_
                      obtain ⟨j147, hl148, hF149⟩ := bind_some hl139
                      refine c_join (fun a w => Env 153 a [(0, (vI p0)), (3, (ptr b1 0)), (5, (ptr b3 0)), (6, (ptr b7 0)), (7, (vB r82)), (8, (vI s13.2.2.1)), (12, (vI s133.2.2)), (13, (vB x145)), (16, (vI s13.2.2.1)), (98, (vI s133.2.2)), (112, (vT j147))] ∧ M (Old w0) w0 w [raw b7 (Flat.enc s133.2.1), raw b3 (Flat.enc (Vector.replicate 4 (Vector.replicate 4 (0 : UInt8)))), raw b1 (Flat.enc s133.1)]) ?_ ?_
                      · skip
                        refine wp_region_lit ?_
                        refine s_move hE goes_none (by decide) rfl ?_; intro a hE
                        refine s_move hE goes_none (by decide) rfl ?_; intro a hE
                        refine s_int hE goes_none (by decide) rfl rfl rfl ?_; intro a hE
                        refine s_move hE goes_none (by decide) rfl ?_; intro a hE
                        refine splitB (s133.2.2 != s13.2.2.1) (fun hb150 => ?_) (fun hb150 => ?_)
                        · have hl148 := ite_t hl148 hb150
                          refine s_move hE (goes_yes hE rfl (lkb rfl hb150)) (by decide) rfl ?_; intro a hE
                          refine s_int hE (goes_yes hE rfl (lkb rfl hb150)) (by decide) rfl rfl (bB_neq x145 0) ?_; intro a hE
                          refine s_pickT hE goes_none (by decide) (lkb rfl hb150) rfl ?_; intro a hE
                          refine c_fin0 ?_
                          have ht151 := Option.some.inj hl148
                          subst ht151
                          refine c_mid ?_
                          exact ⟨hE.sub ⟨rfl, rfl, rfl, rfl, rfl, rfl, rfl, rfl, rfl, rfl, rfl, trivial⟩, hM⟩
                        · have hl148 := ite_f hl148 hb150
                          refine s_skip hE rfl (lkb rfl hb150) rfl (by decide) ?_; intro a hE
                          refine s_skip hE rfl (lkb rfl hb150) rfl (by decide) ?_; intro a hE
                          refine s_pickF hE goes_none (by decide) (lkb rfl hb150) rfl ?_; intro a hE
                          refine c_fin0 ?_
                          have ht152 := Option.some.inj hl148
                          subst ht152
                          refine c_mid ?_
                          exact ⟨hE.sub ⟨rfl, rfl, rfl, rfl, rfl, rfl, rfl, rfl, rfl, rfl, rfl, trivial⟩, hM⟩
                      · skip
                        rintro a w ⟨hE, hM⟩
                        obtain ⟨j153, hl154, hF155⟩ := bind_some hF149
                        refine c_cut (fun a w => Env 153 a [(0, (vI p0)), (3, (ptr b1 0)), (5, (ptr b3 0)), (6, (ptr b7 0)), (7, (vB r82)), (8, (vI s13.2.2.1)), (16, (vI s13.2.2.1)), (98, (vI s133.2.2))] ∧ M (Old w0) w0 w [raw b7 (Flat.enc j153.2), raw b3 (Flat.enc (Vector.replicate 4 (Vector.replicate 4 (0 : UInt8)))), raw b1 (Flat.enc j153.1)]) ?_ ?_
                        · skip
                          refine c_cond hE rfl ?_ ?_
                          · intro hb156
                            have hl154 := ite_t hl154 hb156
                            refine c_region ?_
                            refine s_move hE goes_none (by decide) rfl ?_; intro a hE
                            refine c_fin ?_
                            obtain ⟨j157, hl158, hF159⟩ := bind_some hl154
                            refine c_cut (fun a w => Env 153 a [(0, (vI p0)), (3, (ptr b1 0)), (5, (ptr b3 0)), (6, (ptr b7 0)), (7, (vB r82)), (8, (vI s13.2.2.1)), (16, (vI s13.2.2.1)), (98, (vI s133.2.2))] ∧ M (Old w0) w0 w [raw b7 (Flat.enc j157.2), raw b3 (Flat.enc (Vector.replicate 4 (Vector.replicate 4 (0 : UInt8)))), raw b1 (Flat.enc j157.1)]) ?_ ?_
                            · skip
                              refine wp_block ?_
                              refine c_loop (fun (s160 : (Vector (Vector UInt8 4) 4) × (Vector (Vector UInt8 4) 4) × Int) a w => Env 153 a [(0, (vI p0)), (3, (ptr b1 0)), (5, (ptr b3 0)), (6, (ptr b7 0)), (7, (vB r82)), (8, (vI s13.2.2.1)), (12, (vI s133.2.2)), (13, (vB x145)), (16, (vI s13.2.2.1)), (98, (vI s133.2.2)), (113, (vI s160.2.2))] ∧ M (Old w0) w0 w [raw b7 (Flat.enc s160.2.1), raw b3 (Flat.enc (Vector.replicate 4 (Vector.replicate 4 (0 : UInt8)))), raw b1 (Flat.enc s160.1)]) hl158 ⟨hE.sub ⟨rfl, rfl, rfl, rfl, rfl, rfl, rfl, rfl, rfl, rfl, rfl, trivial⟩, hM⟩ ?_
                              rintro s160 a w ⟨hE, hM⟩ o163 hs161 hx162
                              unfold L4_impl_field_invert at hs161
                              refine c_region ?_
                              refine s_int hE goes_none (by decide) rfl rfl rfl ?_; intro a hE
                              refine c_fin ?_
                              refine wp_seq ?_
                              refine c_cond hE rfl ?_ ?_
                              · intro hb164
                                have hs161 := ite_t hs161 hb164
                                refine wp_skip ?_
                                refine c_nx ?_
                                refine wp_seq ?_
                                refine wp_block ?_
                                refine c_region ?_
                                refine s_move hE goes_none (by decide) rfl ?_; intro a hE
                                refine s_assign hE goes_none (by decide) rfl ?_; intro a hE
                                refine c_fin ?_
                                obtain ⟨j165, hl166, hF167⟩ := bind_some hs161
                                refine c_join (fun a w => Env 153 a [(0, (vI p0)), (3, (ptr b1 0)), (5, (ptr b3 0)), (6, (ptr b7 0)), (7, (vB r82)), (8, (vI s13.2.2.1)), (12, (vI s133.2.2)), (13, (vB x145)), (14, (vI s160.2.2)), (16, (vI s13.2.2.1)), (98, (vI s133.2.2)), (113, (vI s160.2.2))] ∧ M (Old w0) w0 w [raw b7 (Flat.enc s160.2.1), raw b3 (Flat.enc (Vector.replicate 4 (Vector.replicate 4 (0 : UInt8)))), raw b1 (Flat.enc j165)]) ?_ ?_
                                · skip
                                  obtain ⟨x170, e171, hl166⟩ := bind_some hl166
                                  have hi169 := vidx_some e171
                                  obtain ⟨x173, e174, hl166⟩ := bind_some hl166
                                  have hi172 := vidx_some e174
                                  obtain ⟨x176, e177, hl166⟩ := bind_some hl166
                                  have hi175 := vidx_some e177
                                  obtain ⟨x179, e180, hl166⟩ := bind_some hl166
                                  have hi178 := vidx_some e180
                                  obtain ⟨r181, e182, hl166⟩ := bind_some hl166
                                  obtain ⟨x184, e185, hl166⟩ := bind_some hl166
                                  have hi183 := vidx_some e185
                                  obtain ⟨x187, e188, hl166⟩ := bind_some hl166
                                  have hi186 := vidx_some e188
                                  refine c_draw (n := 153) (hd := [_, _, _, _, _, _, _, _, _, _, _, _, _, _, _, _]) (tl := [_]) hmix rfl rfl [116, 117, 118, 119, 120, 121, 122, 123, 124, 125, 126, 127, 128, 129, 130, 131] (by decide) (fun w => M (Old w0) w0 w [raw b7 (Flat.enc s160.2.1), raw b3 (Flat.enc (Vector.replicate 4 (Vector.replicate 4 (0 : UInt8)))), raw b1 (Flat.enc s160.1)]) (fun j => ([fun v _ => v = (vI s133.2.2), fun v _ => v = (vI s160.2.2), fun v _ => v = (ptr b1 (0 + (s133.2.2).toNat * 4)), fun v _ => v = (ptr b1 (0 + (s133.2.2).toNat * 4 + (s160.2.2).toNat * 1)), fun v _ => v = (vB x173), fun v _ => v = (vI p0), fun v _ => v = (vB x145), fun v _ => v = (vI s13.2.2.1), fun v _ => v = (vI s160.2.2), fun v _ => v = (ptr b1 (0 + (s13.2.2.1).toNat * 4)), fun v _ => v = (ptr b1 (0 + (s13.2.2.1).toNat * 4 + (s160.2.2).toNat * 1)), fun v _ => v = (vB x179), fun v _ => v = (vB r181), fun v _ => v = (vB (x173 ^^^ r181)), fun v _ => v = (ptr b1 (0 + (s133.2.2).toNat * 4)), fun v _ => v = (ptr b1 (0 + (s133.2.2).toNat * 4 + (s160.2.2).toNat * 1))] : List (Value → World → Prop)).getD j (fun _ _ => True)) (fun _ _ h hk => h.keep hk) (gup (gupE (gupE (gupE (gupE (gupE (gupE (gupE (gupE (gupE (gupE (gupE (gupE (gupE (gupE (gupE (gupE gupN))))))))))))))))) hE hM.drew (steps_of (steps_cons ?_ (steps_cons ?_ (steps_cons ?_ (steps_cons ?_ (steps_cons ?_ (steps_cons ?_ (steps_cons ?_ (steps_cons ?_ (steps_cons ?_ (steps_cons ?_ (steps_cons ?_ (steps_cons ?_ (steps_cons ?_ (steps_cons ?_ (steps_cons ?_ (steps_cons ?_ steps_nil))))))))))))))))) ?_
                                  · intro a w ux168 hE hM hp
                                    refine s_move hE goes_none (by decide) rfl ?_; intro a hE
                                    exact ⟨Kept.refl _ _, _, _, rfl, hE, rfl⟩
                                  · intro a w ux168 hE hM hp
                                    refine s_move hE goes_none (by decide) rfl ?_; intro a hE
                                    exact ⟨Kept.refl _ _, _, _, rfl, hE, rfl⟩
                                  · intro a w ux168 hE hM hp
                                    have f0 : ux168 0 = (vI s133.2.2) := hp 0 _ rfl rfl
                                    refine s_indexA hE goes_none (by decide) rfl (lk rfl f0) Try.underlying55 ty44 hi169.1 ?_; intro a hE
                                    exact ⟨Kept.refl _ _, _, _, rfl, hE, rfl⟩
                                  · intro a w ux168 hE hM hp
                                    have f1 : ux168 1 = (vI s160.2.2) := hp 1 _ rfl rfl
                                    have f2 : ux168 2 = (ptr b1 (0 + (s133.2.2).toNat * 4)) := hp 0 _ rfl rfl
                                    refine s_indexA hE goes_none (by decide) (lk rfl f2) (lk rfl f1) Try.underlying44 ty5 hi172.1 ?_; intro a hE
                                    exact ⟨Kept.refl _ _, _, _, rfl, hE, rfl⟩
                                  · intro a w ux168 hE hM hp
                                    have f3 : ux168 3 = (ptr b1 (0 + (s133.2.2).toNat * 4 + (s160.2.2).toNat * 1)) := hp 0 _ rfl rfl
                                    refine s_load (v := (vB x173)) hE goes_none (by decide) (lk rfl f3) ty5 rfl (At.vec (At.vec (hM.rawAt (pre := [_, _])) hi169.2) hi172.2) ?_; intro a hE
                                    exact ⟨Kept.refl _ _, _, _, rfl, hE, rfl⟩
                                  · intro a w ux168 hE hM hp
                                    refine s_move hE goes_none (by decide) rfl ?_; intro a hE
                                    exact ⟨Kept.refl _ _, _, _, rfl, hE, rfl⟩
                                  · intro a w ux168 hE hM hp
                                    refine s_move hE goes_none (by decide) rfl ?_; intro a hE
                                    exact ⟨Kept.refl _ _, _, _, rfl, hE, rfl⟩
                                  · intro a w ux168 hE hM hp
                                    refine s_move hE goes_none (by decide) rfl ?_; intro a hE
                                    exact ⟨Kept.refl _ _, _, _, rfl, hE, rfl⟩
                                  · intro a w ux168 hE hM hp
                                    refine s_move hE goes_none (by decide) rfl ?_; intro a hE
                                    exact ⟨Kept.refl _ _, _, _, rfl, hE, rfl⟩
                                  · intro a w ux168 hE hM hp
                                    have f7 : ux168 7 = (vI s13.2.2.1) := hp 0 _ rfl rfl
                                    refine s_indexA hE goes_none (by decide) rfl (lk rfl f7) Try.underlying55 ty44 hi175.1 ?_; intro a hE
                                    exact ⟨Kept.refl _ _, _, _, rfl, hE, rfl⟩
                                  · intro a w ux168 hE hM hp
                                    have f8 : ux168 8 = (vI s160.2.2) := hp 1 _ rfl rfl
                                    have f9 : ux168 9 = (ptr b1 (0 + (s13.2.2.1).toNat * 4)) := hp 0 _ rfl rfl
                                    refine s_indexA hE goes_none (by decide) (lk rfl f9) (lk rfl f8) Try.underlying44 ty5 hi178.1 ?_; intro a hE
                                    exact ⟨Kept.refl _ _, _, _, rfl, hE, rfl⟩
                                  · intro a w ux168 hE hM hp
                                    have f10 : ux168 10 = (ptr b1 (0 + (s13.2.2.1).toNat * 4 + (s160.2.2).toNat * 1)) := hp 0 _ rfl rfl
                                    refine s_load (v := (vB x179)) hE goes_none (by decide) (lk rfl f10) ty5 rfl (At.vec (At.vec (hM.rawAt (pre := [_, _])) hi175.2) hi178.2) ?_; intro a hE
                                    exact ⟨Kept.refl _ _, _, _, rfl, hE, rfl⟩
                                  · intro a w ux168 hE hM hp
                                    have f5 : ux168 5 = (vI p0) := hp 0 _ rfl rfl
                                    have f6 : ux168 6 = (vB x145) := hp 1 _ rfl rfl
                                    have f11 : ux168 11 = (vB x179) := hp 2 _ rfl rfl
                                    refine s_call (vs := [(vI p0), (vB x145), (vB x179)]) hE goes_none (by decide) (evs_of (evsC (lk rfl f5) (evsC (lk rfl f6) (evsC (lk rfl f11) evsN)))) cb189 (c_impl_field_times _ p0 x145 x179 r181 e182) ?_
                                    rintro v w a ⟨rfl, hK⟩ hE
                                    exact ⟨hK, _, _, rfl, hE, rfl⟩
                                  · intro a w ux168 hE hM hp
                                    have f4 : ux168 4 = (vB x173) := hp 0 _ rfl rfl
                                    have f12 : ux168 12 = (vB r181) := hp 1 _ rfl rfl
                                    refine s_int hE goes_none (by decide) (lk rfl f4) (lk rfl f12) (bB_xor x173 r181) ?_; intro a hE
                                    exact ⟨Kept.refl _ _, _, _, rfl, hE, rfl⟩
                                  · intro a w ux168 hE hM hp
                                    have f0 : ux168 0 = (vI s133.2.2) := hp 0 _ rfl rfl
                                    refine s_indexA hE goes_none (by decide) rfl (lk rfl f0) Try.underlying55 ty44 hi183.1 ?_; intro a hE
                                    exact ⟨Kept.refl _ _, _, _, rfl, hE, rfl⟩
                                  · intro a w ux168 hE hM hp
                                    have f1 : ux168 1 = (vI s160.2.2) := hp 1 _ rfl rfl
                                    have f14 : ux168 14 = (ptr b1 (0 + (s133.2.2).toNat * 4)) := hp 0 _ rfl rfl
                                    refine s_indexA hE goes_none (by decide) (lk rfl f14) (lk rfl f1) Try.underlying44 ty5 hi186.1 ?_; intro a hE
                                    exact ⟨Kept.refl _ _, _, _, rfl, hE, rfl⟩
                                  · intro a w ux168 hE hM hg
                                    have f0 : ux168 0 = (vI s133.2.2) := hg 0 (by decide)
                                    have f1 : ux168 1 = (vI s160.2.2) := hg 1 (by decide)
                                    have f2 : ux168 2 = (ptr b1 (0 + (s133.2.2).toNat * 4)) := hg 2 (by decide)
                                    have f3 : ux168 3 = (ptr b1 (0 + (s133.2.2).toNat * 4 + (s160.2.2).toNat * 1)) := hg 3 (by decide)
                                    have f4 : ux168 4 = (vB x173) := hg 4 (by decide)
                                    have f5 : ux168 5 = (vI p0) := hg 5 (by decide)
                                    have f6 : ux168 6 = (vB x145) := hg 6 (by decide)
                                    have f7 : ux168 7 = (vI s13.2.2.1) := hg 7 (by decide)
                                    have f8 : ux168 8 = (vI s160.2.2) := hg 8 (by decide)
                                    have f9 : ux168 9 = (ptr b1 (0 + (s13.2.2.1).toNat * 4)) := hg 9 (by decide)
                                    have f10 : ux168 10 = (ptr b1 (0 + (s13.2.2.1).toNat * 4 + (s160.2.2).toNat * 1)) := hg 10 (by decide)
                                    have f11 : ux168 11 = (vB x179) := hg 11 (by decide)
                                    have f12 : ux168 12 = (vB r181) := hg 12 (by decide)
                                    have f13 : ux168 13 = (vB (x173 ^^^ r181)) := hg 13 (by decide)
                                    have f14 : ux168 14 = (ptr b1 (0 + (s133.2.2).toNat * 4)) := hg 14 (by decide)
                                    have f15 : ux168 15 = (ptr b1 (0 + (s133.2.2).toNat * 4 + (s160.2.2).toNat * 1)) := hg 15 (by decide)
                                    have hE := hE.sub (e' := [(116, (vI s133.2.2)), (117, (vI s160.2.2)), (118, (ptr b1 (0 + (s133.2.2).toNat * 4))), (119, (ptr b1 (0 + (s133.2.2).toNat * 4 + (s160.2.2).toNat * 1))), (120, (vB x173)), (121, (vI p0)), (122, (vB x145)), (123, (vI s13.2.2.1)), (124, (vI s160.2.2)), (125, (ptr b1 (0 + (s13.2.2.1).toNat * 4))), (126, (ptr b1 (0 + (s13.2.2.1).toNat * 4 + (s160.2.2).toNat * 1))), (127, (vB x179)), (128, (vB r181)), (129, (vB (x173 ^^^ r181))), (130, (ptr b1 (0 + (s133.2.2).toNat * 4))), (131, (ptr b1 (0 + (s133.2.2).toNat * 4 + (s160.2.2).toNat * 1))), (0, (vI p0)), (3, (ptr b1 0)), (5, (ptr b3 0)), (6, (ptr b7 0)), (7, (vB r82)), (8, (vI s13.2.2.1)), (12, (vI s133.2.2)), (13, (vB x145)), (14, (vI s160.2.2)), (16, (vI s13.2.2.1)), (98, (vI s133.2.2)), (113, (vI s160.2.2)), (114, (vT (decide (s160.2.2 < 4)))), (115, (vI s160.2.2))]) ⟨lk rfl f0, lk rfl f1, lk rfl f2, lk rfl f3, lk rfl f4, lk rfl f5, lk rfl f6, lk rfl f7, lk rfl f8, lk rfl f9, lk rfl f10, lk rfl f11, lk rfl f12, lk rfl f13, lk rfl f14, lk rfl f15, rfl, rfl, rfl, rfl, rfl, rfl, rfl, rfl, rfl, rfl, rfl, rfl, rfl, rfl, trivial⟩
                                    have hM := hM.pull (pre := [_, _])
                                    refine s_store (seg := [(vB (x173 ^^^ r181))]) (cs' := Flat.enc (s160.1.setIfInBounds (s133.2.2).toNat (x184.setIfInBounds (s160.2.2).toNat (x173 ^^^ r181)))) hE hM goes_none rfl rfl rfl ty5 rfl (fit_vecI (o' := 0 + (s160.2.2).toNat * 1) hi183 (fit_vec (v := x184) (x := x173 ^^^ r181) hi186.1) (by first | omega | (simp only [Flat.n] <;> omega))) (Flat.cell (x173 ^^^ r181 : UInt8)) (splice_vecI (o' := 0 + (s160.2.2).toNat * 1) hi183 (fit_vec (v := x184) (x := x173 ^^^ r181) hi186.1) (splice_vec0 (v := x184) (x := x173 ^^^ r181) hi186.1) (by first | omega | (simp only [Flat.n] <;> omega))) ?_; intro w a hM hE
                                    refine c_fin0 ?_
                                    have ht189 := Option.some.inj hl166
                                    subst ht189
                                    refine c_mid ?_
                                    have hM := hM.pull (pre := [_, _])
                                    have hM := hM.pull (pre := [_, _])
                                    exact ⟨hE.sub ⟨rfl, rfl, rfl, rfl, rfl, rfl, rfl, rfl, rfl, rfl, rfl, rfl, trivial⟩, hM⟩
                                · skip
                                  rintro a w ⟨hE, hM⟩
                                  obtain ⟨x192, e193, hF167⟩ := bind_some hF167
                                  have hi191 := vidx_some e193
                                  obtain ⟨x195, e196, hF167⟩ := bind_some hF167
                                  have hi194 := vidx_some e196
                                  obtain ⟨x198, e199, hF167⟩ := bind_some hF167
                                  have hi197 := vidx_some e199
                                  obtain ⟨x201, e202, hF167⟩ := bind_some hF167
                                  have hi200 := vidx_some e202
                                  obtain ⟨r203, e204, hF167⟩ := bind_some hF167
                                  obtain ⟨x206, e207, hF167⟩ := bind_some hF167
                                  have hi205 := vidx_some e207
                                  obtain ⟨x209, e210, hF167⟩ := bind_some hF167
                                  have hi208 := vidx_some e210
                                  refine c_draw (n := 153) (hd := [_, _, _, _, _, _, _, _, _, _, _, _, _, _, _, _]) (tl := [_]) hmix rfl rfl [132, 133, 134, 135, 136, 137, 138, 139, 140, 141, 142, 143, 144, 145, 146, 147] (by decide) (fun w => M (Old w0) w0 w [raw b7 (Flat.enc s160.2.1), raw b3 (Flat.enc (Vector.replicate 4 (Vector.replicate 4 (0 : UInt8)))), raw b1 (Flat.enc j165)]) (fun j => ([fun v _ => v = (vI s133.2.2), fun v _ => v = (vI s160.2.2), fun v _ => v = (ptr b7 (0 + (s133.2.2).toNat * 4)), fun v _ => v = (ptr b7 (0 + (s133.2.2).toNat * 4 + (s160.2.2).toNat * 1)), fun v _ => v = (vB x195), fun v _ => v = (vI p0), fun v _ => v = (vB x145), fun v _ => v = (vI s13.2.2.1), fun v _ => v = (vI s160.2.2), fun v _ => v = (ptr b7 (0 + (s13.2.2.1).toNat * 4)), fun v _ => v = (ptr b7 (0 + (s13.2.2.1).toNat * 4 + (s160.2.2).toNat * 1)), fun v _ => v = (vB x201), fun v _ => v = (vB r203), fun v _ => v = (vB (x195 ^^^ r203)), fun v _ => v = (ptr b7 (0 + (s133.2.2).toNat * 4)), fun v _ => v = (ptr b7 (0 + (s133.2.2).toNat * 4 + (s160.2.2).toNat * 1))] : List (Value → World → Prop)).getD j (fun _ _ => True)) (fun _ _ h hk => h.keep hk) (gup (gupE (gupE (gupE (gupE (gupE (gupE (gupE (gupE (gupE (gupE (gupE (gupE (gupE (gupE (gupE (gupE gupN))))))))))))))))) hE hM.drew (steps_of (steps_cons ?_ (steps_cons ?_ (steps_cons ?_ (steps_cons ?_ (steps_cons ?_ (steps_cons ?_ (steps_cons ?_ (steps_cons ?_ (steps_cons ?_ (steps_cons ?_ (steps_cons ?_ (steps_cons ?_ (steps_cons ?_ (steps_cons ?_ (steps_cons ?_ (steps_cons ?_ steps_nil))))))))))))))))) ?_
                                  · intro a w ux190 hE hM hp
                                    refine s_move hE goes_none (by decide) rfl ?_; intro a hE
                                    exact ⟨Kept.refl _ _, _, _, rfl, hE, rfl⟩
                                  · intro a w ux190 hE hM hp
                                    refine s_move hE goes_none (by decide) rfl ?_; intro a hE
                                    exact ⟨Kept.refl _ _, _, _, rfl, hE, rfl⟩
                                  · intro a w ux190 hE hM hp
                                    have f0 : ux190 0 = (vI s133.2.2) := hp 0 _ rfl rfl
                                    refine s_indexA hE goes_none (by decide) rfl (lk rfl f0) Try.underlying55 ty44 hi191.1 ?_; intro a hE
                                    exact ⟨Kept.refl _ _, _, _, rfl, hE, rfl⟩
                                  · intro a w ux190 hE hM hp
                                    have f1 : ux190 1 = (vI s160.2.2) := hp 1 _ rfl rfl
                                    have f2 : ux190 2 = (ptr b7 (0 + (s133.2.2).toNat * 4)) := hp 0 _ rfl rfl
                                    refine s_indexA hE goes_none (by decide) (lk rfl f2) (lk rfl f1) Try.underlying44 ty5 hi194.1 ?_; intro a hE
                                    exact ⟨Kept.refl _ _, _, _, rfl, hE, rfl⟩
                                  · intro a w ux190 hE hM hp
                                    have f3 : ux190 3 = (ptr b7 (0 + (s133.2.2).toNat * 4 + (s160.2.2).toNat * 1)) := hp 0 _ rfl rfl
                                    refine s_load (v := (vB x195)) hE goes_none (by decide) (lk rfl f3) ty5 rfl (At.vec (At.vec (hM.rawAt (pre := [])) hi191.2) hi194.2) ?_; intro a hE
                                    exact ⟨Kept.refl _ _, _, _, rfl, hE, rfl⟩
                                  · intro a w ux190 hE hM hp
                                    refine s_move hE goes_none (by decide) rfl ?_; intro a hE
                                    exact ⟨Kept.refl _ _, _, _, rfl, hE, rfl⟩
                                  · intro a w ux190 hE hM hp
                                    refine s_move hE goes_none (by decide) rfl ?_; intro a hE
                                    exact ⟨Kept.refl _ _, _, _, rfl, hE, rfl⟩
                                  · intro a w ux190 hE hM hp
                                    refine s_move hE goes_none (by decide) rfl ?_; intro a hE
                                    exact ⟨Kept.refl _ _, _, _, rfl, hE, rfl⟩
                                  · intro a w ux190 hE hM hp
                                    refine s_move hE goes_none (by decide) rfl ?_; intro a hE
                                    exact ⟨Kept.refl _ _, _, _, rfl, hE, rfl⟩
                                  · intro a w ux190 hE hM hp
                                    have f7 : ux190 7 = (vI s13.2.2.1) := hp 0 _ rfl rfl
                                    refine s_indexA hE goes_none (by decide) rfl (lk rfl f7) Try.underlying55 ty44 hi197.1 ?_; intro a hE
                                    exact ⟨Kept.refl _ _, _, _, rfl, hE, rfl⟩
                                  · intro a w ux190 hE hM hp
                                    have f8 : ux190 8 = (vI s160.2.2) := hp 1 _ rfl rfl
                                    have f9 : ux190 9 = (ptr b7 (0 + (s13.2.2.1).toNat * 4)) := hp 0 _ rfl rfl
                                    refine s_indexA hE goes_none (by decide) (lk rfl f9) (lk rfl f8) Try.underlying44 ty5 hi200.1 ?_; intro a hE
                                    exact ⟨Kept.refl _ _, _, _, rfl, hE, rfl⟩
                                  · intro a w ux190 hE hM hp
                                    have f10 : ux190 10 = (ptr b7 (0 + (s13.2.2.1).toNat * 4 + (s160.2.2).toNat * 1)) := hp 0 _ rfl rfl
                                    refine s_load (v := (vB x201)) hE goes_none (by decide) (lk rfl f10) ty5 rfl (At.vec (At.vec (hM.rawAt (pre := [])) hi197.2) hi200.2) ?_; intro a hE
                                    exact ⟨Kept.refl _ _, _, _, rfl, hE, rfl⟩
                                  · intro a w ux190 hE hM hp
                                    have f5 : ux190 5 = (vI p0) := hp 0 _ rfl rfl
                                    have f6 : ux190 6 = (vB x145) := hp 1 _ rfl rfl
                                    have f11 : ux190 11 = (vB x201) := hp 2 _ rfl rfl
                                    refine s_call (vs := [(vI p0), (vB x145), (vB x201)]) hE goes_none (by decide) (evs_of (evsC (lk rfl f5) (evsC (lk rfl f6) (evsC (lk rfl f11) evsN)))) cb189 (c_impl_field_times _ p0 x145 x201 r203 e204) ?_
                                    rintro v w a ⟨rfl, hK⟩ hE
                                    exact ⟨hK, _, _, rfl, hE, rfl⟩
                                  · intro a w ux190 hE hM hp
                                    have f4 : ux190 4 = (vB x195) := hp 0 _ rfl rfl
                                    have f12 : ux190 12 = (vB r203) := hp 1 _ rfl rfl
                                    refine s_int hE goes_none (by decide) (lk rfl f4) (lk rfl f12) (bB_xor x195 r203) ?_; intro a hE
                                    exact ⟨Kept.refl _ _, _, _, rfl, hE, rfl⟩
                                  · intro a w ux190 hE hM hp
                                    have f0 : ux190 0 = (vI s133.2.2) := hp 0 _ rfl rfl
                                    refine s_indexA hE goes_none (by decide) rfl (lk rfl f0) Try.underlying55 ty44 hi205.1 ?_; intro a hE
                                    exact ⟨Kept.refl _ _, _, _, rfl, hE, rfl⟩
                                  · intro a w ux190 hE hM hp
                                    have f1 : ux190 1 = (vI s160.2.2) := hp 1 _ rfl rfl
                                    have f14 : ux190 14 = (ptr b7 (0 + (s133.2.2).toNat * 4)) := hp 0 _ rfl rfl
                                    refine s_indexA hE goes_none (by decide) (lk rfl f14) (lk rfl f1) Try.underlying44 ty5 hi208.1 ?_; intro a hE
                                    exact ⟨Kept.refl _ _, _, _, rfl, hE, rfl⟩
                                  · intro a w ux190 hE hM hg
                                    have f0 : ux190 0 = (vI s133.2.2) := hg 0 (by decide)
                                    have f1 : ux190 1 = (vI s160.2.2) := hg 1 (by decide)
                                    have f2 : ux190 2 = (ptr b7 (0 + (s133.2.2).toNat * 4)) := hg 2 (by decide)
                                    have f3 : ux190 3 = (ptr b7 (0 + (s133.2.2).toNat * 4 + (s160.2.2).toNat * 1)) := hg 3 (by decide)
                                    have f4 : ux190 4 = (vB x195) := hg 4 (by decide)
                                    have f5 : ux190 5 = (vI p0) := hg 5 (by decide)
                                    have f6 : ux190 6 = (vB x145) := hg 6 (by decide)
                                    have f7 : ux190 7 = (vI s13.2.2.1) := hg 7 (by decide)
                                    have f8 : ux190 8 = (vI s160.2.2) := hg 8 (by decide)
                                    have f9 : ux190 9 = (ptr b7 (0 + (s13.2.2.1).toNat * 4)) := hg 9 (by decide)
                                    have f10 : ux190 10 = (ptr b7 (0 + (s13.2.2.1).toNat * 4 + (s160.2.2).toNat * 1)) := hg 10 (by decide)
                                    have f11 : ux190 11 = (vB x201) := hg 11 (by decide)
                                    have f12 : ux190 12 = (vB r203) := hg 12 (by decide)
                                    have f13 : ux190 13 = (vB (x195 ^^^ r203)) := hg 13 (by decide)
                                    have f14 : ux190 14 = (ptr b7 (0 + (s133.2.2).toNat * 4)) := hg 14 (by decide)
                                    have f15 : ux190 15 = (ptr b7 (0 + (s133.2.2).toNat * 4 + (s160.2.2).toNat * 1)) := hg 15 (by decide)
                                    have hE := hE.sub (e' := [(132, (vI s133.2.2)), (133, (vI s160.2.2)), (134, (ptr b7 (0 + (s133.2.2).toNat * 4))), (135, (ptr b7 (0 + (s133.2.2).toNat * 4 + (s160.2.2).toNat * 1))), (136, (vB x195)), (137, (vI p0)), (138, (vB x145)), (139, (vI s13.2.2.1)), (140, (vI s160.2.2)), (141, (ptr b7 (0 + (s13.2.2.1).toNat * 4))), (142, (ptr b7 (0 + (s13.2.2.1).toNat * 4 + (s160.2.2).toNat * 1))), (143, (vB x201)), (144, (vB r203)), (145, (vB (x195 ^^^ r203))), (146, (ptr b7 (0 + (s133.2.2).toNat * 4))), (147, (ptr b7 (0 + (s133.2.2).toNat * 4 + (s160.2.2).toNat * 1))), (0, (vI p0)), (3, (ptr b1 0)), (5, (ptr b3 0)), (6, (ptr b7 0)), (7, (vB r82)), (8, (vI s13.2.2.1)), (12, (vI s133.2.2)), (13, (vB x145)), (14, (vI s160.2.2)), (16, (vI s13.2.2.1)), (98, (vI s133.2.2)), (113, (vI s160.2.2))]) ⟨lk rfl f0, lk rfl f1, lk rfl f2, lk rfl f3, lk rfl f4, lk rfl f5, lk rfl f6, lk rfl f7, lk rfl f8, lk rfl f9, lk rfl f10, lk rfl f11, lk rfl f12, lk rfl f13, lk rfl f14, lk rfl f15, rfl, rfl, rfl, rfl, rfl, rfl, rfl, rfl, rfl, rfl, rfl, rfl, trivial⟩
                                    refine s_store (seg := [(vB (x195 ^^^ r203))]) (cs' := Flat.enc (s160.2.1.setIfInBounds (s133.2.2).toNat (x206.setIfInBounds (s160.2.2).toNat (x195 ^^^ r203)))) hE hM goes_none rfl rfl rfl ty5 rfl (fit_vecI (o' := 0 + (s160.2.2).toNat * 1) hi205 (fit_vec (v := x206) (x := x195 ^^^ r203) hi208.1) (by first | omega | (simp only [Flat.n] <;> omega))) (Flat.cell (x195 ^^^ r203 : UInt8)) (splice_vecI (o' := 0 + (s160.2.2).toNat * 1) hi205 (fit_vec (v := x206) (x := x195 ^^^ r203) hi208.1) (splice_vec0 (v := x206) (x := x195 ^^^ r203) hi208.1) (by first | omega | (simp only [Flat.n] <;> omega))) ?_; intro w a hM hE
                                    refine c_fin0 ?_
                                    refine c_nb ?_
                                    refine c_nx ?_
                                    refine wp_region_lit ?_
                                    refine s_int hE goes_none (by decide) rfl rfl rfl ?_; intro a hE
                                    refine s_move hE goes_none (by decide) rfl ?_; intro a hE
                                    refine c_fin0 ?_
                                    refine c_mid ?_
                                    exact ⟨_, (Option.some.inj hF167).symm, hE.sub ⟨rfl, rfl, rfl, rfl, rfl, rfl, rfl, rfl, rfl, rfl, rfl, trivial⟩, hM⟩
                              · intro hb164
                                have hs161 := ite_f hs161 hb164
                                refine wp_exit (e_then (e_then (e_eq ?_)))
                                have ht211 := hx162 _ (Option.some.inj hs161).symm
                                subst ht211
                                refine c_mid ?_
                                exact ⟨hE.sub ⟨rfl, rfl, rfl, rfl, rfl, rfl, rfl, rfl, trivial⟩, hM⟩
                            · skip
                              rintro a w ⟨hE, hM⟩
                              have ht212 := Option.some.inj hF159
                              subst ht212
                              refine c_mid ?_
                              exact ⟨hE.sub ⟨rfl, rfl, rfl, rfl, rfl, rfl, rfl, rfl, trivial⟩, hM⟩
                          · intro hb156
                            have hl154 := ite_f hl154 hb156
                            refine wp_skip ?_
                            have ht213 := Option.some.inj hl154
                            subst ht213
                            refine c_mid ?_
                            exact ⟨hE.sub ⟨rfl, rfl, rfl, rfl, rfl, rfl, rfl, rfl, trivial⟩, hM⟩
                        · skip
                          rintro a w ⟨hE, hM⟩
                          refine c_nb ?_
                          have ht214 := Option.some.inj hF155
                          subst ht214
                          refine c_mid ?_
                          exact ⟨hE.sub ⟨rfl, rfl, rfl, rfl, rfl, rfl, rfl, rfl, trivial⟩, hM⟩
                    · skip
                      rintro a w ⟨hE, hM⟩
                      refine wp_region_lit ?_
                      refine s_int hE goes_none (by decide) rfl rfl rfl ?_; intro a hE
                      refine s_move hE goes_none (by decide) rfl ?_; intro a hE
                      refine c_fin0 ?_
                      refine c_mid ?_
                      exact ⟨_, (Option.some.inj hF140).symm, hE.sub ⟨rfl, rfl, rfl, rfl, rfl, rfl, rfl, rfl, trivial⟩, hM⟩
                  · intro hb137
                    have hs134 := ite_f hs134 hb137
                    refine wp_exit (e_then (e_then (e_eq ?_)))
                    have ht215 := hx135 _ (Option.some.inj hs134).symm
                    subst ht215
                    refine c_mid ?_
                    exact ⟨hE.sub ⟨rfl, rfl, rfl, rfl, rfl, rfl, trivial⟩, hM⟩
                · skip
                  rintro a w ⟨hE, hM⟩
                  refine c_nb ?_
                  refine c_nx ?_
                  refine wp_region_lit ?_
                  refine s_int hE goes_none (by decide) rfl rfl rfl ?_; intro a hE
                  refine s_move hE goes_none (by decide) rfl ?_; intro a hE
                  refine c_fin0 ?_
                  refine c_mid ?_
                  exact ⟨_, (Option.some.inj hF132).symm, hE.sub ⟨rfl, rfl, rfl, rfl, rfl, rfl, trivial⟩, hM⟩
    · intro hb17
      have hs14 := ite_f hs14 hb17
      refine wp_exit (e_then (e_then (e_eq ?_)))
      have ht216 := hx15 _ (Option.some.inj hs14).symm
      subst ht216
      refine c_mid ?_
      have hM := hM.pull (pre := [_])
      have hM := hM.pull (pre := [_])
      have hM := M.fst (l := [_, _]) hM
      exact ⟨(s13.2.1, s13.2.2.2), rfl, hE.sub ⟨rfl, rfl, rfl, trivial⟩, hM⟩
  · skip
    rintro a w ⟨s12, ht, hE, hM⟩
    subst ht
    have hF11 := el_nx hF11
    refine c_nx ?_
    obtain ⟨j217, hl218, hF219⟩ := bind_some hF11
    refine c_join (fun a w => Env 153 a [(4, (vB j217.2)), (5, (ptr b3 0))] ∧ M (Old w0) w0 w [raw b3 (Flat.enc j217.1)]) ?_ ?_
    · skip
      refine c_draw (n := 153) (hd := [_, _, _]) (tl := [_]) hmix rfl rfl [151, 152, 4] (by decide) (fun w => M (Old w0) w0 w [raw b7 (Flat.enc s12.1), raw b3 (Flat.enc (Vector.replicate 4 (Vector.replicate 4 (0 : UInt8))))]) (fun j => ([fun v _ => v = (vB s12.2), fun v _ => v = (Value.agg (Flat.enc s12.1).toArray), fun v _ => v = (vB s12.2)] : List (Value → World → Prop)).getD j (fun _ _ => True)) (fun _ _ h hk => h.keep hk) (gup (gupE (gupE (gupE gupN)))) hE hM.drew (steps_of (steps_cons ?_ (steps_cons ?_ (steps_cons ?_ steps_nil)))) ?_
      · intro a w ux220 hE hM hp
        refine s_move hE goes_none (by decide) rfl ?_; intro a hE
        exact ⟨Kept.refl _ _, _, _, rfl, hE, rfl⟩
      · intro a w ux220 hE hM hp
        refine s_loadA (cs := Flat.enc s12.1) hE goes_none (by decide) rfl ty55 rfl (hM.rawAt (pre := [])) (Flat.len _) ?_; intro a hE
        exact ⟨Kept.refl _ _, _, _, rfl, hE, rfl⟩
      · intro a w ux220 hE hM hp
        have f0 : ux220 0 = (vB s12.2) := hp 0 _ rfl rfl
        refine s_assign hE goes_none (by decide) (lk rfl f0) ?_; intro a hE
        exact ⟨Kept.refl _ _, _, _, rfl, hE, rfl⟩
      · intro a w ux220 hE hM hg
        have f0 : ux220 0 = (vB s12.2) := hg 0 (by decide)
        have f1 : ux220 1 = (Value.agg (Flat.enc s12.1).toArray) := hg 1 (by decide)
        have f2 : ux220 2 = (vB s12.2) := hg 2 (by decide)
        have hE := hE.sub (e' := [(151, (vB s12.2)), (152, (Value.agg (Flat.enc s12.1).toArray)), (4, (vB s12.2)), (5, (ptr b3 0)), (6, (ptr b7 0)), (7, (vB s12.2))]) ⟨lk rfl f0, lk rfl f1, lk rfl f2, rfl, rfl, rfl, trivial⟩
        have hM := hM.pull (pre := [_])
        refine s_store (seg := Flat.enc s12.1) (cs' := Flat.enc s12.1) hE hM goes_none rfl rfl rfl ty55 (Flat.len _) (Nat.le_of_eq ((Nat.zero_add _).trans (Eq.trans (Flat.len _) (Eq.symm (Flat.len _))))) (Flat.cell _) (splice_all (Eq.trans (Flat.len _) (Eq.symm (Flat.len _)))) ?_; intro w a hM hE
        refine c_fin0 ?_
        have ht221 := Option.some.inj hl218
        subst ht221
        refine c_mid ?_
        have hM := M.fst (l := [_]) hM
        exact ⟨hE.sub ⟨rfl, rfl, trivial⟩, hM⟩
    · skip
      rintro a w ⟨hE, hM⟩
      have hr := Option.some.inj hF219
      subst hr
      have hq222 : ResIs Try.prog _ _ (.cell 5 55) _ := res_cell hE rfl ty55 rfl (hM.rawAt (pre := [])) (Flat.len _) rfl
      have hM := M.fst (l := []) hM
      exact wp_ret (k_ret2 hE rfl (res_tmp hE rfl) hq222 ⟨_, rfl, rfl, hM.kept⟩)
noncomputable def F_impl_isInvertible (p0 : Int) (p1 : (Vector (Vector UInt8 4) 4)) : Option (Bool) :=
  (F_impl_field_invert p0 p1).bind fun (r3 : UInt8 × (Vector (Vector UInt8 4) 4)) => some (r3.1 != 0)
set_option maxRecDepth 20000 in
set_option maxHeartbeats 400000 in
theorem c_impl_isInvertible (w0 : World) (p0 : Int) (p1 : (Vector (Vector UInt8 4) 4)) (r : Bool) (hF : F_impl_isInvertible p0 p1 = some r) :
    Calls Try.prog 150 [(vI p0), (Value.agg (Flat.enc p1).toArray)].toArray w0 (fun en w' => ∃ v, en = .returned v ∧ (v = (vT r) ∧ Kept (Old w0) w0 w')) := by
  refine c_enter (n := 15) Try.func150 rfl rfl (Nat.le_of_ble_eq_true rfl) rfl ?_
  intro a hE
  have hM := M.start w0
  unfold F_impl_isInvertible at hF
  refine c_region ?_
  refine s_box (cs := Flat.enc p1) hE hM goes_none (by decide) rfl rfl ?_; intro b1 w a hM hE
  refine s_assign hE goes_none (by decide) rfl ?_; intro a hE
  refine c_fin ?_
  refine c_region ?_
  refine s_move hE goes_none (by decide) rfl ?_; intro a hE
  refine s_loadA (cs := Flat.enc p1) hE goes_none (by decide) rfl ty55 rfl (hM.rawAt (pre := [])) (Flat.len _) ?_; intro a hE
  obtain ⟨r3, e4, hF⟩ := bind_some hF
  refine s_call (vs := [(vI p0), (Value.agg (Flat.enc p1).toArray)]) hE goes_none (by decide) rfl cb152 (c_impl_field_invert _ p0 p1 r3 e4) ?_
  rintro v w a ⟨rfl, hK⟩ hE
  have hM := hM.keep hK
  refine s_move hE goes_none (by decide) rfl ?_; intro a hE
  refine s_extract hE goes_none (by decide) rfl rfl ?_; intro a hE
  refine s_extract hE goes_none (by decide) rfl rfl ?_; intro a hE
  refine s_alloc hE hM goes_none (by decide) ty55 ?_; intro b5 w a hM hE
  refine s_assign hE goes_none (by decide) rfl ?_; intro a hE
  refine s_store (seg := Flat.enc r3.2) (cs' := Flat.enc r3.2) hE hM goes_none rfl rfl rfl ty55 (Flat.len _) (Nat.le_of_eq ((Nat.zero_add _).trans (Eq.trans (Flat.len _) (Eq.symm (Flat.len _))))) (Flat.cell _) (splice_all (Eq.trans (Flat.len _) (Eq.symm (Flat.len _)))) ?_; intro w a hM hE
  refine c_fin ?_
  refine c_region ?_
  refine s_move hE goes_none (by decide) rfl ?_; intro a hE
  refine s_int hE goes_none (by decide) rfl rfl (bB_neq r3.1 0) ?_; intro a hE
  refine s_assign hE goes_none (by decide) rfl ?_; intro a hE
  refine c_fin ?_
  have hr := Option.some.inj hF
  subst hr
  have hM := M.fst (l := []) hM
  exact wp_ret (k_ret1 hE rfl (res_tmp hE rfl) ⟨_, rfl, rfl, hM.kept⟩)
noncomputable def F_bytes_IndexByte (p0 : (List UInt8)) (p1 : UInt8) : Option (Int) :=
  some (indexByte p0 p1)
set_option maxRecDepth 20000 in
set_option maxHeartbeats 400000 in
theorem c_bytes_IndexByte (w0 : World) (p0 : (List UInt8)) (v0_1 : Value) (hv0_1 : Ro w0 p0 [v0_1]) (p1 : UInt8) (r : Int) (hF : F_bytes_IndexByte p0 p1 = some r) :
    Calls Try.prog 187 [v0_1, (vB p1)].toArray w0 (fun en w' => ∃ v, en = .returned v ∧ (v = (vI r) ∧ Kept (Old w0) w0 w')) := by
  refine c_enter (n := 8) Try.func187 rfl rfl (Nat.le_of_ble_eq_true rfl) rfl ?_
  intro a hE
  have hM := M.start w0
  unfold F_bytes_IndexByte at hF
  refine c_region ?_
  refine s_assign hE goes_none (by decide) rfl ?_; intro a hE
  refine c_fin ?_
  refine c_region ?_
  refine s_move hE goes_none (by decide) rfl ?_; intro a hE
  refine s_move hE goes_none (by decide) rfl ?_; intro a hE
  refine s_indexByte hE goes_none (by decide) rfl Try.func201 rfl (by decide) (by kernel_rfl) (by kernel_rfl) (hM.rd hv0_1) ?_; intro a hE
  refine s_assign hE goes_none (by decide) rfl ?_; intro a hE
  refine c_fin ?_
  have hr := Option.some.inj hF
  subst hr
  exact wp_ret (k_ret1 hE rfl (res_tmp hE rfl) ⟨_, rfl, rfl, hM.kept⟩)
noncomputable def L0_impl_areDifferent (p0 : (List UInt8)) (s5 : Int) : Option (Fl Int (Fl Unit Bool)) :=
  if (decide (s5 < (p0.length : Int))) = true then ((idx p0 s5).bind fun (x10 : UInt8) => (slc p0 (0 : Int) s5).bind fun (l13 : (List UInt8)) => (F_bytes_IndexByte l13 x10).bind fun (r16 : Int) => if (decide (r16 ≥ 0)) = true then (some (Fl.ex (Fl.ex false))) else (some (Fl.nx (wr (s5 + 1))))) else (some (Fl.ex (Fl.nx ())))
noncomputable def F_impl_areDifferent (p0 : (List UInt8)) : Option (Bool) :=
  (iter (L0_impl_areDifferent p0) 0 : Option (Fl Unit Bool)).bind fun (j1 : Fl Unit Bool) => j1.el (fun (s4 : Unit) => some true) (fun r => some r)
set_option maxRecDepth 20000 in
set_option maxHeartbeats 400000 in
theorem c_impl_areDifferent (w0 : World) (p0 : (List UInt8)) (v0_1 : Value) (hv0_1 : Ro w0 p0 [v0_1]) (r : Bool) (hF : F_impl_areDifferent p0 = some r) :
    Calls Try.prog 136 [v0_1].toArray w0 (fun en w' => ∃ v, en = .returned v ∧ (v = (vT r) ∧ Kept (Old w0) w0 w')) := by
  refine c_enter (n := 19) Try.func136 rfl rfl (Nat.le_of_ble_eq_true rfl) rfl ?_
  intro a hE
  have hM := M.start w0
  unfold F_impl_areDifferent at hF
  refine c_region ?_
  refine s_assign hE goes_none (by decide) rfl ?_; intro a hE
  refine c_fin ?_
  refine wp_seq ?_
  refine c_region ?_
  refine s_move hE goes_none (by decide) rfl ?_; intro a hE
  refine s_len hE goes_none (by decide) rfl Try.underlying24 (hM.rd hv0_1) ?_; intro a hE
  refine s_move hE goes_none (by decide) rfl ?_; intro a hE
  refine c_fin ?_
  obtain ⟨j1, hl2, hF3⟩ := bind_some hF
  refine c_cut (fun a w => ∃ s4 : Unit, j1 = Fl.nx s4 ∧ Env 19 a [] ∧ M (Old w0) w0 w []) ?_ ?_
  · skip
    refine wp_block ?_
    refine c_loop (fun (s5 : Int) a w => Env 19 a [(0, v0_1), (5, v0_1), (6, (vI (p0.length : Int))), (7, (vI s5))] ∧ M (Old w0) w0 w []) hl2 ⟨hE.sub ⟨rfl, rfl, rfl, rfl, trivial⟩, hM⟩ ?_
    rintro s5 a w ⟨hE, hM⟩ o8 hs6 hx7
    unfold L0_impl_areDifferent at hs6
    refine c_region ?_
    refine s_int hE goes_none (by decide) rfl rfl rfl ?_; intro a hE
    refine c_fin ?_
    refine wp_seq ?_
    refine c_cond hE rfl ?_ ?_
    · intro hb9
      have hs6 := ite_t hs6 hb9
      refine wp_skip ?_
      refine c_nx ?_
      refine wp_seq ?_
      refine wp_block ?_
      refine c_region ?_
      refine s_move hE goes_none (by decide) rfl ?_; intro a hE
      obtain ⟨x10, e11, hs6⟩ := bind_some hs6
      have hi12 := idx_some e11
      refine s_indexS hE goes_none (by decide) rfl rfl Try.underlying24 ty5 (hM.rd hv0_1) hi12.1 ?_; intro a hE
      refine s_load (v := (vB x10)) hE goes_none (by decide) rfl ty5 rfl (sl_atF (hM.rd hv0_1) hi12.2) ?_; intro a hE
      refine s_assign hE goes_none (by decide) rfl ?_; intro a hE
      refine s_assign hE goes_none (by decide) rfl ?_; intro a hE
      refine c_fin ?_
      refine c_region ?_
      refine s_move hE goes_none (by decide) rfl ?_; intro a hE
      refine s_move hE goes_none (by decide) rfl ?_; intro a hE
      obtain ⟨l13, e14, hs6⟩ := bind_some hs6
      refine s_slice hE goes_none (by decide) rfl rfl rfl rfl rfl Try.underlying24 ty5 (hM.rd hv0_1) e14 ?_; intro a hE
      have h15 : Rep.sat (Old w0) w0 l13 [(sliceV v0_1 ((0 : Int)).toNat (s5).toNat 1)] [] := ro_slice hv0_1 e14 -- ^
      refine s_move hE goes_none (by decide) rfl ?_; intro a hE
      obtain ⟨r16, e17, hs6⟩ := bind_some hs6
      refine s_call (vs := [(sliceV v0_1 ((0 : Int)).toNat (s5).toNat 1), (vB x10)]) hE goes_none (by decide) rfl cb187 (c_bytes_IndexByte _ l13 (sliceV v0_1 ((0 : Int)).toNat (s5).toNat 1) (hM.rdo h15) x10 r16 e17) ?_
      rintro v w a ⟨rfl, hK⟩ hE
      have hM := hM.keep hK
      refine s_int hE goes_none (by decide) rfl rfl rfl ?_; intro a hE
      refine c_fin ?_
      refine c_cond hE rfl ?_ ?_
      · intro hb18
        have hs6 := ite_t hs6 hb18
        refine c_region ?_
        refine s_assign hE goes_none (by decide) rfl ?_; intro a hE
        refine c_fin ?_
        have ht19 := hx7 _ (Option.some.inj hs6).symm
        subst ht19
        have hr := Option.some.inj hF3
        subst hr
        exact wp_ret (r_inb (r_then (r_then (r_inb (r_then (r_then (k_ret1 hE rfl (res_tmp hE rfl) ⟨_, rfl, rfl, hM.kept⟩)))))))
      · intro hb18
        have hs6 := ite_f hs6 hb18
        refine wp_skip ?_
        refine c_nb ?_
        refine c_nx ?_
        refine wp_region_lit ?_
        refine s_int hE goes_none (by decide) rfl rfl rfl ?_; intro a hE
        refine s_move hE goes_none (by decide) rfl ?_; intro a hE
        refine c_fin0 ?_
        refine c_mid ?_
        exact ⟨_, (Option.some.inj hs6).symm, hE.sub ⟨rfl, rfl, rfl, rfl, trivial⟩, hM⟩
    · intro hb9
      have hs6 := ite_f hs6 hb9
      refine wp_exit (e_then (e_then (e_eq ?_)))
      have ht20 := hx7 _ (Option.some.inj hs6).symm
      subst ht20
      refine c_mid ?_
      exact ⟨(), rfl, hE.sub trivial, hM⟩
  · skip
    rintro a w ⟨s4, ht, hE, hM⟩
    subst ht
    have hF3 := el_nx hF3
    refine c_nx ?_
    refine c_region ?_
    refine s_assign hE goes_none (by decide) rfl ?_; intro a hE
    refine c_fin ?_
    have hr := Option.some.inj hF3
    subst hr
    exact wp_ret (k_ret1 hE rfl (res_tmp hE rfl) ⟨_, rfl, rfl, hM.kept⟩)
noncomputable def L0_impl_ArePlaces (p0 : (Vector UInt8 16)) (s7 : Int) : Option (Fl Int (Fl Unit Bool)) :=
  if (decide (s7 < 16)) = true then ((vidx p0 s7).bind fun (x12 : UInt8) => if (decide (x12 > 15)) = true then (some (Fl.ex (Fl.ex false))) else (some (Fl.nx (wr (s7 + 1))))) else (some (Fl.ex (Fl.nx ())))
noncomputable def F_impl_ArePlaces (p0 : (Vector UInt8 16)) : Option (Bool) :=
  (iter (L0_impl_ArePlaces p0) 0 : Option (Fl Unit Bool)).bind fun (j3 : Fl Unit Bool) => j3.el (fun (s6 : Unit) => (slc p0.toList (0 : Int) (16 : Int)).bind fun (l18 : (List UInt8)) => (F_impl_areDifferent l18).bind fun (r21 : Bool) => some r21) (fun r => some r)
set_option maxRecDepth 20000 in
set_option maxHeartbeats 400000 in
theorem c_impl_ArePlaces (w0 : World) (p0 : (Vector UInt8 16)) (r : Bool) (hF : F_impl_ArePlaces p0 = some r) :
    Calls Try.prog 151 [(Value.agg (Flat.enc p0).toArray)].toArray w0 (fun en w' => ∃ v, en = .returned v ∧ (v = (vT r) ∧ Kept (Old w0) w0 w')) := by
  refine c_enter (n := 14) Try.func151 rfl rfl (Nat.le_of_ble_eq_true rfl) rfl ?_
  intro a hE
  have hM := M.start w0
  unfold F_impl_ArePlaces at hF
  refine c_region ?_
  refine s_box (cs := Flat.enc p0) hE hM goes_none (by decide) rfl rfl ?_; intro b1 w a hM hE
  refine s_assign hE goes_none (by decide) rfl ?_; intro a hE
  refine c_fin ?_
  refine wp_seq ?_
  refine c_region ?_
  refine s_loadA (cs := Flat.enc p0) hE goes_none (by decide) rfl ty56 rfl (hM.rawAt (pre := [])) (Flat.len _) ?_; intro a hE
  refine s_move hE goes_none (by decide) rfl ?_; intro a hE
  refine c_fin ?_
  obtain ⟨j3, hl4, hF5⟩ := bind_some hF
  refine c_cut (fun a w => ∃ s6 : Unit, j3 = Fl.nx s6 ∧ Env 14 a [(1, (ptr b1 0))] ∧ M (Old w0) w0 w [raw b1 (Flat.enc p0)]) ?_ ?_
  · skip
    refine wp_block ?_
    refine c_loop (fun (s7 : Int) a w => Env 14 a [(1, (ptr b1 0)), (5, (Value.agg (Flat.enc p0).toArray)), (6, (vI s7))] ∧ M (Old w0) w0 w [raw b1 (Flat.enc p0)]) hl4 ⟨hE.sub ⟨rfl, rfl, rfl, trivial⟩, hM⟩ ?_
    rintro s7 a w ⟨hE, hM⟩ o10 hs8 hx9
    unfold L0_impl_ArePlaces at hs8
    refine c_region ?_
    refine s_int hE goes_none (by decide) rfl rfl rfl ?_; intro a hE
    refine c_fin ?_
    refine wp_seq ?_
    refine c_cond hE rfl ?_ ?_
    · intro hb11
      have hs8 := ite_t hs8 hb11
      refine wp_skip ?_
      refine c_nx ?_
      refine wp_seq ?_
      refine wp_block ?_
      refine c_region ?_
      obtain ⟨x12, e13, hs8⟩ := bind_some hs8
      have hi14 := vidx_some e13
      refine s_indexV hE goes_none (by decide) rfl rfl Try.underlying56 ty5 rfl rfl hi14 rfl ?_; intro a hE
      refine s_assign hE goes_none (by decide) rfl ?_; intro a hE
      refine c_fin ?_
      refine c_region ?_
      refine s_move hE goes_none (by decide) rfl ?_; intro a hE
      refine s_int hE goes_none (by decide) rfl rfl (bB_gtr x12 15) ?_; intro a hE
      refine c_fin ?_
      refine c_cond hE rfl ?_ ?_
      · intro hb15
        have hs8 := ite_t hs8 hb15
        refine c_region ?_
        refine s_assign hE goes_none (by decide) rfl ?_; intro a hE
        refine c_fin ?_
        have ht16 := hx9 _ (Option.some.inj hs8).symm
        subst ht16
        have hr := Option.some.inj hF5
        subst hr
        have hM := M.fst (l := []) hM
        exact wp_ret (r_inb (r_then (r_then (r_inb (r_then (r_then (k_ret1 hE rfl (res_tmp hE rfl) ⟨_, rfl, rfl, hM.kept⟩)))))))
      · intro hb15
        have hs8 := ite_f hs8 hb15
        refine wp_skip ?_
        refine c_nb ?_
        refine c_nx ?_
        refine wp_region_lit ?_
        refine s_int hE goes_none (by decide) rfl rfl rfl ?_; intro a hE
        refine s_move hE goes_none (by decide) rfl ?_; intro a hE
        refine c_fin0 ?_
        refine c_mid ?_
        exact ⟨_, (Option.some.inj hs8).symm, hE.sub ⟨rfl, rfl, rfl, trivial⟩, hM⟩
    · intro hb11
      have hs8 := ite_f hs8 hb11
      refine wp_exit (e_then (e_then (e_eq ?_)))
      have ht17 := hx9 _ (Option.some.inj hs8).symm
      subst ht17
      refine c_mid ?_
      exact ⟨(), rfl, hE.sub ⟨rfl, trivial⟩, hM⟩
  · skip
    rintro a w ⟨s6, ht, hE, hM⟩
    subst ht
    have hF5 := el_nx hF5
    refine c_nx ?_
    refine c_region ?_
    obtain ⟨l18, e19, hF5⟩ := bind_some hF5
    have hb20 := slc_arr e19 -- ^
    refine s_sliceArr (N := 16) hE goes_none (by decide) rfl rfl rfl rfl rfl Try.underlying56 ty5 hb20 ?_; intro a hE
    obtain ⟨r21, e22, hF5⟩ := bind_some hF5
    refine s_call (vs := [(sliceV (.slice (some ⟨b1, 0, none⟩) 16 16) ((0 : Int)).toNat ((16 : Int)).toNat 1)]) hE goes_none (by decide) rfl cb136 (c_impl_areDifferent _ l18 (sliceV (.slice (some ⟨b1, 0, none⟩) 16 16) ((0 : Int)).toNat ((16 : Int)).toNat 1) (ro_slice (At.sat (hM.rawAt (pre := [])) (by simp) (by decide)) e19) r21 e22) ?_
    rintro v w a ⟨rfl, hK⟩ hE
    have hM := hM.keep hK
    refine s_assign hE goes_none (by decide) rfl ?_; intro a hE
    refine c_fin ?_
    have hr := Option.some.inj hF5
    subst hr
    have hM := M.fst (l := []) hM
    exact wp_ret (k_ret1 hE rfl (res_tmp hE rfl) ⟨_, rfl, rfl, hM.kept⟩)
noncomputable def F_impl_IsCipher (p0 : GCipher) : Option (Bool) :=
  ((F_impl_IsField p0.Field).bind fun (r6 : Bool) => if r6 = true then ((F_impl_IsPermutation p0.Box).bind fun (r9 : Bool) => if r9 = true then ((F_impl_isInvertible p0.Field p0.Mix).bind fun (r12 : Bool) => if r12 = true then ((F_impl_ArePlaces p0.Places).bind fun (r15 : Bool) => if r15 = true then ((F_impl_inRange p0.Rounds 1 20).bind fun (r18 : Bool) => some r18) else (some false)) else (some false)) else (some false)) else (some false) : Option (Bool)).bind fun (j3 : Bool) => some j3
set_option maxRecDepth 20000 in
set_option maxHeartbeats 400000 in
theorem c_impl_IsCipher (w0 : World) (p0 : GCipher) (r : Bool) (hF : F_impl_IsCipher p0 = some r) :
    Calls Try.prog 92 [(Value.agg (Flat.enc p0).toArray)].toArray w0 (fun en w' => ∃ v, en = .returned v ∧ (v = (vT r) ∧ Kept (Old w0) w0 w')) := by
  refine c_enter (n := 28) Try.func92 rfl rfl (Nat.le_of_ble_eq_true rfl) rfl ?_
  intro a hE
  have hM := M.start w0
  unfold F_impl_IsCipher at hF
  refine c_region ?_
  refine s_box (cs := cat [[(vI p0.Field)], Flat.enc p0.Box, Flat.enc p0.Mix, Flat.enc p0.Places, [(vI p0.Rounds)]]) hE hM goes_none (by decide) rfl rfl ?_; intro b1 w a hM hE
  refine s_assign hE goes_none (by decide) rfl ?_; intro a hE
  refine c_fin ?_
  obtain ⟨j3, hl4, hF5⟩ := bind_some hF
  refine c_join (fun a w => Env 28 a [(2, (vT j3))] ∧ M (Old w0) w0 w []) ?_ ?_
  · skip
    refine wp_region_lit ?_
    refine s_fieldAddr hE goes_none (by decide) rfl (fd58_0) ?_; intro a hE
    refine s_load (v := (vI p0.Field)) hE goes_none (by decide) rfl ty2 rfl (At.cat (pre := []) (seg := [(vI p0.Field)]) (post := [Flat.enc p0.Box, Flat.enc p0.Mix, Flat.enc p0.Places, [(vI p0.Rounds)]]) (hM.rawAt (pre := [])) cl0) ?_; intro a hE
    obtain ⟨r6, e7, hl4⟩ := bind_some hl4
    refine s_call (vs := [(vI p0.Field)]) hE goes_none (by decide) rfl cb132 (c_impl_IsField _ p0.Field r6 e7) ?_
    rintro v w a ⟨rfl, hK⟩ hE
    have hM := hM.keep hK
    refine s_move hE goes_none (by decide) rfl ?_; intro a hE
    refine splitB r6 (fun hb8 => ?_) (fun hb8 => ?_)
    · have hl4 := ite_t hl4 hb8
      refine s_fieldAddr hE (goes_yes hE rfl (lkb rfl hb8)) (by decide) rfl (fd58_1) ?_; intro a hE
      refine s_loadA (cs := Flat.enc p0.Box) hE (goes_yes hE rfl (lkb rfl hb8)) (by decide) rfl ty54 rfl (At.cat (pre := [[(vI p0.Field)]]) (seg := Flat.enc p0.Box) (post := [Flat.enc p0.Mix, Flat.enc p0.Places, [(vI p0.Rounds)]]) (hM.rawAt (pre := [])) (cl1 (n := 1) (m := 0) rfl cl0)) (Flat.len _) ?_; intro a hE
      obtain ⟨r9, e10, hl4⟩ := bind_some hl4
      refine s_call (vs := [(Value.agg (Flat.enc p0.Box).toArray)]) hE (goes_yes hE rfl (lkb rfl hb8)) (by decide) rfl cb149 (c_impl_IsPermutation _ p0.Box r9 e10) ?_
      rintro v w a ⟨rfl, hK⟩ hE
      have hM := hM.keep hK
      refine s_pickT hE goes_none (by decide) (lkb rfl hb8) rfl ?_; intro a hE
      refine s_move hE goes_none (by decide) rfl ?_; intro a hE
      refine splitB r9 (fun hb11 => ?_) (fun hb11 => ?_)
      · have hl4 := ite_t hl4 hb11
        refine s_fieldAddr hE (goes_yes hE rfl (lkb rfl hb11)) (by decide) rfl (fd58_0) ?_; intro a hE
        refine s_load (v := (vI p0.Field)) hE (goes_yes hE rfl (lkb rfl hb11)) (by decide) rfl ty2 rfl (At.cat (pre := []) (seg := [(vI p0.Field)]) (post := [Flat.enc p0.Box, Flat.enc p0.Mix, Flat.enc p0.Places, [(vI p0.Rounds)]]) (hM.rawAt (pre := [])) cl0) ?_; intro a hE
        refine s_fieldAddr hE (goes_yes hE rfl (lkb rfl hb11)) (by decide) rfl (fd58_2) ?_; intro a hE
        refine s_loadA (cs := Flat.enc p0.Mix) hE (goes_yes hE rfl (lkb rfl hb11)) (by decide) rfl ty55 rfl (At.cat (pre := [[(vI p0.Field)], Flat.enc p0.Box]) (seg := Flat.enc p0.Mix) (post := [Flat.enc p0.Places, [(vI p0.Rounds)]]) (hM.rawAt (pre := [])) (cl1 (n := 1) (m := 256) rfl (cl1 (n := 256) (m := 0) (Flat.len _) cl0))) (Flat.len _) ?_; intro a hE
        obtain ⟨r12, e13, hl4⟩ := bind_some hl4
        refine s_call (vs := [(vI p0.Field), (Value.agg (Flat.enc p0.Mix).toArray)]) hE (goes_yes hE rfl (lkb rfl hb11)) (by decide) rfl cb150 (c_impl_isInvertible _ p0.Field p0.Mix r12 e13) ?_
        rintro v w a ⟨rfl, hK⟩ hE
        have hM := hM.keep hK
        refine s_pickT hE goes_none (by decide) (lkb rfl hb11) rfl ?_; intro a hE
        refine s_move hE goes_none (by decide) rfl ?_; intro a hE
        refine splitB r12 (fun hb14 => ?_) (fun hb14 => ?_)
        · have hl4 := ite_t hl4 hb14
          refine s_fieldAddr hE (goes_yes hE rfl (lkb rfl hb14)) (by decide) rfl (fd58_3) ?_; intro a hE
          refine s_loadA (cs := Flat.enc p0.Places) hE (goes_yes hE rfl (lkb rfl hb14)) (by decide) rfl ty56 rfl (At.cat (pre := [[(vI p0.Field)], Flat.enc p0.Box, Flat.enc p0.Mix]) (seg := Flat.enc p0.Places) (post := [[(vI p0.Rounds)]]) (hM.rawAt (pre := [])) (cl1 (n := 1) (m := 272) rfl (cl1 (n := 256) (m := 16) (Flat.len _) (cl1 (n := 16) (m := 0) (Flat.len _) cl0)))) (Flat.len _) ?_; intro a hE
          obtain ⟨r15, e16, hl4⟩ := bind_some hl4
          refine s_call (vs := [(Value.agg (Flat.enc p0.Places).toArray)]) hE (goes_yes hE rfl (lkb rfl hb14)) (by decide) rfl cb151 (c_impl_ArePlaces _ p0.Places r15 e16) ?_
          rintro v w a ⟨rfl, hK⟩ hE
          have hM := hM.keep hK
          refine s_pickT hE goes_none (by decide) (lkb rfl hb14) rfl ?_; intro a hE
          refine s_move hE goes_none (by decide) rfl ?_; intro a hE
          refine splitB r15 (fun hb17 => ?_) (fun hb17 => ?_)
          · have hl4 := ite_t hl4 hb17
            refine s_fieldAddr hE (goes_yes hE rfl (lkb rfl hb17)) (by decide) rfl (fd58_4) ?_; intro a hE
            refine s_load (v := (vI p0.Rounds)) hE (goes_yes hE rfl (lkb rfl hb17)) (by decide) rfl ty2 rfl (At.cat (pre := [[(vI p0.Field)], Flat.enc p0.Box, Flat.enc p0.Mix, Flat.enc p0.Places]) (seg := [(vI p0.Rounds)]) (post := []) (hM.rawAt (pre := [])) (cl1 (n := 1) (m := 288) rfl (cl1 (n := 256) (m := 32) (Flat.len _) (cl1 (n := 16) (m := 16) (Flat.len _) (cl1 (n := 16) (m := 0) (Flat.len _) cl0))))) ?_; intro a hE
            obtain ⟨r18, e19, hl4⟩ := bind_some hl4
            refine s_call (vs := [(vI p0.Rounds), (vI 1), (vI 20)]) hE (goes_yes hE rfl (lkb rfl hb17)) (by decide) rfl cb93 (c_impl_inRange _ p0.Rounds 1 20 r18 e19) ?_
            rintro v w a ⟨rfl, hK⟩ hE
            have hM := hM.keep hK
            refine s_pickT hE goes_none (by decide) (lkb rfl hb17) rfl ?_; intro a hE
            refine s_assign hE goes_none (by decide) rfl ?_; intro a hE
            refine c_fin0 ?_
            have ht20 := Option.some.inj hl4
            subst ht20
            refine c_mid ?_
            have hM := M.fst (l := []) hM
            exact ⟨hE.sub ⟨rfl, trivial⟩, hM⟩
          · have hl4 := ite_f hl4 hb17
            refine s_skip hE rfl (lkb rfl hb17) rfl (by decide) ?_; intro a hE
            refine s_skip hE rfl (lkb rfl hb17) rfl (by decide) ?_; intro a hE
            refine s_skip hE rfl (lkb rfl hb17) rfl (by decide) ?_; intro a hE
            refine s_pickF hE goes_none (by decide) (lkb rfl hb17) rfl ?_; intro a hE
            refine s_assign hE goes_none (by decide) rfl ?_; intro a hE
            refine c_fin0 ?_
            have ht21 := Option.some.inj hl4
            subst ht21
            refine c_mid ?_
            have hM := M.fst (l := []) hM
            exact ⟨hE.sub ⟨rfl, trivial⟩, hM⟩
        · have hl4 := ite_f hl4 hb14
          refine s_skip hE rfl (lkb rfl hb14) rfl (by decide) ?_; intro a hE
          refine s_skip hE rfl (lkb rfl hb14) rfl (by decide) ?_; intro a hE
          refine s_skip hE rfl (lkb rfl hb14) rfl (by decide) ?_; intro a hE
          refine s_pickF hE goes_none (by decide) (lkb rfl hb14) rfl ?_; intro a hE
          refine s_move hE goes_none (by decide) rfl ?_; intro a hE
          refine s_skip hE rfl rfl rfl (by decide) ?_; intro a hE
          refine s_skip hE rfl rfl rfl (by decide) ?_; intro a hE
          refine s_skip hE rfl rfl rfl (by decide) ?_; intro a hE
          refine s_pickF hE goes_none (by decide) rfl rfl ?_; intro a hE
          refine s_assign hE goes_none (by decide) rfl ?_; intro a hE
          refine c_fin0 ?_
          have ht22 := Option.some.inj hl4
          subst ht22
          refine c_mid ?_
          have hM := M.fst (l := []) hM
          exact ⟨hE.sub ⟨rfl, trivial⟩, hM⟩
      · have hl4 := ite_f hl4 hb11
        refine s_skip hE rfl (lkb rfl hb11) rfl (by decide) ?_; intro a hE
        refine s_skip hE rfl (lkb rfl hb11) rfl (by decide) ?_; intro a hE
        refine s_skip hE rfl (lkb rfl hb11) rfl (by decide) ?_; intro a hE
        refine s_skip hE rfl (lkb rfl hb11) rfl (by decide) ?_; intro a hE
        refine s_skip hE rfl (lkb rfl hb11) rfl (by decide) ?_; intro a hE
        refine s_pickF hE goes_none (by decide) (lkb rfl hb11) rfl ?_; intro a hE
        refine s_move hE goes_none (by decide) rfl ?_; intro a hE
        refine s_skip hE rfl rfl rfl (by decide) ?_; intro a hE
        refine s_skip hE rfl rfl rfl (by decide) ?_; intro a hE
        refine s_skip hE rfl rfl rfl (by decide) ?_; intro a hE
        refine s_pickF hE goes_none (by decide) rfl rfl ?_; intro a hE
        refine s_move hE goes_none (by decide) rfl ?_; intro a hE
        refine s_skip hE rfl rfl rfl (by decide) ?_; intro a hE
        refine s_skip hE rfl rfl rfl (by decide) ?_; intro a hE
        refine s_skip hE rfl rfl rfl (by decide) ?_; intro a hE
        refine s_pickF hE goes_none (by decide) rfl rfl ?_; intro a hE
        refine s_assign hE goes_none (by decide) rfl ?_; intro a hE
        refine c_fin0 ?_
        have ht23 := Option.some.inj hl4
        subst ht23
        refine c_mid ?_
        have hM := M.fst (l := []) hM
        exact ⟨hE.sub ⟨rfl, trivial⟩, hM⟩
    · have hl4 := ite_f hl4 hb8
      refine s_skip hE rfl (lkb rfl hb8) rfl (by decide) ?_; intro a hE
      refine s_skip hE rfl (lkb rfl hb8) rfl (by decide) ?_; intro a hE
      refine s_skip hE rfl (lkb rfl hb8) rfl (by decide) ?_; intro a hE
      refine s_pickF hE goes_none (by decide) (lkb rfl hb8) rfl ?_; intro a hE
      refine s_move hE goes_none (by decide) rfl ?_; intro a hE
      refine s_skip hE rfl rfl rfl (by decide) ?_; intro a hE
      refine s_skip hE rfl rfl rfl (by decide) ?_; intro a hE
      refine s_skip hE rfl rfl rfl (by decide) ?_; intro a hE
      refine s_skip hE rfl rfl rfl (by decide) ?_; intro a hE
      refine s_skip hE rfl rfl rfl (by decide) ?_; intro a hE
      refine s_pickF hE goes_none (by decide) rfl rfl ?_; intro a hE
      refine s_move hE goes_none (by decide) rfl ?_; intro a hE
      refine s_skip hE rfl rfl rfl (by decide) ?_; intro a hE
      refine s_skip hE rfl rfl rfl (by decide) ?_; intro a hE
      refine s_skip hE rfl rfl rfl (by decide) ?_; intro a hE
      refine s_pickF hE goes_none (by decide) rfl rfl ?_; intro a hE
      refine s_move hE goes_none (by decide) rfl ?_; intro a hE
      refine s_skip hE rfl rfl rfl (by decide) ?_; intro a hE
      refine s_skip hE rfl rfl rfl (by decide) ?_; intro a hE
      refine s_skip hE rfl rfl rfl (by decide) ?_; intro a hE
      refine s_pickF hE goes_none (by decide) rfl rfl ?_; intro a hE
      refine s_assign hE goes_none (by decide) rfl ?_; intro a hE
      refine c_fin0 ?_
      have ht24 := Option.some.inj hl4
      subst ht24
      refine c_mid ?_
      have hM := M.fst (l := []) hM
      exact ⟨hE.sub ⟨rfl, trivial⟩, hM⟩
  · skip
    rintro a w ⟨hE, hM⟩
    have hr := Option.some.inj hF5
    subst hr
    exact wp_ret (k_ret1 hE rfl (res_tmp hE rfl) ⟨_, rfl, rfl, hM.kept⟩)
noncomputable def F_impl_checkShort (p0 : GCipher) (p1 : Int) : Option (Int) :=
  (F_impl_IsCipher p0).bind fun (r3 : Bool) => if (!r3) = true then (some 1) else ((F_impl_inRange p1 0 p0.Rounds).bind fun (r6 : Bool) => if (!r6) = true then (some 2) else (some 0))
end Go.Proofs.Ythlmkdjednppkaa
