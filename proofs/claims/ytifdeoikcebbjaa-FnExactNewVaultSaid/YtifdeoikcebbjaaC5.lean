/- The walk of what the law reaches: contracts of functions. -/
import Derived.Test.YtifdeoikcebbjaaC4
set_option linter.unusedVariables false
set_option linter.unusedSimpArgs false
namespace Go.Proofs.Ytifdeoikcebbjaa
open Go
set_option maxRecDepth 20000 in
set_option maxHeartbeats 400000 in
theorem c_laws_markRecordS (St : Nat → Prop) (W w0 : World) (its : List Item) (p0 : (List GRecord)) (v0_1 : Value) (p1 : Int) (hM : M St W w0 (own NoB (p0 : (List GRecord)) [v0_1] :: its)) (r : (List GRecord) × Int) (hF : F_laws_markRecordS p0 p1 = some r) :
    Calls Try.prog 40 [v0_1, (vI p1)].toArray w0 (fun en w' => ∃ v, en = .returned v ∧ (v = (vI r.2) ∧ M St W w' (own NoB (r.1 : (List GRecord)) [v0_1] :: its))) := by
  refine c_enter (n := 71) Try.func40 rfl rfl (Nat.le_of_ble_eq_true rfl) rfl ?_
  intro a hE
  unfold F_laws_markRecordS at hF
  refine c_region ?_
  refine s_assign hE goes_none (by decide) rfl ?_; intro a hE
  refine c_fin ?_
  refine wp_seq ?_
  refine c_region ?_
  refine s_assign hE goes_none (by decide) rfl ?_; intro a hE
  refine c_fin ?_
  obtain ⟨j1, hl2, hF3⟩ := bind_some hF
  refine c_cut (fun a w => Env 71 a [(0, v0_1), (1, (vI j1.2))] ∧ M St W w (own NoB (j1.1 : (List GRecord)) [v0_1] :: its)) ?_ ?_
  · skip
    refine wp_block ?_
    refine c_loop (fun (s4 : (List GRecord) × Int × Int) a w => Env 71 a [(0, v0_1), (1, (vI s4.2.1)), (5, (vI s4.2.2))] ∧ M St W w (own NoB (s4.1 : (List GRecord)) [v0_1] :: its)) hl2 ⟨hE.sub ⟨rfl, rfl, rfl, trivial⟩, hM⟩ ?_
    rintro s4 a w ⟨hE, hM⟩ o7 hs5 hx6
    unfold L0_laws_markRecordS at hs5
    refine wp_seq ?_
    refine c_region ?_
    refine s_move hE goes_none (by decide) rfl ?_; intro a hE
    refine s_move hE goes_none (by decide) rfl ?_; intro a hE
    refine s_len hE goes_none (by decide) rfl Try.underlying35 (hM.ro (pre := []) noB) ?_; intro a hE
    refine s_int hE goes_none (by decide) rfl rfl rfl ?_; intro a hE
    refine c_fin ?_
    refine c_cond hE rfl ?_ ?_
    · intro hb8
      have hs5 := ite_t hs5 hb8
      refine wp_skip ?_
      refine c_nx ?_
      refine wp_seq ?_
      refine wp_block ?_
      refine c_region ?_
      refine s_move hE goes_none (by decide) rfl ?_; intro a hE
      refine s_move hE goes_none (by decide) rfl ?_; intro a hE
      refine s_move hE goes_none (by decide) rfl ?_; intro a hE
      obtain ⟨x9, e10, hs5⟩ := bind_some hs5
      have hi11 := idx_some e10
      refine s_indexS hE goes_none (by decide) rfl rfl Try.underlying35 ty114 (hM.ro (pre := []) noB) hi11.1 ?_; intro a hE
      refine s_fieldAddr hE goes_none (by decide) rfl (fd114_0) ?_; intro a hE
      have hM := hM.toOsl (List.getElem?_eq_some_iff.1 hi11.2).1
      refine s_storeRF (i := (s4.2.2).toNat) (k0 := 0 + 0) (seg := [(vI s4.2.1)]) (xo := x9) (xn := (⟨s4.2.1, x9.Version, x9.Nonce, x9.Label, x9.Body, x9.Tag⟩ : GRecord)) hE hM noB goes_none rfl rfl rfl ty2 rfl (Flat.cell (s4.2.1 : Int)) hi11.2 (fit_num (m := 1) rfl (by decide)) (fun S w cs f h => by obtain ⟨y1, y2, _, _, rfl, rfl, s1, s2⟩ := unf_GRecord h; exact sat_cast (splice_cat (pre := []) (seg := [(vI x9.Number)]) (post := [[(vI x9.Version)], Flat.enc x9.Nonce, [y1], [y2], Flat.enc x9.Tag]) cl0 (Eq.trans rfl (Eq.symm rfl))) (pk_GRecord s1 s2 (by simp))) ?_; intro w a hM hE
      have hM := hM.toOwn noB
      refine c_fin ?_
      refine c_region ?_
      refine s_move hE goes_none (by decide) rfl ?_; intro a hE
      refine s_int hE goes_none (by decide) rfl rfl rfl ?_; intro a hE
      refine s_assign hE goes_none (by decide) rfl ?_; intro a hE
      refine c_fin ?_
      refine c_region ?_
      refine s_move hE goes_none (by decide) rfl ?_; intro a hE
      refine s_move hE goes_none (by decide) rfl ?_; intro a hE
      refine s_move hE goes_none (by decide) rfl ?_; intro a hE
      obtain ⟨x12, e13, hs5⟩ := bind_some hs5
      have hi14 := idx_some e13
      refine s_indexS hE goes_none (by decide) rfl rfl Try.underlying35 ty114 (hM.ro (pre := []) noB) hi14.1 ?_; intro a hE
      refine s_fieldAddr hE goes_none (by decide) rfl (fd114_1) ?_; intro a hE
      have hM := hM.toOsl (List.getElem?_eq_some_iff.1 hi14.2).1
      refine s_storeRF (i := (s4.2.2).toNat) (k0 := 0 + 1) (seg := [(vI (wr (s4.2.1 + 1)))]) (xo := x12) (xn := (⟨x12.Number, wr (s4.2.1 + 1), x12.Nonce, x12.Label, x12.Body, x12.Tag⟩ : GRecord)) hE hM noB goes_none rfl rfl rfl ty2 rfl (Flat.cell (wr (s4.2.1 + 1) : Int)) hi14.2 (fit_num (m := 1) rfl (by decide)) (fun S w cs f h => by obtain ⟨y1, y2, _, _, rfl, rfl, s1, s2⟩ := unf_GRecord h; exact sat_cast (splice_cat (pre := [[(vI x12.Number)]]) (seg := [(vI x12.Version)]) (post := [Flat.enc x12.Nonce, [y1], [y2], Flat.enc x12.Tag]) (cl1 (n := 1) (m := 0) rfl cl0) (Eq.trans rfl (Eq.symm rfl))) (pk_GRecord s1 s2 (by simp))) ?_; intro w a hM hE
      have hM := hM.toOwn noB
      refine c_fin ?_
      refine c_region ?_
      refine s_move hE goes_none (by decide) rfl ?_; intro a hE
      refine s_int hE goes_none (by decide) rfl rfl rfl ?_; intro a hE
      refine s_assign hE goes_none (by decide) rfl ?_; intro a hE
      refine c_fin ?_
      refine wp_seq ?_
      refine c_region ?_
      refine s_assign hE goes_none (by decide) rfl ?_; intro a hE
      refine c_fin ?_
      obtain ⟨j15, hl16, hF17⟩ := bind_some hs5
      refine c_cut (fun a w => Env 71 a [(0, v0_1), (1, (vI j15.2)), (5, (vI s4.2.2))] ∧ M St W w (own NoB (j15.1 : (List GRecord)) [v0_1] :: its)) ?_ ?_
      · skip
        refine wp_block ?_
        refine c_loop (fun (s18 : (List GRecord) × Int × Int) a w => Env 71 a [(0, v0_1), (1, (vI s18.2.1)), (5, (vI s4.2.2)), (6, (vI s18.2.2))] ∧ M St W w (own NoB (s18.1 : (List GRecord)) [v0_1] :: its)) hl16 ⟨hE.sub ⟨rfl, rfl, rfl, rfl, trivial⟩, hM⟩ ?_
        rintro s18 a w ⟨hE, hM⟩ o21 hs19 hx20
        unfold L1_laws_markRecordS at hs19
        refine wp_seq ?_
        refine c_region ?_
        refine s_move hE goes_none (by decide) rfl ?_; intro a hE
        refine s_int hE goes_none (by decide) rfl rfl rfl ?_; intro a hE
        refine c_fin ?_
        refine c_cond hE rfl ?_ ?_
        · intro hb22
          have hs19 := ite_t hs19 hb22
          refine wp_skip ?_
          refine c_nx ?_
          refine wp_seq ?_
          refine wp_block ?_
          refine c_region ?_
          refine s_move hE goes_none (by decide) rfl ?_; intro a hE
          refine s_move hE goes_none (by decide) rfl ?_; intro a hE
          refine s_move hE goes_none (by decide) rfl ?_; intro a hE
          refine s_move hE goes_none (by decide) rfl ?_; intro a hE
          refine s_conv hE goes_none (by decide) rfl Try.underlying3 Try.underlying5 ?_; intro a hE
          rw [byteI_val] at hE
          obtain ⟨x23, e24, hs19⟩ := bind_some hs19
          have hi25 := idx_some e24
          refine s_indexS hE goes_none (by decide) rfl rfl Try.underlying35 ty114 (hM.ro (pre := []) noB) hi25.1 ?_; intro a hE
          refine s_fieldAddr hE goes_none (by decide) rfl (fd114_2) ?_; intro a hE
          obtain ⟨x27, e28, hs19⟩ := bind_some hs19
          have hi26 := vidx_some e28
          refine s_indexA hE goes_none (by decide) rfl rfl Try.underlying39 ty5 hi26.1 ?_; intro a hE
          have hM := hM.toOsl (List.getElem?_eq_some_iff.1 hi25.2).1
          refine s_storeRF (i := (s4.2.2).toNat) (k0 := 0 + 2 + (s18.2.2).toNat * 1) (seg := [(vB (byteI s18.2.1))]) (xo := x23) (xn := (⟨x23.Number, x23.Version, (x23.Nonce.setIfInBounds (s18.2.2).toNat (byteI s18.2.1)), x23.Label, x23.Body, x23.Tag⟩ : GRecord)) hE hM noB goes_none (opv_off rfl (by show _ = _ + _ * 52 + _; omega)) rfl rfl ty5 rfl (Flat.cell (byteI s18.2.1 : UInt8)) hi25.2 (fit_part (m := 1) hi26.1 rfl (by decide)) (fun S w cs f h => by obtain ⟨y1, y2, _, _, rfl, rfl, s1, s2⟩ := unf_GRecord h; exact sat_cast (splice_catI (o' := 0 + (s18.2.2).toNat * 1) (pre := [[(vI x23.Number)], [(vI x23.Version)]]) (seg := Flat.enc x23.Nonce) (post := [[y1], [y2], Flat.enc x23.Tag]) (cl1 (n := 1) (m := 1) rfl (cl1 (n := 1) (m := 0) rfl cl0)) (fit_vec (v := x23.Nonce) (x := byteI s18.2.1) hi26.1) (splice_vec0 (v := x23.Nonce) (x := byteI s18.2.1) hi26.1) (by first | omega | (simp only [Flat.n] <;> omega))) (pk_GRecord s1 s2 (by simp))) ?_; intro w a hM hE
          have hM := hM.toOwn noB
          refine c_fin ?_
          refine wp_region_lit ?_
          refine s_move hE goes_none (by decide) rfl ?_; intro a hE
          refine s_int hE goes_none (by decide) rfl rfl rfl ?_; intro a hE
          refine s_assign hE goes_none (by decide) rfl ?_; intro a hE
          refine c_fin0 ?_
          refine c_nb ?_
          refine c_nx ?_
          refine wp_region_lit ?_
          refine s_move hE goes_none (by decide) rfl ?_; intro a hE
          refine s_int hE goes_none (by decide) rfl rfl rfl ?_; intro a hE
          refine s_assign hE goes_none (by decide) rfl ?_; intro a hE
          refine c_fin0 ?_
          refine c_mid ?_
          exact ⟨_, (Option.some.inj hs19).symm, hE.sub ⟨rfl, rfl, rfl, rfl, trivial⟩, hM⟩
        · intro hb22
          have hs19 := ite_f hs19 hb22
          refine wp_exit (e_then (e_then (e_eq ?_)))
          have ht29 := hx20 _ (Option.some.inj hs19).symm
          subst ht29
          refine c_mid ?_
          exact ⟨hE.sub ⟨rfl, rfl, rfl, trivial⟩, hM⟩
      · skip
        rintro a w ⟨hE, hM⟩
        refine c_nx ?_
        refine c_region ?_
        refine s_move hE goes_none (by decide) rfl ?_; intro a hE
        refine s_move hE goes_none (by decide) rfl ?_; intro a hE
        obtain ⟨x30, e31, hF17⟩ := bind_some hF17
        have hi32 := idx_some e31
        refine s_indexS hE goes_none (by decide) rfl rfl Try.underlying35 ty114 (hM.ro (pre := []) noB) hi32.1 ?_; intro a hE
        refine s_fieldAddr hE goes_none (by decide) rfl (fd114_3) ?_; intro a hE
        have hM := (hM.toOsl (List.getElem?_eq_some_iff.1 hi32.2).1).open1 noB hi32.2
        obtain ⟨cs33, hM, hA34⟩ := hM
        obtain ⟨_, hx, _⟩ := hM.head
        obtain ⟨u35, u36, _, _, rfl, _, _, _⟩ := unf_GRecord hx
        have hM := hM.unpackL (m := [own NoB (x30.Label : (List UInt8)) [u35], own NoB (x30.Body : (List UInt8)) [u36]]) (fun fp h => by obtain ⟨_, _, rfl, s1, s2⟩ := unc_GRecord h; exact (SepR.cons (own_loc noB) s1 (SepR.one (own_loc noB) s2)))
        simp only [List.cons_append, List.nil_append] at hM
        refine s_load (v := u35) hE goes_none (by decide) rfl ty50 rfl (At.cat (pre := [[(vI x30.Number)], [(vI x30.Version)], Flat.enc x30.Nonce]) (seg := [u35]) (post := [[u36], Flat.enc x30.Tag]) hA34 (cl1 (n := 1) (m := 17) rfl (cl1 (n := 1) (m := 16) rfl (cl1 (n := 16) (m := 0) (Flat.len _) cl0)))) ?_; intro a hE
        refine s_move hE goes_none (by decide) rfl ?_; intro a hE
        obtain ⟨r39, e40, hF17⟩ := bind_some hF17
        refine s_call (vs := [u35, (vI j15.2)]) hE goes_none (by decide) rfl cb26 (c_laws_markByteS _ _ _ _ x30.Label u35 j15.2 hM r39 e40) ?_
        rintro v w a ⟨rfl, hM⟩ hE
        have hM := hM.pull (pre := [_, _])
        have hM := hM.pull (pre := [_, _])
        have hM := hM.pull (pre := [_, _])
        have hM := hM.packL (m := [own NoB (r39.1 : (List UInt8)) [u35], own NoB (x30.Body : (List UInt8)) [u36]]) (it := own NoB (⟨x30.Number, x30.Version, x30.Nonce, r39.1, x30.Body, x30.Tag⟩ : GRecord) (cat [[(vI x30.Number)], [(vI x30.Version)], Flat.enc x30.Nonce, [u35], [u36], Flat.enc x30.Tag])) (own_loc noB) (fun fp h => by obtain ⟨_, _, rfl, _, s1, _, _, rfl, _, s2, rfl⟩ := h; exact pk_GRecord s1 s2 (by simp))
        have hM := (hM.close1 noB).toOwn noB
        refine s_assign hE goes_none (by decide) rfl ?_; intro a hE
        refine c_fin ?_
        refine c_region ?_
        refine s_move hE goes_none (by decide) rfl ?_; intro a hE
        refine s_move hE goes_none (by decide) rfl ?_; intro a hE
        obtain ⟨x41, e42, hF17⟩ := bind_some hF17
        have hi43 := idx_some e42
        refine s_indexS hE goes_none (by decide) rfl rfl Try.underlying35 ty114 (hM.ro (pre := []) noB) hi43.1 ?_; intro a hE
        refine s_fieldAddr hE goes_none (by decide) rfl (fd114_4) ?_; intro a hE
        have hM := (hM.toOsl (List.getElem?_eq_some_iff.1 hi43.2).1).open1 noB hi43.2
        obtain ⟨cs44, hM, hA45⟩ := hM
        obtain ⟨_, hx, _⟩ := hM.head
        obtain ⟨u46, u47, _, _, rfl, _, _, _⟩ := unf_GRecord hx
        have hM := hM.unpackL (m := [own NoB (x41.Label : (List UInt8)) [u46], own NoB (x41.Body : (List UInt8)) [u47]]) (fun fp h => by obtain ⟨_, _, rfl, s1, s2⟩ := unc_GRecord h; exact (SepR.cons (own_loc noB) s1 (SepR.one (own_loc noB) s2)))
        simp only [List.cons_append, List.nil_append] at hM
        refine s_load (v := u47) hE goes_none (by decide) rfl ty50 rfl (At.cat (pre := [[(vI x41.Number)], [(vI x41.Version)], Flat.enc x41.Nonce, [u46]]) (seg := [u47]) (post := [Flat.enc x41.Tag]) hA45 (cl1 (n := 1) (m := 18) rfl (cl1 (n := 1) (m := 17) rfl (cl1 (n := 16) (m := 1) (Flat.len _) (cl1 (n := 1) (m := 0) rfl cl0))))) ?_; intro a hE
        refine s_move hE goes_none (by decide) rfl ?_; intro a hE
        have hM := hM.pull (pre := [_])
        obtain ⟨r50, e51, hF17⟩ := bind_some hF17
        refine s_call (vs := [u47, (vI r39.2)]) hE goes_none (by decide) rfl cb26 (c_laws_markByteS _ _ _ _ x41.Body u47 r39.2 hM r50 e51) ?_
        rintro v w a ⟨rfl, hM⟩ hE
        have hM := hM.pull (pre := [_, _])
        have hM := hM.pull (pre := [_])
        have hM := hM.pull (pre := [_, _])
        have hM := hM.packL (m := [own NoB (x41.Label : (List UInt8)) [u46], own NoB (r50.1 : (List UInt8)) [u47]]) (it := own NoB (⟨x41.Number, x41.Version, x41.Nonce, x41.Label, r50.1, x41.Tag⟩ : GRecord) (cat [[(vI x41.Number)], [(vI x41.Version)], Flat.enc x41.Nonce, [u46], [u47], Flat.enc x41.Tag])) (own_loc noB) (fun fp h => by obtain ⟨_, _, rfl, _, s1, _, _, rfl, _, s2, rfl⟩ := h; exact pk_GRecord s1 s2 (by simp))
        have hM := (hM.close1 noB).toOwn noB
        refine s_assign hE goes_none (by decide) rfl ?_; intro a hE
        refine c_fin ?_
        refine c_region ?_
        refine s_assign hE goes_none (by decide) rfl ?_; intro a hE
        refine c_fin ?_
        obtain ⟨j52, hl53, hF54⟩ := bind_some hF17
        refine c_cut (fun a w => Env 71 a [(0, v0_1), (1, (vI j52.2)), (5, (vI s4.2.2))] ∧ M St W w (own NoB (j52.1 : (List GRecord)) [v0_1] :: its)) ?_ ?_
        · skip
          refine wp_block ?_
          refine c_loop (fun (s55 : (List GRecord) × Int × Int) a w => Env 71 a [(0, v0_1), (1, (vI s55.2.1)), (5, (vI s4.2.2)), (7, (vI s55.2.2))] ∧ M St W w (own NoB (s55.1 : (List GRecord)) [v0_1] :: its)) hl53 ⟨hE.sub ⟨rfl, rfl, rfl, rfl, trivial⟩, hM⟩ ?_
          rintro s55 a w ⟨hE, hM⟩ o58 hs56 hx57
          unfold L2_laws_markRecordS at hs56
          refine wp_seq ?_
          refine c_region ?_
          refine s_move hE goes_none (by decide) rfl ?_; intro a hE
          refine s_int hE goes_none (by decide) rfl rfl rfl ?_; intro a hE
          refine c_fin ?_
          refine c_cond hE rfl ?_ ?_
          · intro hb59
            have hs56 := ite_t hs56 hb59
            refine wp_skip ?_
            refine c_nx ?_
            refine wp_seq ?_
            refine wp_block ?_
            refine c_region ?_
            refine s_move hE goes_none (by decide) rfl ?_; intro a hE
            refine s_move hE goes_none (by decide) rfl ?_; intro a hE
            refine s_move hE goes_none (by decide) rfl ?_; intro a hE
            refine s_move hE goes_none (by decide) rfl ?_; intro a hE
            refine s_conv hE goes_none (by decide) rfl Try.underlying3 Try.underlying5 ?_; intro a hE
            rw [byteI_val] at hE
            obtain ⟨x60, e61, hs56⟩ := bind_some hs56
            have hi62 := idx_some e61
            refine s_indexS hE goes_none (by decide) rfl rfl Try.underlying35 ty114 (hM.ro (pre := []) noB) hi62.1 ?_; intro a hE
            refine s_fieldAddr hE goes_none (by decide) rfl (fd114_5) ?_; intro a hE
            obtain ⟨x64, e65, hs56⟩ := bind_some hs56
            have hi63 := vidx_some e65
            refine s_indexA hE goes_none (by decide) rfl rfl Try.underlying25 ty5 hi63.1 ?_; intro a hE
            have hM := hM.toOsl (List.getElem?_eq_some_iff.1 hi62.2).1
            refine s_storeRF (i := (s4.2.2).toNat) (k0 := 0 + 20 + (s55.2.2).toNat * 1) (seg := [(vB (byteI s55.2.1))]) (xo := x60) (xn := (⟨x60.Number, x60.Version, x60.Nonce, x60.Label, x60.Body, (x60.Tag.setIfInBounds (s55.2.2).toNat (byteI s55.2.1))⟩ : GRecord)) hE hM noB goes_none (opv_off rfl (by show _ = _ + _ * 52 + _; omega)) rfl rfl ty5 rfl (Flat.cell (byteI s55.2.1 : UInt8)) hi62.2 (fit_part (m := 1) hi63.1 rfl (by decide)) (fun S w cs f h => by obtain ⟨y1, y2, _, _, rfl, rfl, s1, s2⟩ := unf_GRecord h; exact sat_cast (splice_catI (o' := 0 + (s55.2.2).toNat * 1) (pre := [[(vI x60.Number)], [(vI x60.Version)], Flat.enc x60.Nonce, [y1], [y2]]) (seg := Flat.enc x60.Tag) (post := []) (cl1 (n := 1) (m := 19) rfl (cl1 (n := 1) (m := 18) rfl (cl1 (n := 16) (m := 2) (Flat.len _) (cl1 (n := 1) (m := 1) rfl (cl1 (n := 1) (m := 0) rfl cl0))))) (fit_vec (v := x60.Tag) (x := byteI s55.2.1) hi63.1) (splice_vec0 (v := x60.Tag) (x := byteI s55.2.1) hi63.1) (by first | omega | (simp only [Flat.n] <;> omega))) (pk_GRecord s1 s2 (by simp))) ?_; intro w a hM hE
            have hM := hM.toOwn noB
            refine c_fin ?_
            refine wp_region_lit ?_
            refine s_move hE goes_none (by decide) rfl ?_; intro a hE
            refine s_int hE goes_none (by decide) rfl rfl rfl ?_; intro a hE
            refine s_assign hE goes_none (by decide) rfl ?_; intro a hE
            refine c_fin0 ?_
            refine c_nb ?_
            refine c_nx ?_
            refine wp_region_lit ?_
            refine s_move hE goes_none (by decide) rfl ?_; intro a hE
            refine s_int hE goes_none (by decide) rfl rfl rfl ?_; intro a hE
            refine s_assign hE goes_none (by decide) rfl ?_; intro a hE
            refine c_fin0 ?_
            refine c_mid ?_
            exact ⟨_, (Option.some.inj hs56).symm, hE.sub ⟨rfl, rfl, rfl, rfl, trivial⟩, hM⟩
          · intro hb59
            have hs56 := ite_f hs56 hb59
            refine wp_exit (e_then (e_then (e_eq ?_)))
            have ht66 := hx57 _ (Option.some.inj hs56).symm
            subst ht66
            refine c_mid ?_
            exact ⟨hE.sub ⟨rfl, rfl, rfl, trivial⟩, hM⟩
        · skip
          rintro a w ⟨hE, hM⟩
          refine c_nb ?_
          refine c_nx ?_
          refine wp_region_lit ?_
          refine s_move hE goes_none (by decide) rfl ?_; intro a hE
          refine s_int hE goes_none (by decide) rfl rfl rfl ?_; intro a hE
          refine s_assign hE goes_none (by decide) rfl ?_; intro a hE
          refine c_fin0 ?_
          refine c_mid ?_
          exact ⟨_, (Option.some.inj hF54).symm, hE.sub ⟨rfl, rfl, rfl, trivial⟩, hM⟩
    · intro hb8
      have hs5 := ite_f hs5 hb8
      refine wp_exit (e_then (e_then (e_eq ?_)))
      have ht67 := hx6 _ (Option.some.inj hs5).symm
      subst ht67
      refine c_mid ?_
      exact ⟨hE.sub ⟨rfl, rfl, trivial⟩, hM⟩
  · skip
    rintro a w ⟨hE, hM⟩
    refine c_nx ?_
    refine c_region ?_
    refine s_move hE goes_none (by decide) rfl ?_; intro a hE
    refine s_assign hE goes_none (by decide) rfl ?_; intro a hE
    refine c_fin ?_
    have hr := Option.some.inj hF3
    subst hr
    exact wp_ret (k_ret1 hE (by rfl) (res_tmp hE rfl) ⟨_, rfl, rfl, hM⟩)
noncomputable def L1_laws_markEventS (s4 : (List GEvent) × Int × Int) (s18 : (List GEvent) × Int × Int) : Option (Fl ((List GEvent) × Int × Int) ((List GEvent) × Int)) :=
  if (decide (s18.2.2 < 32)) = true then ((idx s18.1 s4.2.2).bind fun (x23 : GEvent) => (vidx x23.Tag s18.2.2).bind fun (x27 : UInt8) => some (Fl.nx ((s18.1.set (s4.2.2).toNat (⟨x23.Kind, x23.Number, (x23.Tag.setIfInBounds (s18.2.2).toNat (byteI s18.2.1))⟩ : GEvent)), wr (s18.2.1 + 1), wr (s18.2.2 + 1)))) else (some (Fl.ex (s18.1, s18.2.1)))
noncomputable def L0_laws_markEventS (s4 : (List GEvent) × Int × Int) : Option (Fl ((List GEvent) × Int × Int) ((List GEvent) × Int)) :=
  if (decide (s4.2.2 < (s4.1.length : Int))) = true then ((idx s4.1 s4.2.2).bind fun (x9 : GEvent) => (idx (s4.1.set (s4.2.2).toNat (⟨s4.2.1, x9.Number, x9.Tag⟩ : GEvent)) s4.2.2).bind fun (x12 : GEvent) => (iter (L1_laws_markEventS s4) (((s4.1.set (s4.2.2).toNat (⟨s4.2.1, x9.Number, x9.Tag⟩ : GEvent)).set (s4.2.2).toNat (⟨x12.Kind, wr (s4.2.1 + 1), x12.Tag⟩ : GEvent)), wr ((wr (s4.2.1 + 1)) + 1), 0) : Option ((List GEvent) × Int)).bind fun (j15 : (List GEvent) × Int) => some (Fl.nx (j15.1, j15.2, wr (s4.2.2 + 1)))) else (some (Fl.ex (s4.1, s4.2.1)))
noncomputable def F_laws_markEventS (p0 : (List GEvent)) (p1 : Int) : Option ((List GEvent) × Int) :=
  (iter (L0_laws_markEventS) (p0, p1, 0) : Option ((List GEvent) × Int)).bind fun (j1 : (List GEvent) × Int) => some (j1.1, j1.2)
set_option maxRecDepth 20000 in
set_option maxHeartbeats 400000 in
theorem c_laws_markEventS (St : Nat → Prop) (W w0 : World) (its : List Item) (p0 : (List GEvent)) (v0_1 : Value) (p1 : Int) (hM : M St W w0 (own NoB (p0 : (List GEvent)) [v0_1] :: its)) (r : (List GEvent) × Int) (hF : F_laws_markEventS p0 p1 = some r) :
    Calls Try.prog 41 [v0_1, (vI p1)].toArray w0 (fun en w' => ∃ v, en = .returned v ∧ (v = (vI r.2) ∧ M St W w' (own NoB (r.1 : (List GEvent)) [v0_1] :: its))) := by
  refine c_enter (n := 42) Try.func41 rfl rfl (Nat.le_of_ble_eq_true rfl) rfl ?_
  intro a hE
  unfold F_laws_markEventS at hF
  refine c_region ?_
  refine s_assign hE goes_none (by decide) rfl ?_; intro a hE
  refine c_fin ?_
  refine wp_seq ?_
  refine c_region ?_
  refine s_assign hE goes_none (by decide) rfl ?_; intro a hE
  refine c_fin ?_
  obtain ⟨j1, hl2, hF3⟩ := bind_some hF
  refine c_cut (fun a w => Env 42 a [(0, v0_1), (1, (vI j1.2))] ∧ M St W w (own NoB (j1.1 : (List GEvent)) [v0_1] :: its)) ?_ ?_
  · skip
    refine wp_block ?_
    refine c_loop (fun (s4 : (List GEvent) × Int × Int) a w => Env 42 a [(0, v0_1), (1, (vI s4.2.1)), (5, (vI s4.2.2))] ∧ M St W w (own NoB (s4.1 : (List GEvent)) [v0_1] :: its)) hl2 ⟨hE.sub ⟨rfl, rfl, rfl, trivial⟩, hM⟩ ?_
    rintro s4 a w ⟨hE, hM⟩ o7 hs5 hx6
    unfold L0_laws_markEventS at hs5
    refine wp_seq ?_
    refine c_region ?_
    refine s_move hE goes_none (by decide) rfl ?_; intro a hE
    refine s_move hE goes_none (by decide) rfl ?_; intro a hE
    refine s_len hE goes_none (by decide) rfl Try.underlying28 (hM.ro (pre := []) noB) ?_; intro a hE
    refine s_int hE goes_none (by decide) rfl rfl rfl ?_; intro a hE
    refine c_fin ?_
    refine c_cond hE rfl ?_ ?_
    · intro hb8
      have hs5 := ite_t hs5 hb8
      refine wp_skip ?_
      refine c_nx ?_
      refine wp_seq ?_
      refine wp_block ?_
      refine c_region ?_
      refine s_move hE goes_none (by decide) rfl ?_; intro a hE
      refine s_move hE goes_none (by decide) rfl ?_; intro a hE
      refine s_move hE goes_none (by decide) rfl ?_; intro a hE
      obtain ⟨x9, e10, hs5⟩ := bind_some hs5
      have hi11 := idx_some e10
      refine s_indexS hE goes_none (by decide) rfl rfl Try.underlying28 ty65 (hM.ro (pre := []) noB) hi11.1 ?_; intro a hE
      refine s_fieldAddr hE goes_none (by decide) rfl (fd65_0) ?_; intro a hE
      have hM := hM.toOsl (List.getElem?_eq_some_iff.1 hi11.2).1
      refine s_storeS (i := (s4.2.2).toNat) (k0 := 0 + 0) (seg := [(vI s4.2.1)]) (xo := x9) (xn := (⟨s4.2.1, x9.Number, x9.Tag⟩ : GEvent)) hE hM goes_none rfl rfl rfl ty2 rfl (Flat.cell (s4.2.1 : Int)) hi11.2 (fit_num (m := 1) rfl (by decide)) (splice_cat (pre := []) (seg := [(vI x9.Kind)]) (post := [[(vI x9.Number)], Flat.enc x9.Tag]) cl0 (Eq.trans rfl (Eq.symm rfl))) ?_; intro w a hM hE
      have hM := hM.toOwn noB
      refine c_fin ?_
      refine c_region ?_
      refine s_move hE goes_none (by decide) rfl ?_; intro a hE
      refine s_int hE goes_none (by decide) rfl rfl rfl ?_; intro a hE
      refine s_assign hE goes_none (by decide) rfl ?_; intro a hE
      refine c_fin ?_
      refine c_region ?_
      refine s_move hE goes_none (by decide) rfl ?_; intro a hE
      refine s_move hE goes_none (by decide) rfl ?_; intro a hE
      refine s_move hE goes_none (by decide) rfl ?_; intro a hE
      obtain ⟨x12, e13, hs5⟩ := bind_some hs5
      have hi14 := idx_some e13
      refine s_indexS hE goes_none (by decide) rfl rfl Try.underlying28 ty65 (hM.ro (pre := []) noB) hi14.1 ?_; intro a hE
      refine s_fieldAddr hE goes_none (by decide) rfl (fd65_1) ?_; intro a hE
      have hM := hM.toOsl (List.getElem?_eq_some_iff.1 hi14.2).1
      refine s_storeS (i := (s4.2.2).toNat) (k0 := 0 + 1) (seg := [(vI (wr (s4.2.1 + 1)))]) (xo := x12) (xn := (⟨x12.Kind, wr (s4.2.1 + 1), x12.Tag⟩ : GEvent)) hE hM goes_none rfl rfl rfl ty2 rfl (Flat.cell (wr (s4.2.1 + 1) : Int)) hi14.2 (fit_num (m := 1) rfl (by decide)) (splice_cat (pre := [[(vI x12.Kind)]]) (seg := [(vI x12.Number)]) (post := [Flat.enc x12.Tag]) (cl1 (n := 1) (m := 0) rfl cl0) (Eq.trans rfl (Eq.symm rfl))) ?_; intro w a hM hE
      have hM := hM.toOwn noB
      refine c_fin ?_
      refine c_region ?_
      refine s_move hE goes_none (by decide) rfl ?_; intro a hE
      refine s_int hE goes_none (by decide) rfl rfl rfl ?_; intro a hE
      refine s_assign hE goes_none (by decide) rfl ?_; intro a hE
      refine c_fin ?_
      refine c_region ?_
      refine s_assign hE goes_none (by decide) rfl ?_; intro a hE
      refine c_fin ?_
      obtain ⟨j15, hl16, hF17⟩ := bind_some hs5
      refine c_cut (fun a w => Env 42 a [(0, v0_1), (1, (vI j15.2)), (5, (vI s4.2.2))] ∧ M St W w (own NoB (j15.1 : (List GEvent)) [v0_1] :: its)) ?_ ?_
      · skip
        refine wp_block ?_
        refine c_loop (fun (s18 : (List GEvent) × Int × Int) a w => Env 42 a [(0, v0_1), (1, (vI s18.2.1)), (5, (vI s4.2.2)), (6, (vI s18.2.2))] ∧ M St W w (own NoB (s18.1 : (List GEvent)) [v0_1] :: its)) hl16 ⟨hE.sub ⟨rfl, rfl, rfl, rfl, trivial⟩, hM⟩ ?_
        rintro s18 a w ⟨hE, hM⟩ o21 hs19 hx20
        unfold L1_laws_markEventS at hs19
        refine wp_seq ?_
        refine c_region ?_
        refine s_move hE goes_none (by decide) rfl ?_; intro a hE
        refine s_int hE goes_none (by decide) rfl rfl rfl ?_; intro a hE
        refine c_fin ?_
        refine c_cond hE rfl ?_ ?_
        · intro hb22
          have hs19 := ite_t hs19 hb22
          refine wp_skip ?_
          refine c_nx ?_
          refine wp_seq ?_
          refine wp_block ?_
          refine c_region ?_
          refine s_move hE goes_none (by decide) rfl ?_; intro a hE
          refine s_move hE goes_none (by decide) rfl ?_; intro a hE
          refine s_move hE goes_none (by decide) rfl ?_; intro a hE
          refine s_move hE goes_none (by decide) rfl ?_; intro a hE
          refine s_conv hE goes_none (by decide) rfl Try.underlying3 Try.underlying5 ?_; intro a hE
          rw [byteI_val] at hE
          obtain ⟨x23, e24, hs19⟩ := bind_some hs19
          have hi25 := idx_some e24
          refine s_indexS hE goes_none (by decide) rfl rfl Try.underlying28 ty65 (hM.ro (pre := []) noB) hi25.1 ?_; intro a hE
          refine s_fieldAddr hE goes_none (by decide) rfl (fd65_2) ?_; intro a hE
          obtain ⟨x27, e28, hs19⟩ := bind_some hs19
          have hi26 := vidx_some e28
          refine s_indexA hE goes_none (by decide) rfl rfl Try.underlying25 ty5 hi26.1 ?_; intro a hE
          have hM := hM.toOsl (List.getElem?_eq_some_iff.1 hi25.2).1
          refine s_storeS (i := (s4.2.2).toNat) (k0 := 0 + 2 + (s18.2.2).toNat * 1) (seg := [(vB (byteI s18.2.1))]) (xo := x23) (xn := (⟨x23.Kind, x23.Number, (x23.Tag.setIfInBounds (s18.2.2).toNat (byteI s18.2.1))⟩ : GEvent)) hE hM goes_none (opv_off rfl (by show _ = _ + _ * 34 + _; omega)) rfl rfl ty5 rfl (Flat.cell (byteI s18.2.1 : UInt8)) hi25.2 (fit_part (m := 1) hi26.1 rfl (by decide)) (splice_catI (o' := 0 + (s18.2.2).toNat * 1) (pre := [[(vI x23.Kind)], [(vI x23.Number)]]) (seg := Flat.enc x23.Tag) (post := []) (cl1 (n := 1) (m := 1) rfl (cl1 (n := 1) (m := 0) rfl cl0)) (fit_vec (v := x23.Tag) (x := byteI s18.2.1) hi26.1) (splice_vec0 (v := x23.Tag) (x := byteI s18.2.1) hi26.1) (by first | omega | (simp only [Flat.n] <;> omega))) ?_; intro w a hM hE
          have hM := hM.toOwn noB
          refine c_fin ?_
          refine wp_region_lit ?_
          refine s_move hE goes_none (by decide) rfl ?_; intro a hE
          refine s_int hE goes_none (by decide) rfl rfl rfl ?_; intro a hE
          refine s_assign hE goes_none (by decide) rfl ?_; intro a hE
          refine c_fin0 ?_
          refine c_nb ?_
          refine c_nx ?_
          refine wp_region_lit ?_
          refine s_move hE goes_none (by decide) rfl ?_; intro a hE
          refine s_int hE goes_none (by decide) rfl rfl rfl ?_; intro a hE
          refine s_assign hE goes_none (by decide) rfl ?_; intro a hE
          refine c_fin0 ?_
          refine c_mid ?_
          exact ⟨_, (Option.some.inj hs19).symm, hE.sub ⟨rfl, rfl, rfl, rfl, trivial⟩, hM⟩
        · intro hb22
          have hs19 := ite_f hs19 hb22
          refine wp_exit (e_then (e_then (e_eq ?_)))
          have ht29 := hx20 _ (Option.some.inj hs19).symm
          subst ht29
          refine c_mid ?_
          exact ⟨hE.sub ⟨rfl, rfl, rfl, trivial⟩, hM⟩
      · skip
        rintro a w ⟨hE, hM⟩
        refine c_nb ?_
        refine c_nx ?_
        refine wp_region_lit ?_
        refine s_move hE goes_none (by decide) rfl ?_; intro a hE
        refine s_int hE goes_none (by decide) rfl rfl rfl ?_; intro a hE
        refine s_assign hE goes_none (by decide) rfl ?_; intro a hE
        refine c_fin0 ?_
        refine c_mid ?_
        exact ⟨_, (Option.some.inj hF17).symm, hE.sub ⟨rfl, rfl, rfl, trivial⟩, hM⟩
    · intro hb8
      have hs5 := ite_f hs5 hb8
      refine wp_exit (e_then (e_then (e_eq ?_)))
      have ht30 := hx6 _ (Option.some.inj hs5).symm
      subst ht30
      refine c_mid ?_
      exact ⟨hE.sub ⟨rfl, rfl, trivial⟩, hM⟩
  · skip
    rintro a w ⟨hE, hM⟩
    refine c_nx ?_
    refine c_region ?_
    refine s_move hE goes_none (by decide) rfl ?_; intro a hE
    refine s_assign hE goes_none (by decide) rfl ?_; intro a hE
    refine c_fin ?_
    have hr := Option.some.inj hF3
    subst hr
    exact wp_ret (k_ret1 hE (by rfl) (res_tmp hE rfl) ⟨_, rfl, rfl, hM⟩)
noncomputable def F_laws_markVault (p0 : GVault) (p1 : Int) : Option (GVault × Int) :=
  (F_laws_markBlockS p0.Keys p1).bind fun (r3 : (List (Vector UInt8 16)) × Int) => (F_laws_markRecordS p0.Records r3.2).bind fun (r5 : (List GRecord) × Int) => (F_laws_markEventS p0.Events r5.2).bind fun (r7 : (List GEvent) × Int) => some ((⟨r3.1, p0.Next, r5.1, r7.1, p0.Head⟩ : GVault), r7.2)
set_option maxRecDepth 20000 in
set_option maxHeartbeats 400000 in
theorem c_laws_markVault (St : Nat → Prop) (W w0 : World) (its : List Item) (p0 : GVault) (v0_1 : Value) (v0_2 : Value) (v0_3 : Value) (p1 : Int) (hM : M St W w0 (own NoB (p0.Keys : (List (Vector UInt8 16))) [v0_1] :: own NoB (p0.Records : (List GRecord)) [v0_2] :: own NoB (p0.Events : (List GEvent)) [v0_3] :: its)) (r : GVault × Int) (hF : F_laws_markVault p0 p1 = some r) :
    Calls Try.prog 16 [(Value.agg (cat [[v0_1], [(vI p0.Next)], [v0_2], [v0_3], Flat.enc p0.Head]).toArray), (vI p1)].toArray w0 (fun en w' => ∃ v, en = .returned v ∧ (v = (vI r.2) ∧ M St W w' (own NoB (r.1.Keys : (List (Vector UInt8 16))) [v0_1] :: own NoB (r.1.Records : (List GRecord)) [v0_2] :: own NoB (r.1.Events : (List GEvent)) [v0_3] :: its))) := by
  refine c_enter (n := 18) Try.func16 rfl rfl (Nat.le_of_ble_eq_true rfl) rfl ?_
  intro a hE
  unfold F_laws_markVault at hF
  refine c_region ?_
  refine s_box (cs := cat [[v0_1], [(vI p0.Next)], [v0_2], [v0_3], Flat.enc p0.Head]) hE hM goes_none (by decide) rfl rfl ?_; intro b1 w a hM hE
  refine s_assign hE goes_none (by decide) rfl ?_; intro a hE
  refine c_fin ?_
  refine c_region ?_
  refine s_fieldAddr hE goes_none (by decide) rfl (fd37_0) ?_; intro a hE
  refine s_load (v := v0_1) hE goes_none (by decide) rfl ty34 rfl (At.cat (pre := []) (seg := [v0_1]) (post := [[(vI p0.Next)], [v0_2], [v0_3], Flat.enc p0.Head]) (hM.rawAt (pre := [])) cl0) ?_; intro a hE
  refine s_move hE goes_none (by decide) rfl ?_; intro a hE
  have hM := hM.pull (pre := [_])
  obtain ⟨r3, e4, hF⟩ := bind_some hF
  refine s_call (vs := [v0_1, (vI p1)]) hE goes_none (by decide) rfl cb39 (c_laws_markBlockS _ _ _ _ p0.Keys v0_1 p1 hM r3 e4) ?_
  rintro v w a ⟨rfl, hM⟩ hE
  refine s_assign hE goes_none (by decide) rfl ?_; intro a hE
  refine c_fin ?_
  refine c_region ?_
  refine s_fieldAddr hE goes_none (by decide) rfl (fd37_2) ?_; intro a hE
  refine s_load (v := v0_2) hE goes_none (by decide) rfl ty35 rfl (At.cat (pre := [[v0_1], [(vI p0.Next)]]) (seg := [v0_2]) (post := [[v0_3], Flat.enc p0.Head]) (hM.rawAt (pre := [_])) (cl1 (n := 1) (m := 1) rfl (cl1 (n := 1) (m := 0) rfl cl0))) ?_; intro a hE
  refine s_move hE goes_none (by decide) rfl ?_; intro a hE
  have hM := hM.pull (pre := [_, _])
  obtain ⟨r5, e6, hF⟩ := bind_some hF
  refine s_call (vs := [v0_2, (vI r3.2)]) hE goes_none (by decide) rfl cb40 (c_laws_markRecordS _ _ _ _ p0.Records v0_2 r3.2 hM r5 e6) ?_
  rintro v w a ⟨rfl, hM⟩ hE
  refine s_assign hE goes_none (by decide) rfl ?_; intro a hE
  refine c_fin ?_
  refine c_region ?_
  refine s_fieldAddr hE goes_none (by decide) rfl (fd37_3) ?_; intro a hE
  refine s_load (v := v0_3) hE goes_none (by decide) rfl ty28 rfl (At.cat (pre := [[v0_1], [(vI p0.Next)], [v0_2]]) (seg := [v0_3]) (post := [Flat.enc p0.Head]) (hM.rawAt (pre := [_, _])) (cl1 (n := 1) (m := 2) rfl (cl1 (n := 1) (m := 1) rfl (cl1 (n := 1) (m := 0) rfl cl0)))) ?_; intro a hE
  refine s_move hE goes_none (by decide) rfl ?_; intro a hE
  have hM := hM.pull (pre := [_, _, _])
  obtain ⟨r7, e8, hF⟩ := bind_some hF
  refine s_call (vs := [v0_3, (vI r5.2)]) hE goes_none (by decide) rfl cb41 (c_laws_markEventS _ _ _ _ p0.Events v0_3 r5.2 hM r7 e8) ?_
  rintro v w a ⟨rfl, hM⟩ hE
  refine s_assign hE goes_none (by decide) rfl ?_; intro a hE
  refine c_fin ?_
  refine c_region ?_
  refine s_move hE goes_none (by decide) rfl ?_; intro a hE
  refine s_assign hE goes_none (by decide) rfl ?_; intro a hE
  refine c_fin ?_
  have hr := Option.some.inj hF
  subst hr
  have hM := hM.pull (pre := [_])
  have hM := hM.pull (pre := [_, _])
  have hM := (hM.pull (pre := [_, _, _])).drop
  exact wp_ret (k_ret1 hE (by rfl) (res_tmp hE rfl) ⟨_, rfl, rfl, hM⟩)
noncomputable def L1_laws_heldBlockS (p0 : (List (Vector UInt8 16))) (s5 : Int × Int) (s14 : Int × Int) : Option (Fl (Int × Int) (Fl Int Int)) :=
  if (decide (s14.2 < 16)) = true then ((idx p0 s5.2).bind fun (x19 : (Vector UInt8 16)) => (vidx x19 s14.2).bind fun (x23 : UInt8) => if (x23 != (byteI s14.1)) = true then (some (Fl.ex (Fl.ex (-1)))) else (some (Fl.nx (wr (s14.1 + 1), wr (s14.2 + 1))))) else (some (Fl.ex (Fl.nx s14.1)))
noncomputable def L0_laws_heldBlockS (p0 : (List (Vector UInt8 16))) (s5 : Int × Int) : Option (Fl (Int × Int) (Fl Int Int)) :=
  if (decide (s5.2 < (p0.length : Int))) = true then ((iter (L1_laws_heldBlockS p0 s5) (s5.1, 0) : Option (Fl Int Int)).bind fun (j10 : Fl Int Int) => j10.el (fun (s13 : Int) => some (Fl.nx (s13, wr (s5.2 + 1)))) (fun r => some (Fl.ex (Fl.ex r)))) else (some (Fl.ex (Fl.nx s5.1)))
noncomputable def F_laws_heldBlockS (p0 : (List (Vector UInt8 16))) (p1 : Int) : Option (Int) :=
  (iter (L0_laws_heldBlockS p0) (p1, 0) : Option (Fl Int Int)).bind fun (j1 : Fl Int Int) => j1.el (fun (s4 : Int) => some s4) (fun r => some r)
set_option maxRecDepth 20000 in
set_option maxHeartbeats 400000 in
theorem c_laws_heldBlockS (w0 : World) (p0 : (List (Vector UInt8 16))) (v0_1 : Value) (hv0_1 : Ro w0 p0 [v0_1]) (p1 : Int) (r : Int) (hF : F_laws_heldBlockS p0 p1 = some r) :
    Calls Try.prog 42 [v0_1, (vI p1)].toArray w0 (fun en w' => ∃ v, en = .returned v ∧ (v = (vI r) ∧ Kept (Old w0) w0 w')) := by
  refine c_enter (n := 29) Try.func42 rfl rfl (Nat.le_of_ble_eq_true rfl) rfl ?_
  intro a hE
  have hM := M.start w0
  unfold F_laws_heldBlockS at hF
  refine c_region ?_
  refine s_assign hE goes_none (by decide) rfl ?_; intro a hE
  refine c_fin ?_
  refine wp_seq ?_
  refine c_region ?_
  refine s_assign hE goes_none (by decide) rfl ?_; intro a hE
  refine c_fin ?_
  obtain ⟨j1, hl2, hF3⟩ := bind_some hF
  refine c_cut (fun a w => ∃ s4 : Int, j1 = Fl.nx s4 ∧ Env 29 a [(1, (vI s4))] ∧ M (Old w0) w0 w []) ?_ ?_
  · skip
    refine wp_block ?_
    refine c_loop (fun (s5 : Int × Int) a w => Env 29 a [(0, v0_1), (1, (vI s5.1)), (5, (vI s5.2))] ∧ M (Old w0) w0 w []) hl2 ⟨hE.sub ⟨rfl, rfl, rfl, trivial⟩, hM⟩ ?_
    rintro s5 a w ⟨hE, hM⟩ o8 hs6 hx7
    unfold L0_laws_heldBlockS at hs6
    refine wp_seq ?_
    refine c_region ?_
    refine s_move hE goes_none (by decide) rfl ?_; intro a hE
    refine s_move hE goes_none (by decide) rfl ?_; intro a hE
    refine s_len hE goes_none (by decide) rfl Try.underlying34 (hM.rd hv0_1) ?_; intro a hE
    refine s_int hE goes_none (by decide) rfl rfl rfl ?_; intro a hE
    refine c_fin ?_
    refine c_cond hE rfl ?_ ?_
    · intro hb9
      have hs6 := ite_t hs6 hb9
      refine wp_skip ?_
      refine c_nx ?_
      refine wp_seq ?_
      refine wp_block ?_
      refine c_region ?_
      refine s_assign hE goes_none (by decide) rfl ?_; intro a hE
      refine c_fin ?_
      obtain ⟨j10, hl11, hF12⟩ := bind_some hs6
      refine c_cut (fun a w => ∃ s13 : Int, j10 = Fl.nx s13 ∧ Env 29 a [(0, v0_1), (1, (vI s13)), (5, (vI s5.2))] ∧ M (Old w0) w0 w []) ?_ ?_
      · skip
        refine wp_block ?_
        refine c_loop (fun (s14 : Int × Int) a w => Env 29 a [(0, v0_1), (1, (vI s14.1)), (5, (vI s5.2)), (6, (vI s14.2))] ∧ M (Old w0) w0 w []) hl11 ⟨hE.sub ⟨rfl, rfl, rfl, rfl, trivial⟩, hM⟩ ?_
        rintro s14 a w ⟨hE, hM⟩ o17 hs15 hx16
        unfold L1_laws_heldBlockS at hs15
        refine wp_seq ?_
        refine c_region ?_
        refine s_move hE goes_none (by decide) rfl ?_; intro a hE
        refine s_int hE goes_none (by decide) rfl rfl rfl ?_; intro a hE
        refine c_fin ?_
        refine c_cond hE rfl ?_ ?_
        · intro hb18
          have hs15 := ite_t hs15 hb18
          refine wp_skip ?_
          refine c_nx ?_
          refine wp_seq ?_
          refine wp_block ?_
          refine wp_seq ?_
          refine c_region ?_
          refine s_move hE goes_none (by decide) rfl ?_; intro a hE
          refine s_move hE goes_none (by decide) rfl ?_; intro a hE
          refine s_move hE goes_none (by decide) rfl ?_; intro a hE
          obtain ⟨x19, e20, hs15⟩ := bind_some hs15
          have hi21 := idx_some e20
          refine s_indexS hE goes_none (by decide) rfl rfl Try.underlying34 ty39 (hM.rd hv0_1) hi21.1 ?_; intro a hE
          obtain ⟨x23, e24, hs15⟩ := bind_some hs15
          have hi22 := vidx_some e24
          refine s_indexA hE goes_none (by decide) rfl rfl Try.underlying39 ty5 hi22.1 ?_; intro a hE
          refine s_load (v := (vB x23)) hE goes_none (by decide) rfl ty5 rfl (At.vec (sl_atF (hM.rd hv0_1) hi21.2) hi22.2) ?_; intro a hE
          refine s_move hE goes_none (by decide) rfl ?_; intro a hE
          refine s_conv hE goes_none (by decide) rfl Try.underlying3 Try.underlying5 ?_; intro a hE
          rw [byteI_val] at hE
          refine s_int hE goes_none (by decide) rfl rfl (bB_neq x23 (byteI s14.1)) ?_; intro a hE
          refine c_fin ?_
          refine c_cond hE rfl ?_ ?_
          · intro hb25
            have hs15 := ite_t hs15 hb25
            refine c_region ?_
            refine s_assign hE goes_none (by decide) rfl ?_; intro a hE
            refine c_fin ?_
            have ht26 := hx16 _ (Option.some.inj hs15).symm
            subst ht26
            have ht27 := hx7 _ (Option.some.inj hF12).symm
            subst ht27
            have hr := Option.some.inj hF3
            subst hr
            exact wp_ret (r_then (r_inb (r_then (r_then (r_inb (r_then (r_inb (r_then (r_then (r_inb (r_then (r_then (k_ret1 hE rfl (res_tmp hE rfl) ⟨_, rfl, rfl, hM.kept⟩)))))))))))))
          · intro hb25
            have hs15 := ite_f hs15 hb25
            refine wp_skip ?_
            refine c_nx ?_
            refine wp_region_lit ?_
            refine s_move hE goes_none (by decide) rfl ?_; intro a hE
            refine s_int hE goes_none (by decide) rfl rfl rfl ?_; intro a hE
            refine s_assign hE goes_none (by decide) rfl ?_; intro a hE
            refine c_fin0 ?_
            refine c_nb ?_
            refine c_nx ?_
            refine wp_region_lit ?_
            refine s_move hE goes_none (by decide) rfl ?_; intro a hE
            refine s_int hE goes_none (by decide) rfl rfl rfl ?_; intro a hE
            refine s_assign hE goes_none (by decide) rfl ?_; intro a hE
            refine c_fin0 ?_
            refine c_mid ?_
            exact ⟨_, (Option.some.inj hs15).symm, hE.sub ⟨rfl, rfl, rfl, rfl, trivial⟩, hM⟩
        · intro hb18
          have hs15 := ite_f hs15 hb18
          refine wp_exit (e_then (e_then (e_eq ?_)))
          have ht28 := hx16 _ (Option.some.inj hs15).symm
          subst ht28
          refine c_mid ?_
          exact ⟨s14.1, rfl, hE.sub ⟨rfl, rfl, rfl, trivial⟩, hM⟩
      · skip
        rintro a w ⟨s13, ht, hE, hM⟩
        subst ht
        have hF12 := el_nx hF12
        refine c_nb ?_
        refine c_nx ?_
        refine wp_region_lit ?_
        refine s_move hE goes_none (by decide) rfl ?_; intro a hE
        refine s_int hE goes_none (by decide) rfl rfl rfl ?_; intro a hE
        refine s_assign hE goes_none (by decide) rfl ?_; intro a hE
        refine c_fin0 ?_
        refine c_mid ?_
        exact ⟨_, (Option.some.inj hF12).symm, hE.sub ⟨rfl, rfl, rfl, trivial⟩, hM⟩
    · intro hb9
      have hs6 := ite_f hs6 hb9
      refine wp_exit (e_then (e_then (e_eq ?_)))
      have ht29 := hx7 _ (Option.some.inj hs6).symm
      subst ht29
      refine c_mid ?_
      exact ⟨s5.1, rfl, hE.sub ⟨rfl, trivial⟩, hM⟩
  · skip
    rintro a w ⟨s4, ht, hE, hM⟩
    subst ht
    have hF3 := el_nx hF3
    refine c_nx ?_
    refine c_region ?_
    refine s_move hE goes_none (by decide) rfl ?_; intro a hE
    refine s_assign hE goes_none (by decide) rfl ?_; intro a hE
    refine c_fin ?_
    have hr := Option.some.inj hF3
    subst hr
    exact wp_ret (k_ret1 hE rfl (res_tmp hE rfl) ⟨_, rfl, rfl, hM.kept⟩)
noncomputable def L0_laws_heldByteS (p0 : (List UInt8)) (s5 : Int × Int) : Option (Fl (Int × Int) (Fl Int Int)) :=
  if (decide (s5.2 < (p0.length : Int))) = true then ((idx p0 s5.2).bind fun (x10 : UInt8) => if (x10 != (byteI s5.1)) = true then (some (Fl.ex (Fl.ex (-1)))) else (some (Fl.nx (wr (s5.1 + 1), wr (s5.2 + 1))))) else (some (Fl.ex (Fl.nx s5.1)))
noncomputable def F_laws_heldByteS (p0 : (List UInt8)) (p1 : Int) : Option (Int) :=
  (iter (L0_laws_heldByteS p0) (p1, 0) : Option (Fl Int Int)).bind fun (j1 : Fl Int Int) => j1.el (fun (s4 : Int) => some s4) (fun r => some r)
set_option maxRecDepth 20000 in
set_option maxHeartbeats 400000 in
theorem c_laws_heldByteS (w0 : World) (p0 : (List UInt8)) (v0_1 : Value) (hv0_1 : Ro w0 p0 [v0_1]) (p1 : Int) (r : Int) (hF : F_laws_heldByteS p0 p1 = some r) :
    Calls Try.prog 27 [v0_1, (vI p1)].toArray w0 (fun en w' => ∃ v, en = .returned v ∧ (v = (vI r) ∧ Kept (Old w0) w0 w')) := by
  refine c_enter (n := 22) Try.func27 rfl rfl (Nat.le_of_ble_eq_true rfl) rfl ?_
  intro a hE
  have hM := M.start w0
  unfold F_laws_heldByteS at hF
  refine c_region ?_
  refine s_assign hE goes_none (by decide) rfl ?_; intro a hE
  refine c_fin ?_
  refine wp_seq ?_
  refine c_region ?_
  refine s_assign hE goes_none (by decide) rfl ?_; intro a hE
  refine c_fin ?_
  obtain ⟨j1, hl2, hF3⟩ := bind_some hF
  refine c_cut (fun a w => ∃ s4 : Int, j1 = Fl.nx s4 ∧ Env 22 a [(1, (vI s4))] ∧ M (Old w0) w0 w []) ?_ ?_
  · skip
    refine wp_block ?_
    refine c_loop (fun (s5 : Int × Int) a w => Env 22 a [(0, v0_1), (1, (vI s5.1)), (5, (vI s5.2))] ∧ M (Old w0) w0 w []) hl2 ⟨hE.sub ⟨rfl, rfl, rfl, trivial⟩, hM⟩ ?_
    rintro s5 a w ⟨hE, hM⟩ o8 hs6 hx7
    unfold L0_laws_heldByteS at hs6
    refine wp_seq ?_
    refine c_region ?_
    refine s_move hE goes_none (by decide) rfl ?_; intro a hE
    refine s_move hE goes_none (by decide) rfl ?_; intro a hE
    refine s_len hE goes_none (by decide) rfl Try.underlying50 (hM.rd hv0_1) ?_; intro a hE
    refine s_int hE goes_none (by decide) rfl rfl rfl ?_; intro a hE
    refine c_fin ?_
    refine c_cond hE rfl ?_ ?_
    · intro hb9
      have hs6 := ite_t hs6 hb9
      refine wp_skip ?_
      refine c_nx ?_
      refine wp_seq ?_
      refine wp_block ?_
      refine wp_seq ?_
      refine c_region ?_
      refine s_move hE goes_none (by decide) rfl ?_; intro a hE
      refine s_move hE goes_none (by decide) rfl ?_; intro a hE
      obtain ⟨x10, e11, hs6⟩ := bind_some hs6
      have hi12 := idx_some e11
      refine s_indexS hE goes_none (by decide) rfl rfl Try.underlying50 ty5 (hM.rd hv0_1) hi12.1 ?_; intro a hE
      refine s_load (v := (vB x10)) hE goes_none (by decide) rfl ty5 rfl (sl_atF (hM.rd hv0_1) hi12.2) ?_; intro a hE
      refine s_move hE goes_none (by decide) rfl ?_; intro a hE
      refine s_conv hE goes_none (by decide) rfl Try.underlying3 Try.underlying5 ?_; intro a hE
      rw [byteI_val] at hE
      refine s_int hE goes_none (by decide) rfl rfl (bB_neq x10 (byteI s5.1)) ?_; intro a hE
      refine c_fin ?_
      refine c_cond hE rfl ?_ ?_
      · intro hb13
        have hs6 := ite_t hs6 hb13
        refine c_region ?_
        refine s_assign hE goes_none (by decide) rfl ?_; intro a hE
        refine c_fin ?_
        have ht14 := hx7 _ (Option.some.inj hs6).symm
        subst ht14
        have hr := Option.some.inj hF3
        subst hr
        exact wp_ret (r_then (r_inb (r_then (r_then (r_inb (r_then (r_then (k_ret1 hE rfl (res_tmp hE rfl) ⟨_, rfl, rfl, hM.kept⟩))))))))
      · intro hb13
        have hs6 := ite_f hs6 hb13
        refine wp_skip ?_
        refine c_nx ?_
        refine wp_region_lit ?_
        refine s_move hE goes_none (by decide) rfl ?_; intro a hE
        refine s_int hE goes_none (by decide) rfl rfl rfl ?_; intro a hE
        refine s_assign hE goes_none (by decide) rfl ?_; intro a hE
        refine c_fin0 ?_
        refine c_nb ?_
        refine c_nx ?_
        refine wp_region_lit ?_
        refine s_move hE goes_none (by decide) rfl ?_; intro a hE
        refine s_int hE goes_none (by decide) rfl rfl rfl ?_; intro a hE
        refine s_assign hE goes_none (by decide) rfl ?_; intro a hE
        refine c_fin0 ?_
        refine c_mid ?_
        exact ⟨_, (Option.some.inj hs6).symm, hE.sub ⟨rfl, rfl, rfl, trivial⟩, hM⟩
    · intro hb9
      have hs6 := ite_f hs6 hb9
      refine wp_exit (e_then (e_then (e_eq ?_)))
      have ht15 := hx7 _ (Option.some.inj hs6).symm
      subst ht15
      refine c_mid ?_
      exact ⟨s5.1, rfl, hE.sub ⟨rfl, trivial⟩, hM⟩
  · skip
    rintro a w ⟨s4, ht, hE, hM⟩
    subst ht
    have hF3 := el_nx hF3
    refine c_nx ?_
    refine c_region ?_
    refine s_move hE goes_none (by decide) rfl ?_; intro a hE
    refine s_assign hE goes_none (by decide) rfl ?_; intro a hE
    refine c_fin ?_
    have hr := Option.some.inj hF3
    subst hr
    exact wp_ret (k_ret1 hE rfl (res_tmp hE rfl) ⟨_, rfl, rfl, hM.kept⟩)
noncomputable def L1_laws_heldRecordS (p0 : (List GRecord)) (s5 : Int × Int) (s38 : Int × Int) : Option (Fl (Int × Int) (Fl Int Int)) :=
  if (decide (s38.2 < 16)) = true then ((idx p0 s5.2).bind fun (x43 : GRecord) => (vidx x43.Nonce s38.2).bind fun (x54 : UInt8) => if (x54 != (byteI s38.1)) = true then (some (Fl.ex (Fl.ex (-1)))) else (some (Fl.nx (wr (s38.1 + 1), wr (s38.2 + 1))))) else (some (Fl.ex (Fl.nx s38.1)))
noncomputable def L2_laws_heldRecordS (p0 : (List GRecord)) (s5 : Int × Int) (s92 : Int × Int) : Option (Fl (Int × Int) (Fl Int Int)) :=
  if (decide (s92.2 < 32)) = true then ((idx p0 s5.2).bind fun (x97 : GRecord) => (vidx x97.Tag s92.2).bind fun (x108 : UInt8) => if (x108 != (byteI s92.1)) = true then (some (Fl.ex (Fl.ex (-1)))) else (some (Fl.nx (wr (s92.1 + 1), wr (s92.2 + 1))))) else (some (Fl.ex (Fl.nx s92.1)))
noncomputable def L0_laws_heldRecordS (p0 : (List GRecord)) (s5 : Int × Int) : Option (Fl (Int × Int) (Fl Int Int)) :=
  if (decide (s5.2 < (p0.length : Int))) = true then ((idx p0 s5.2).bind fun (x10 : GRecord) => if (x10.Number != s5.1) = true then (some (Fl.ex (Fl.ex (-1)))) else ((idx p0 s5.2).bind fun (x22 : GRecord) => if (x22.Version != (wr (s5.1 + 1))) = true then (some (Fl.ex (Fl.ex (-1)))) else ((iter (L1_laws_heldRecordS p0 s5) (wr ((wr (s5.1 + 1)) + 1), 0) : Option (Fl Int Int)).bind fun (j34 : Fl Int Int) => j34.el (fun (s37 : Int) => (idx p0 s5.2).bind fun (x60 : GRecord) => (F_laws_heldByteS x60.Label s37).bind fun (r70 : Int) => if (decide (r70 < 0)) = true then (some (Fl.ex (Fl.ex (-1)))) else ((idx p0 s5.2).bind fun (x74 : GRecord) => (F_laws_heldByteS x74.Body r70).bind fun (r84 : Int) => if (decide (r84 < 0)) = true then (some (Fl.ex (Fl.ex (-1)))) else ((iter (L2_laws_heldRecordS p0 s5) (r84, 0) : Option (Fl Int Int)).bind fun (j88 : Fl Int Int) => j88.el (fun (s91 : Int) => some (Fl.nx (s91, wr (s5.2 + 1)))) (fun r => some (Fl.ex (Fl.ex r)))))) (fun r => some (Fl.ex (Fl.ex r)))))) else (some (Fl.ex (Fl.nx s5.1)))
noncomputable def F_laws_heldRecordS (p0 : (List GRecord)) (p1 : Int) : Option (Int) :=
  (iter (L0_laws_heldRecordS p0) (p1, 0) : Option (Fl Int Int)).bind fun (j1 : Fl Int Int) => j1.el (fun (s4 : Int) => some s4) (fun r => some r)
set_option maxRecDepth 20000 in
set_option maxHeartbeats 400000 in
theorem c_laws_heldRecordS (w0 : World) (p0 : (List GRecord)) (v0_1 : Value) (hv0_1 : Ro w0 p0 [v0_1]) (p1 : Int) (r : Int) (hF : F_laws_heldRecordS p0 p1 = some r) :
    Calls Try.prog 43 [v0_1, (vI p1)].toArray w0 (fun en w' => ∃ v, en = .returned v ∧ (v = (vI r) ∧ Kept (Old w0) w0 w')) := by
  refine c_enter (n := 83) Try.func43 rfl rfl (Nat.le_of_ble_eq_true rfl) rfl ?_
  intro a hE
  have hM := M.start w0
  unfold F_laws_heldRecordS at hF
  refine c_region ?_
  refine s_assign hE goes_none (by decide) rfl ?_; intro a hE
  refine c_fin ?_
  refine wp_seq ?_
  refine c_region ?_
  refine s_assign hE goes_none (by decide) rfl ?_; intro a hE
  refine c_fin ?_
  obtain ⟨j1, hl2, hF3⟩ := bind_some hF
  refine c_cut (fun a w => ∃ s4 : Int, j1 = Fl.nx s4 ∧ Env 83 a [(1, (vI s4))] ∧ M (Old w0) w0 w []) ?_ ?_
  · skip
    refine wp_block ?_
    refine c_loop (fun (s5 : Int × Int) a w => Env 83 a [(0, v0_1), (1, (vI s5.1)), (5, (vI s5.2))] ∧ M (Old w0) w0 w []) hl2 ⟨hE.sub ⟨rfl, rfl, rfl, trivial⟩, hM⟩ ?_
    rintro s5 a w ⟨hE, hM⟩ o8 hs6 hx7
    unfold L0_laws_heldRecordS at hs6
    refine wp_seq ?_
    refine c_region ?_
    refine s_move hE goes_none (by decide) rfl ?_; intro a hE
    refine s_move hE goes_none (by decide) rfl ?_; intro a hE
    refine s_len hE goes_none (by decide) rfl Try.underlying35 (hM.rd hv0_1) ?_; intro a hE
    refine s_int hE goes_none (by decide) rfl rfl rfl ?_; intro a hE
    refine c_fin ?_
    refine c_cond hE rfl ?_ ?_
    · intro hb9
      have hs6 := ite_t hs6 hb9
      refine wp_skip ?_
      refine c_nx ?_
      refine wp_seq ?_
      refine wp_block ?_
      refine wp_seq ?_
      refine c_region ?_
      refine s_move hE goes_none (by decide) rfl ?_; intro a hE
      refine s_move hE goes_none (by decide) rfl ?_; intro a hE
      obtain ⟨x10, e11, hs6⟩ := bind_some hs6
      have hi12 := idx_some e11
      refine s_indexS hE goes_none (by decide) rfl rfl Try.underlying35 ty114 (hM.rd hv0_1) hi12.1 ?_; intro a hE
      refine s_fieldAddr hE goes_none (by decide) rfl (fd114_0) ?_; intro a hE
      obtain ⟨cs13, hs14, hA15⟩ := sl_atRo hv0_1 hi12.2 -- ^
      obtain ⟨u16, u18, rfl, h17, h19⟩ := un_GRecord hs14 -- ^
      refine s_load (v := (vI x10.Number)) hE goes_none (by decide) rfl ty2 rfl (At.cat (pre := []) (seg := [(vI x10.Number)]) (post := [[(vI x10.Version)], Flat.enc x10.Nonce, [u16], [u18], Flat.enc x10.Tag]) (hM.atk hA15 (sl_blk hv0_1 hi12.2)) cl0) ?_; intro a hE
      refine s_move hE goes_none (by decide) rfl ?_; intro a hE
      refine s_int hE goes_none (by decide) rfl rfl rfl ?_; intro a hE
      refine c_fin ?_
      refine c_cond hE rfl ?_ ?_
      · intro hb20
        have hs6 := ite_t hs6 hb20
        refine c_region ?_
        refine s_assign hE goes_none (by decide) rfl ?_; intro a hE
        refine c_fin ?_
        have ht21 := hx7 _ (Option.some.inj hs6).symm
        subst ht21
        have hr := Option.some.inj hF3
        subst hr
        exact wp_ret (r_then (r_inb (r_then (r_then (r_inb (r_then (r_then (k_ret1 hE rfl (res_tmp hE rfl) ⟨_, rfl, rfl, hM.kept⟩))))))))
      · intro hb20
        have hs6 := ite_f hs6 hb20
        refine wp_skip ?_
        refine c_nx ?_
        refine c_region ?_
        refine s_move hE goes_none (by decide) rfl ?_; intro a hE
        refine s_int hE goes_none (by decide) rfl rfl rfl ?_; intro a hE
        refine s_assign hE goes_none (by decide) rfl ?_; intro a hE
        refine c_fin ?_
        refine wp_seq ?_
        refine c_region ?_
        refine s_move hE goes_none (by decide) rfl ?_; intro a hE
        refine s_move hE goes_none (by decide) rfl ?_; intro a hE
        obtain ⟨x22, e23, hs6⟩ := bind_some hs6
        have hi24 := idx_some e23
        refine s_indexS hE goes_none (by decide) rfl rfl Try.underlying35 ty114 (hM.rd hv0_1) hi24.1 ?_; intro a hE
        refine s_fieldAddr hE goes_none (by decide) rfl (fd114_1) ?_; intro a hE
        obtain ⟨cs25, hs26, hA27⟩ := sl_atRo hv0_1 hi24.2 -- ^
        obtain ⟨u28, u30, rfl, h29, h31⟩ := un_GRecord hs26 -- ^
        refine s_load (v := (vI x22.Version)) hE goes_none (by decide) rfl ty2 rfl (At.cat (pre := [[(vI x22.Number)]]) (seg := [(vI x22.Version)]) (post := [Flat.enc x22.Nonce, [u28], [u30], Flat.enc x22.Tag]) (hM.atk hA27 (sl_blk hv0_1 hi24.2)) (cl1 (n := 1) (m := 0) rfl cl0)) ?_; intro a hE
        refine s_move hE goes_none (by decide) rfl ?_; intro a hE
        refine s_int hE goes_none (by decide) rfl rfl rfl ?_; intro a hE
        refine c_fin ?_
        refine c_cond hE rfl ?_ ?_
        · intro hb32
          have hs6 := ite_t hs6 hb32
          refine c_region ?_
          refine s_assign hE goes_none (by decide) rfl ?_; intro a hE
          refine c_fin ?_
          have ht33 := hx7 _ (Option.some.inj hs6).symm
          subst ht33
          have hr := Option.some.inj hF3
          subst hr
          exact wp_ret (r_then (r_inb (r_then (r_then (r_inb (r_then (r_then (k_ret1 hE rfl (res_tmp hE rfl) ⟨_, rfl, rfl, hM.kept⟩))))))))
        · intro hb32
          have hs6 := ite_f hs6 hb32
          refine wp_skip ?_
          refine c_nx ?_
          refine c_region ?_
          refine s_move hE goes_none (by decide) rfl ?_; intro a hE
          refine s_int hE goes_none (by decide) rfl rfl rfl ?_; intro a hE
          refine s_assign hE goes_none (by decide) rfl ?_; intro a hE
          refine c_fin ?_
          refine wp_seq ?_
          refine c_region ?_
          refine s_assign hE goes_none (by decide) rfl ?_; intro a hE
          refine c_fin ?_
          obtain ⟨j34, hl35, hF36⟩ := bind_some hs6
          refine c_cut (fun a w => ∃ s37 : Int, j34 = Fl.nx s37 ∧ Env 83 a [(0, v0_1), (1, (vI s37)), (5, (vI s5.2))] ∧ M (Old w0) w0 w []) ?_ ?_
          · skip
            refine wp_block ?_
            refine c_loop (fun (s38 : Int × Int) a w => Env 83 a [(0, v0_1), (1, (vI s38.1)), (5, (vI s5.2)), (6, (vI s38.2))] ∧ M (Old w0) w0 w []) hl35 ⟨hE.sub ⟨rfl, rfl, rfl, rfl, trivial⟩, hM⟩ ?_
            rintro s38 a w ⟨hE, hM⟩ o41 hs39 hx40
            unfold L1_laws_heldRecordS at hs39
            refine wp_seq ?_
            refine c_region ?_
            refine s_move hE goes_none (by decide) rfl ?_; intro a hE
            refine s_int hE goes_none (by decide) rfl rfl rfl ?_; intro a hE
            refine c_fin ?_
            refine c_cond hE rfl ?_ ?_
            · intro hb42
              have hs39 := ite_t hs39 hb42
              refine wp_skip ?_
              refine c_nx ?_
              refine wp_seq ?_
              refine wp_block ?_
              refine wp_seq ?_
              refine c_region ?_
              refine s_move hE goes_none (by decide) rfl ?_; intro a hE
              refine s_move hE goes_none (by decide) rfl ?_; intro a hE
              refine s_move hE goes_none (by decide) rfl ?_; intro a hE
              obtain ⟨x43, e44, hs39⟩ := bind_some hs39
              have hi45 := idx_some e44
              refine s_indexS hE goes_none (by decide) rfl rfl Try.underlying35 ty114 (hM.rd hv0_1) hi45.1 ?_; intro a hE
              refine s_fieldAddr hE goes_none (by decide) rfl (fd114_2) ?_; intro a hE
              obtain ⟨cs46, hs47, hA48⟩ := sl_atRo hv0_1 hi45.2 -- ^
              obtain ⟨u49, u51, rfl, h50, h52⟩ := un_GRecord hs47 -- ^
              obtain ⟨x54, e55, hs39⟩ := bind_some hs39
              have hi53 := vidx_some e55
              refine s_indexA hE goes_none (by decide) rfl rfl Try.underlying39 ty5 hi53.1 ?_; intro a hE
              refine s_load (v := (vB x54)) hE goes_none (by decide) rfl ty5 rfl (At.vec (At.cat (pre := [[(vI x43.Number)], [(vI x43.Version)]]) (seg := Flat.enc x43.Nonce) (post := [[u49], [u51], Flat.enc x43.Tag]) (hM.atk hA48 (sl_blk hv0_1 hi45.2)) (cl1 (n := 1) (m := 1) rfl (cl1 (n := 1) (m := 0) rfl cl0))) hi53.2) ?_; intro a hE
              refine s_move hE goes_none (by decide) rfl ?_; intro a hE
              refine s_conv hE goes_none (by decide) rfl Try.underlying3 Try.underlying5 ?_; intro a hE
              rw [byteI_val] at hE
              refine s_int hE goes_none (by decide) rfl rfl (bB_neq x54 (byteI s38.1)) ?_; intro a hE
              refine c_fin ?_
              refine c_cond hE rfl ?_ ?_
              · intro hb56
                have hs39 := ite_t hs39 hb56
                refine c_region ?_
                refine s_assign hE goes_none (by decide) rfl ?_; intro a hE
                refine c_fin ?_
                have ht57 := hx40 _ (Option.some.inj hs39).symm
                subst ht57
                have ht58 := hx7 _ (Option.some.inj hF36).symm
                subst ht58
                have hr := Option.some.inj hF3
                subst hr
                exact wp_ret (r_then (r_inb (r_then (r_then (r_inb (r_then (r_then (r_inb (r_then (r_then (r_inb (r_then (r_then (k_ret1 hE rfl (res_tmp hE rfl) ⟨_, rfl, rfl, hM.kept⟩))))))))))))))
              · intro hb56
                have hs39 := ite_f hs39 hb56
                refine wp_skip ?_
                refine c_nx ?_
                refine wp_region_lit ?_
                refine s_move hE goes_none (by decide) rfl ?_; intro a hE
                refine s_int hE goes_none (by decide) rfl rfl rfl ?_; intro a hE
                refine s_assign hE goes_none (by decide) rfl ?_; intro a hE
                refine c_fin0 ?_
                refine c_nb ?_
                refine c_nx ?_
                refine wp_region_lit ?_
                refine s_move hE goes_none (by decide) rfl ?_; intro a hE
                refine s_int hE goes_none (by decide) rfl rfl rfl ?_; intro a hE
                refine s_assign hE goes_none (by decide) rfl ?_; intro a hE
                refine c_fin0 ?_
                refine c_mid ?_
                exact ⟨_, (Option.some.inj hs39).symm, hE.sub ⟨rfl, rfl, rfl, rfl, trivial⟩, hM⟩
            · intro hb42
              have hs39 := ite_f hs39 hb42
              refine wp_exit (e_then (e_then (e_eq ?_)))
              have ht59 := hx40 _ (Option.some.inj hs39).symm
              subst ht59
              refine c_mid ?_
              exact ⟨s38.1, rfl, hE.sub ⟨rfl, rfl, rfl, trivial⟩, hM⟩
          · skip
            rintro a w ⟨s37, ht, hE, hM⟩
            subst ht
            have hF36 := el_nx hF36
            refine c_nx ?_
            refine c_region ?_
            refine s_move hE goes_none (by decide) rfl ?_; intro a hE
            refine s_move hE goes_none (by decide) rfl ?_; intro a hE
            obtain ⟨x60, e61, hF36⟩ := bind_some hF36
            have hi62 := idx_some e61
            refine s_indexS hE goes_none (by decide) rfl rfl Try.underlying35 ty114 (hM.rd hv0_1) hi62.1 ?_; intro a hE
            refine s_fieldAddr hE goes_none (by decide) rfl (fd114_3) ?_; intro a hE
            obtain ⟨cs63, hs64, hA65⟩ := sl_atRo hv0_1 hi62.2 -- ^
            obtain ⟨u66, u68, rfl, h67, h69⟩ := un_GRecord hs64 -- ^
            refine s_load (v := u66) hE goes_none (by decide) rfl ty50 rfl (At.cat (pre := [[(vI x60.Number)], [(vI x60.Version)], Flat.enc x60.Nonce]) (seg := [u66]) (post := [[u68], Flat.enc x60.Tag]) (hM.atk hA65 (sl_blk hv0_1 hi62.2)) (cl1 (n := 1) (m := 17) rfl (cl1 (n := 1) (m := 16) rfl (cl1 (n := 16) (m := 0) (Flat.len _) cl0)))) ?_; intro a hE
            refine s_move hE goes_none (by decide) rfl ?_; intro a hE
            obtain ⟨r70, e71, hF36⟩ := bind_some hF36
            refine s_call (vs := [u66, (vI s37)]) hE goes_none (by decide) rfl cb27 (c_laws_heldByteS _ x60.Label u66 (hM.rdo h67) s37 r70 e71) ?_
            rintro v w a ⟨rfl, hK⟩ hE
            have hM := hM.keep hK
            refine s_assign hE goes_none (by decide) rfl ?_; intro a hE
            refine c_fin ?_
            refine wp_seq ?_
            refine c_region ?_
            refine s_move hE goes_none (by decide) rfl ?_; intro a hE
            refine s_int hE goes_none (by decide) rfl rfl rfl ?_; intro a hE
            refine c_fin ?_
            refine c_cond hE rfl ?_ ?_
            · intro hb72
              have hF36 := ite_t hF36 hb72
              refine c_region ?_
              refine s_assign hE goes_none (by decide) rfl ?_; intro a hE
              refine c_fin ?_
              have ht73 := hx7 _ (Option.some.inj hF36).symm
              subst ht73
              have hr := Option.some.inj hF3
              subst hr
              exact wp_ret (r_then (r_inb (r_then (r_then (r_inb (r_then (r_then (k_ret1 hE rfl (res_tmp hE rfl) ⟨_, rfl, rfl, hM.kept⟩))))))))
            · intro hb72
              have hF36 := ite_f hF36 hb72
              refine wp_skip ?_
              refine c_nx ?_
              refine c_region ?_
              refine s_move hE goes_none (by decide) rfl ?_; intro a hE
              refine s_move hE goes_none (by decide) rfl ?_; intro a hE
              obtain ⟨x74, e75, hF36⟩ := bind_some hF36
              have hi76 := idx_some e75
              refine s_indexS hE goes_none (by decide) rfl rfl Try.underlying35 ty114 (hM.rd hv0_1) hi76.1 ?_; intro a hE
              refine s_fieldAddr hE goes_none (by decide) rfl (fd114_4) ?_; intro a hE
              obtain ⟨cs77, hs78, hA79⟩ := sl_atRo hv0_1 hi76.2 -- ^
              obtain ⟨u80, u82, rfl, h81, h83⟩ := un_GRecord hs78 -- ^
              refine s_load (v := u82) hE goes_none (by decide) rfl ty50 rfl (At.cat (pre := [[(vI x74.Number)], [(vI x74.Version)], Flat.enc x74.Nonce, [u80]]) (seg := [u82]) (post := [Flat.enc x74.Tag]) (hM.atk hA79 (sl_blk hv0_1 hi76.2)) (cl1 (n := 1) (m := 18) rfl (cl1 (n := 1) (m := 17) rfl (cl1 (n := 16) (m := 1) (Flat.len _) (cl1 (n := 1) (m := 0) rfl cl0))))) ?_; intro a hE
              refine s_move hE goes_none (by decide) rfl ?_; intro a hE
              obtain ⟨r84, e85, hF36⟩ := bind_some hF36
              refine s_call (vs := [u82, (vI r70)]) hE goes_none (by decide) rfl cb27 (c_laws_heldByteS _ x74.Body u82 (hM.rdo h83) r70 r84 e85) ?_
              rintro v w a ⟨rfl, hK⟩ hE
              have hM := hM.keep hK
              refine s_assign hE goes_none (by decide) rfl ?_; intro a hE
              refine c_fin ?_
              refine wp_seq ?_
              refine c_region ?_
              refine s_move hE goes_none (by decide) rfl ?_; intro a hE
              refine s_int hE goes_none (by decide) rfl rfl rfl ?_; intro a hE
              refine c_fin ?_
              refine c_cond hE rfl ?_ ?_
              · intro hb86
                have hF36 := ite_t hF36 hb86
                refine c_region ?_
                refine s_assign hE goes_none (by decide) rfl ?_; intro a hE
                refine c_fin ?_
                have ht87 := hx7 _ (Option.some.inj hF36).symm
                subst ht87
                have hr := Option.some.inj hF3
                subst hr
                exact wp_ret (r_then (r_inb (r_then (r_then (r_inb (r_then (r_then (k_ret1 hE rfl (res_tmp hE rfl) ⟨_, rfl, rfl, hM.kept⟩))))))))
              · intro hb86
                have hF36 := ite_f hF36 hb86
                refine wp_skip ?_
                refine c_nx ?_
                refine c_region ?_
                refine s_assign hE goes_none (by decide) rfl ?_; intro a hE
                refine c_fin ?_
                obtain ⟨j88, hl89, hF90⟩ := bind_some hF36
                refine c_cut (fun a w => ∃ s91 : Int, j88 = Fl.nx s91 ∧ Env 83 a [(0, v0_1), (1, (vI s91)), (5, (vI s5.2))] ∧ M (Old w0) w0 w []) ?_ ?_
                · skip
                  refine wp_block ?_
                  refine c_loop (fun (s92 : Int × Int) a w => Env 83 a [(0, v0_1), (1, (vI s92.1)), (5, (vI s5.2)), (7, (vI s92.2))] ∧ M (Old w0) w0 w []) hl89 ⟨hE.sub ⟨rfl, rfl, rfl, rfl, trivial⟩, hM⟩ ?_
                  rintro s92 a w ⟨hE, hM⟩ o95 hs93 hx94
                  unfold L2_laws_heldRecordS at hs93
                  refine wp_seq ?_
                  refine c_region ?_
                  refine s_move hE goes_none (by decide) rfl ?_; intro a hE
                  refine s_int hE goes_none (by decide) rfl rfl rfl ?_; intro a hE
                  refine c_fin ?_
                  refine c_cond hE rfl ?_ ?_
                  · intro hb96
                    have hs93 := ite_t hs93 hb96
                    refine wp_skip ?_
                    refine c_nx ?_
                    refine wp_seq ?_
                    refine wp_block ?_
                    refine wp_seq ?_
                    refine c_region ?_
                    refine s_move hE goes_none (by decide) rfl ?_; intro a hE
                    refine s_move hE goes_none (by decide) rfl ?_; intro a hE
                    refine s_move hE goes_none (by decide) rfl ?_; intro a hE
                    obtain ⟨x97, e98, hs93⟩ := bind_some hs93
                    have hi99 := idx_some e98
                    refine s_indexS hE goes_none (by decide) rfl rfl Try.underlying35 ty114 (hM.rd hv0_1) hi99.1 ?_; intro a hE
                    refine s_fieldAddr hE goes_none (by decide) rfl (fd114_5) ?_; intro a hE
                    obtain ⟨cs100, hs101, hA102⟩ := sl_atRo hv0_1 hi99.2 -- ^
                    obtain ⟨u103, u105, rfl, h104, h106⟩ := un_GRecord hs101 -- ^
                    obtain ⟨x108, e109, hs93⟩ := bind_some hs93
                    have hi107 := vidx_some e109
                    refine s_indexA hE goes_none (by decide) rfl rfl Try.underlying25 ty5 hi107.1 ?_; intro a hE
                    refine s_load (v := (vB x108)) hE goes_none (by decide) rfl ty5 rfl (At.vec (At.cat (pre := [[(vI x97.Number)], [(vI x97.Version)], Flat.enc x97.Nonce, [u103], [u105]]) (seg := Flat.enc x97.Tag) (post := []) (hM.atk hA102 (sl_blk hv0_1 hi99.2)) (cl1 (n := 1) (m := 19) rfl (cl1 (n := 1) (m := 18) rfl (cl1 (n := 16) (m := 2) (Flat.len _) (cl1 (n := 1) (m := 1) rfl (cl1 (n := 1) (m := 0) rfl cl0)))))) hi107.2) ?_; intro a hE
                    refine s_move hE goes_none (by decide) rfl ?_; intro a hE
                    refine s_conv hE goes_none (by decide) rfl Try.underlying3 Try.underlying5 ?_; intro a hE
                    rw [byteI_val] at hE
                    refine s_int hE goes_none (by decide) rfl rfl (bB_neq x108 (byteI s92.1)) ?_; intro a hE
                    refine c_fin ?_
                    refine c_cond hE rfl ?_ ?_
                    · intro hb110
                      have hs93 := ite_t hs93 hb110
                      refine c_region ?_
                      refine s_assign hE goes_none (by decide) rfl ?_; intro a hE
                      refine c_fin ?_
                      have ht111 := hx94 _ (Option.some.inj hs93).symm
                      subst ht111
                      have ht112 := hx7 _ (Option.some.inj hF90).symm
                      subst ht112
                      have hr := Option.some.inj hF3
                      subst hr
                      exact wp_ret (r_then (r_inb (r_then (r_then (r_inb (r_then (r_inb (r_then (r_then (r_inb (r_then (r_then (k_ret1 hE rfl (res_tmp hE rfl) ⟨_, rfl, rfl, hM.kept⟩)))))))))))))
                    · intro hb110
                      have hs93 := ite_f hs93 hb110
                      refine wp_skip ?_
                      refine c_nx ?_
                      refine wp_region_lit ?_
                      refine s_move hE goes_none (by decide) rfl ?_; intro a hE
                      refine s_int hE goes_none (by decide) rfl rfl rfl ?_; intro a hE
                      refine s_assign hE goes_none (by decide) rfl ?_; intro a hE
                      refine c_fin0 ?_
                      refine c_nb ?_
                      refine c_nx ?_
                      refine wp_region_lit ?_
                      refine s_move hE goes_none (by decide) rfl ?_; intro a hE
                      refine s_int hE goes_none (by decide) rfl rfl rfl ?_; intro a hE
                      refine s_assign hE goes_none (by decide) rfl ?_; intro a hE
                      refine c_fin0 ?_
                      refine c_mid ?_
                      exact ⟨_, (Option.some.inj hs93).symm, hE.sub ⟨rfl, rfl, rfl, rfl, trivial⟩, hM⟩
                  · intro hb96
                    have hs93 := ite_f hs93 hb96
                    refine wp_exit (e_then (e_then (e_eq ?_)))
                    have ht113 := hx94 _ (Option.some.inj hs93).symm
                    subst ht113
                    refine c_mid ?_
                    exact ⟨s92.1, rfl, hE.sub ⟨rfl, rfl, rfl, trivial⟩, hM⟩
                · skip
                  rintro a w ⟨s91, ht, hE, hM⟩
                  subst ht
                  have hF90 := el_nx hF90
                  refine c_nb ?_
                  refine c_nx ?_
                  refine wp_region_lit ?_
                  refine s_move hE goes_none (by decide) rfl ?_; intro a hE
                  refine s_int hE goes_none (by decide) rfl rfl rfl ?_; intro a hE
                  refine s_assign hE goes_none (by decide) rfl ?_; intro a hE
                  refine c_fin0 ?_
                  refine c_mid ?_
                  exact ⟨_, (Option.some.inj hF90).symm, hE.sub ⟨rfl, rfl, rfl, trivial⟩, hM⟩
    · intro hb9
      have hs6 := ite_f hs6 hb9
      refine wp_exit (e_then (e_then (e_eq ?_)))
      have ht114 := hx7 _ (Option.some.inj hs6).symm
      subst ht114
      refine c_mid ?_
      exact ⟨s5.1, rfl, hE.sub ⟨rfl, trivial⟩, hM⟩
  · skip
    rintro a w ⟨s4, ht, hE, hM⟩
    subst ht
    have hF3 := el_nx hF3
    refine c_nx ?_
    refine c_region ?_
    refine s_move hE goes_none (by decide) rfl ?_; intro a hE
    refine s_assign hE goes_none (by decide) rfl ?_; intro a hE
    refine c_fin ?_
    have hr := Option.some.inj hF3
    subst hr
    exact wp_ret (k_ret1 hE rfl (res_tmp hE rfl) ⟨_, rfl, rfl, hM.kept⟩)
noncomputable def L1_laws_heldEventS (p0 : (List GEvent)) (s5 : Int × Int) (s24 : Int × Int) : Option (Fl (Int × Int) (Fl Int Int)) :=
  if (decide (s24.2 < 32)) = true then ((idx p0 s5.2).bind fun (x29 : GEvent) => (vidx x29.Tag s24.2).bind fun (x33 : UInt8) => if (x33 != (byteI s24.1)) = true then (some (Fl.ex (Fl.ex (-1)))) else (some (Fl.nx (wr (s24.1 + 1), wr (s24.2 + 1))))) else (some (Fl.ex (Fl.nx s24.1)))
noncomputable def L0_laws_heldEventS (p0 : (List GEvent)) (s5 : Int × Int) : Option (Fl (Int × Int) (Fl Int Int)) :=
  if (decide (s5.2 < (p0.length : Int))) = true then ((idx p0 s5.2).bind fun (x10 : GEvent) => if (x10.Kind != s5.1) = true then (some (Fl.ex (Fl.ex (-1)))) else ((idx p0 s5.2).bind fun (x15 : GEvent) => if (x15.Number != (wr (s5.1 + 1))) = true then (some (Fl.ex (Fl.ex (-1)))) else ((iter (L1_laws_heldEventS p0 s5) (wr ((wr (s5.1 + 1)) + 1), 0) : Option (Fl Int Int)).bind fun (j20 : Fl Int Int) => j20.el (fun (s23 : Int) => some (Fl.nx (s23, wr (s5.2 + 1)))) (fun r => some (Fl.ex (Fl.ex r)))))) else (some (Fl.ex (Fl.nx s5.1)))
noncomputable def F_laws_heldEventS (p0 : (List GEvent)) (p1 : Int) : Option (Int) :=
  (iter (L0_laws_heldEventS p0) (p1, 0) : Option (Fl Int Int)).bind fun (j1 : Fl Int Int) => j1.el (fun (s4 : Int) => some s4) (fun r => some r)
set_option maxRecDepth 20000 in
set_option maxHeartbeats 400000 in
theorem c_laws_heldEventS (w0 : World) (p0 : (List GEvent)) (v0_1 : Value) (hv0_1 : Ro w0 p0 [v0_1]) (p1 : Int) (r : Int) (hF : F_laws_heldEventS p0 p1 = some r) :
    Calls Try.prog 44 [v0_1, (vI p1)].toArray w0 (fun en w' => ∃ v, en = .returned v ∧ (v = (vI r) ∧ Kept (Old w0) w0 w')) := by
  refine c_enter (n := 48) Try.func44 rfl rfl (Nat.le_of_ble_eq_true rfl) rfl ?_
  intro a hE
  have hM := M.start w0
  unfold F_laws_heldEventS at hF
  refine c_region ?_
  refine s_assign hE goes_none (by decide) rfl ?_; intro a hE
  refine c_fin ?_
  refine wp_seq ?_
  refine c_region ?_
  refine s_assign hE goes_none (by decide) rfl ?_; intro a hE
  refine c_fin ?_
  obtain ⟨j1, hl2, hF3⟩ := bind_some hF
  refine c_cut (fun a w => ∃ s4 : Int, j1 = Fl.nx s4 ∧ Env 48 a [(1, (vI s4))] ∧ M (Old w0) w0 w []) ?_ ?_
  · skip
    refine wp_block ?_
    refine c_loop (fun (s5 : Int × Int) a w => Env 48 a [(0, v0_1), (1, (vI s5.1)), (5, (vI s5.2))] ∧ M (Old w0) w0 w []) hl2 ⟨hE.sub ⟨rfl, rfl, rfl, trivial⟩, hM⟩ ?_
    rintro s5 a w ⟨hE, hM⟩ o8 hs6 hx7
    unfold L0_laws_heldEventS at hs6
    refine wp_seq ?_
    refine c_region ?_
    refine s_move hE goes_none (by decide) rfl ?_; intro a hE
    refine s_move hE goes_none (by decide) rfl ?_; intro a hE
    refine s_len hE goes_none (by decide) rfl Try.underlying28 (hM.rd hv0_1) ?_; intro a hE
    refine s_int hE goes_none (by decide) rfl rfl rfl ?_; intro a hE
    refine c_fin ?_
    refine c_cond hE rfl ?_ ?_
    · intro hb9
      have hs6 := ite_t hs6 hb9
      refine wp_skip ?_
      refine c_nx ?_
      refine wp_seq ?_
      refine wp_block ?_
      refine wp_seq ?_
      refine c_region ?_
      refine s_move hE goes_none (by decide) rfl ?_; intro a hE
      refine s_move hE goes_none (by decide) rfl ?_; intro a hE
      obtain ⟨x10, e11, hs6⟩ := bind_some hs6
      have hi12 := idx_some e11
      refine s_indexS hE goes_none (by decide) rfl rfl Try.underlying28 ty65 (hM.rd hv0_1) hi12.1 ?_; intro a hE
      refine s_fieldAddr hE goes_none (by decide) rfl (fd65_0) ?_; intro a hE
      refine s_load (v := (vI x10.Kind)) hE goes_none (by decide) rfl ty2 rfl (At.cat (pre := []) (seg := [(vI x10.Kind)]) (post := [[(vI x10.Number)], Flat.enc x10.Tag]) (sl_atF (hM.rd hv0_1) hi12.2) cl0) ?_; intro a hE
      refine s_move hE goes_none (by decide) rfl ?_; intro a hE
      refine s_int hE goes_none (by decide) rfl rfl rfl ?_; intro a hE
      refine c_fin ?_
      refine c_cond hE rfl ?_ ?_
      · intro hb13
        have hs6 := ite_t hs6 hb13
        refine c_region ?_
        refine s_assign hE goes_none (by decide) rfl ?_; intro a hE
        refine c_fin ?_
        have ht14 := hx7 _ (Option.some.inj hs6).symm
        subst ht14
        have hr := Option.some.inj hF3
        subst hr
        exact wp_ret (r_then (r_inb (r_then (r_then (r_inb (r_then (r_then (k_ret1 hE rfl (res_tmp hE rfl) ⟨_, rfl, rfl, hM.kept⟩))))))))
      · intro hb13
        have hs6 := ite_f hs6 hb13
        refine wp_skip ?_
        refine c_nx ?_
        refine c_region ?_
        refine s_move hE goes_none (by decide) rfl ?_; intro a hE
        refine s_int hE goes_none (by decide) rfl rfl rfl ?_; intro a hE
        refine s_assign hE goes_none (by decide) rfl ?_; intro a hE
        refine c_fin ?_
        refine wp_seq ?_
        refine c_region ?_
        refine s_move hE goes_none (by decide) rfl ?_; intro a hE
        refine s_move hE goes_none (by decide) rfl ?_; intro a hE
        obtain ⟨x15, e16, hs6⟩ := bind_some hs6
        have hi17 := idx_some e16
        refine s_indexS hE goes_none (by decide) rfl rfl Try.underlying28 ty65 (hM.rd hv0_1) hi17.1 ?_; intro a hE
        refine s_fieldAddr hE goes_none (by decide) rfl (fd65_1) ?_; intro a hE
        refine s_load (v := (vI x15.Number)) hE goes_none (by decide) rfl ty2 rfl (At.cat (pre := [[(vI x15.Kind)]]) (seg := [(vI x15.Number)]) (post := [Flat.enc x15.Tag]) (sl_atF (hM.rd hv0_1) hi17.2) (cl1 (n := 1) (m := 0) rfl cl0)) ?_; intro a hE
        refine s_move hE goes_none (by decide) rfl ?_; intro a hE
        refine s_int hE goes_none (by decide) rfl rfl rfl ?_; intro a hE
        refine c_fin ?_
        refine c_cond hE rfl ?_ ?_
        · intro hb18
          have hs6 := ite_t hs6 hb18
          refine c_region ?_
          refine s_assign hE goes_none (by decide) rfl ?_; intro a hE
          refine c_fin ?_
          have ht19 := hx7 _ (Option.some.inj hs6).symm
          subst ht19
          have hr := Option.some.inj hF3
          subst hr
          exact wp_ret (r_then (r_inb (r_then (r_then (r_inb (r_then (r_then (k_ret1 hE rfl (res_tmp hE rfl) ⟨_, rfl, rfl, hM.kept⟩))))))))
        · intro hb18
          have hs6 := ite_f hs6 hb18
          refine wp_skip ?_
          refine c_nx ?_
          refine c_region ?_
          refine s_move hE goes_none (by decide) rfl ?_; intro a hE
          refine s_int hE goes_none (by decide) rfl rfl rfl ?_; intro a hE
          refine s_assign hE goes_none (by decide) rfl ?_; intro a hE
          refine c_fin ?_
          refine c_region ?_
          refine s_assign hE goes_none (by decide) rfl ?_; intro a hE
          refine c_fin ?_
          obtain ⟨j20, hl21, hF22⟩ := bind_some hs6
          refine c_cut (fun a w => ∃ s23 : Int, j20 = Fl.nx s23 ∧ Env 48 a [(0, v0_1), (1, (vI s23)), (5, (vI s5.2))] ∧ M (Old w0) w0 w []) ?_ ?_
          · skip
            refine wp_block ?_
            refine c_loop (fun (s24 : Int × Int) a w => Env 48 a [(0, v0_1), (1, (vI s24.1)), (5, (vI s5.2)), (6, (vI s24.2))] ∧ M (Old w0) w0 w []) hl21 ⟨hE.sub ⟨rfl, rfl, rfl, rfl, trivial⟩, hM⟩ ?_
            rintro s24 a w ⟨hE, hM⟩ o27 hs25 hx26
            unfold L1_laws_heldEventS at hs25
            refine wp_seq ?_
            refine c_region ?_
            refine s_move hE goes_none (by decide) rfl ?_; intro a hE
            refine s_int hE goes_none (by decide) rfl rfl rfl ?_; intro a hE
            refine c_fin ?_
            refine c_cond hE rfl ?_ ?_
            · intro hb28
              have hs25 := ite_t hs25 hb28
              refine wp_skip ?_
              refine c_nx ?_
              refine wp_seq ?_
              refine wp_block ?_
              refine wp_seq ?_
              refine c_region ?_
              refine s_move hE goes_none (by decide) rfl ?_; intro a hE
              refine s_move hE goes_none (by decide) rfl ?_; intro a hE
              refine s_move hE goes_none (by decide) rfl ?_; intro a hE
              obtain ⟨x29, e30, hs25⟩ := bind_some hs25
              have hi31 := idx_some e30
              refine s_indexS hE goes_none (by decide) rfl rfl Try.underlying28 ty65 (hM.rd hv0_1) hi31.1 ?_; intro a hE
              refine s_fieldAddr hE goes_none (by decide) rfl (fd65_2) ?_; intro a hE
              obtain ⟨x33, e34, hs25⟩ := bind_some hs25
              have hi32 := vidx_some e34
              refine s_indexA hE goes_none (by decide) rfl rfl Try.underlying25 ty5 hi32.1 ?_; intro a hE
              refine s_load (v := (vB x33)) hE goes_none (by decide) rfl ty5 rfl (At.vec (At.cat (pre := [[(vI x29.Kind)], [(vI x29.Number)]]) (seg := Flat.enc x29.Tag) (post := []) (sl_atF (hM.rd hv0_1) hi31.2) (cl1 (n := 1) (m := 1) rfl (cl1 (n := 1) (m := 0) rfl cl0))) hi32.2) ?_; intro a hE
              refine s_move hE goes_none (by decide) rfl ?_; intro a hE
              refine s_conv hE goes_none (by decide) rfl Try.underlying3 Try.underlying5 ?_; intro a hE
              rw [byteI_val] at hE
              refine s_int hE goes_none (by decide) rfl rfl (bB_neq x33 (byteI s24.1)) ?_; intro a hE
              refine c_fin ?_
              refine c_cond hE rfl ?_ ?_
              · intro hb35
                have hs25 := ite_t hs25 hb35
                refine c_region ?_
                refine s_assign hE goes_none (by decide) rfl ?_; intro a hE
                refine c_fin ?_
                have ht36 := hx26 _ (Option.some.inj hs25).symm
                subst ht36
                have ht37 := hx7 _ (Option.some.inj hF22).symm
                subst ht37
                have hr := Option.some.inj hF3
                subst hr
                exact wp_ret (r_then (r_inb (r_then (r_then (r_inb (r_then (r_inb (r_then (r_then (r_inb (r_then (r_then (k_ret1 hE rfl (res_tmp hE rfl) ⟨_, rfl, rfl, hM.kept⟩)))))))))))))
              · intro hb35
                have hs25 := ite_f hs25 hb35
                refine wp_skip ?_
                refine c_nx ?_
                refine wp_region_lit ?_
                refine s_move hE goes_none (by decide) rfl ?_; intro a hE
                refine s_int hE goes_none (by decide) rfl rfl rfl ?_; intro a hE
                refine s_assign hE goes_none (by decide) rfl ?_; intro a hE
                refine c_fin0 ?_
                refine c_nb ?_
                refine c_nx ?_
                refine wp_region_lit ?_
                refine s_move hE goes_none (by decide) rfl ?_; intro a hE
                refine s_int hE goes_none (by decide) rfl rfl rfl ?_; intro a hE
                refine s_assign hE goes_none (by decide) rfl ?_; intro a hE
                refine c_fin0 ?_
                refine c_mid ?_
                exact ⟨_, (Option.some.inj hs25).symm, hE.sub ⟨rfl, rfl, rfl, rfl, trivial⟩, hM⟩
            · intro hb28
              have hs25 := ite_f hs25 hb28
              refine wp_exit (e_then (e_then (e_eq ?_)))
              have ht38 := hx26 _ (Option.some.inj hs25).symm
              subst ht38
              refine c_mid ?_
              exact ⟨s24.1, rfl, hE.sub ⟨rfl, rfl, rfl, trivial⟩, hM⟩
          · skip
            rintro a w ⟨s23, ht, hE, hM⟩
            subst ht
            have hF22 := el_nx hF22
            refine c_nb ?_
            refine c_nx ?_
            refine wp_region_lit ?_
            refine s_move hE goes_none (by decide) rfl ?_; intro a hE
            refine s_int hE goes_none (by decide) rfl rfl rfl ?_; intro a hE
            refine s_assign hE goes_none (by decide) rfl ?_; intro a hE
            refine c_fin0 ?_
            refine c_mid ?_
            exact ⟨_, (Option.some.inj hF22).symm, hE.sub ⟨rfl, rfl, rfl, trivial⟩, hM⟩
    · intro hb9
      have hs6 := ite_f hs6 hb9
      refine wp_exit (e_then (e_then (e_eq ?_)))
      have ht39 := hx7 _ (Option.some.inj hs6).symm
      subst ht39
      refine c_mid ?_
      exact ⟨s5.1, rfl, hE.sub ⟨rfl, trivial⟩, hM⟩
  · skip
    rintro a w ⟨s4, ht, hE, hM⟩
    subst ht
    have hF3 := el_nx hF3
    refine c_nx ?_
    refine c_region ?_
    refine s_move hE goes_none (by decide) rfl ?_; intro a hE
    refine s_assign hE goes_none (by decide) rfl ?_; intro a hE
    refine c_fin ?_
    have hr := Option.some.inj hF3
    subst hr
    exact wp_ret (k_ret1 hE rfl (res_tmp hE rfl) ⟨_, rfl, rfl, hM.kept⟩)
noncomputable def F_laws_heldVault (p0 : GVault) (p1 : Int) : Option (Int) :=
  (F_laws_heldBlockS p0.Keys p1).bind fun (r3 : Int) => if (decide (r3 < 0)) = true then (some (-1)) else ((F_laws_heldRecordS p0.Records r3).bind fun (r6 : Int) => if (decide (r6 < 0)) = true then (some (-1)) else ((F_laws_heldEventS p0.Events r6).bind fun (r9 : Int) => if (decide (r9 < 0)) = true then (some (-1)) else (some r9)))
set_option maxRecDepth 20000 in
set_option maxHeartbeats 400000 in
theorem c_laws_heldVault (w0 : World) (p0 : GVault) (v0_1 : Value) (hv0_1 : Ro w0 p0.Keys [v0_1]) (v0_2 : Value) (hv0_2 : Ro w0 p0.Records [v0_2]) (v0_3 : Value) (hv0_3 : Ro w0 p0.Events [v0_3]) (p1 : Int) (r : Int) (hF : F_laws_heldVault p0 p1 = some r) :
    Calls Try.prog 17 [(Value.agg (cat [[v0_1], [(vI p0.Next)], [v0_2], [v0_3], Flat.enc p0.Head]).toArray), (vI p1)].toArray w0 (fun en w' => ∃ v, en = .returned v ∧ (v = (vI r) ∧ Kept (Old w0) w0 w')) := by
  refine c_enter (n := 24) Try.func17 rfl rfl (Nat.le_of_ble_eq_true rfl) rfl ?_
  intro a hE
  have hM := M.start w0
  unfold F_laws_heldVault at hF
  refine c_region ?_
  refine s_box (cs := cat [[v0_1], [(vI p0.Next)], [v0_2], [v0_3], Flat.enc p0.Head]) hE hM goes_none (by decide) rfl rfl ?_; intro b1 w a hM hE
  refine s_assign hE goes_none (by decide) rfl ?_; intro a hE
  refine c_fin ?_
  refine c_region ?_
  refine s_fieldAddr hE goes_none (by decide) rfl (fd37_0) ?_; intro a hE
  refine s_load (v := v0_1) hE goes_none (by decide) rfl ty34 rfl (At.cat (pre := []) (seg := [v0_1]) (post := [[(vI p0.Next)], [v0_2], [v0_3], Flat.enc p0.Head]) (hM.rawAt (pre := [])) cl0) ?_; intro a hE
  refine s_move hE goes_none (by decide) rfl ?_; intro a hE
  obtain ⟨r3, e4, hF⟩ := bind_some hF
  refine s_call (vs := [v0_1, (vI p1)]) hE goes_none (by decide) rfl cb42 (c_laws_heldBlockS _ p0.Keys v0_1 (hM.rdo hv0_1) p1 r3 e4) ?_
  rintro v w a ⟨rfl, hK⟩ hE
  have hM := hM.keep hK
  refine s_assign hE goes_none (by decide) rfl ?_; intro a hE
  refine c_fin ?_
  refine wp_seq ?_
  refine c_region ?_
  refine s_move hE goes_none (by decide) rfl ?_; intro a hE
  refine s_int hE goes_none (by decide) rfl rfl rfl ?_; intro a hE
  refine c_fin ?_
  refine c_cond hE rfl ?_ ?_
  · intro hb5
    have hF := ite_t hF hb5
    refine c_region ?_
    refine s_assign hE goes_none (by decide) rfl ?_; intro a hE
    refine c_fin ?_
    have hr := Option.some.inj hF
    subst hr
    have hM := M.fst (l := []) hM
    exact wp_ret (r_then (k_ret1 hE rfl (res_tmp hE rfl) ⟨_, rfl, rfl, hM.kept⟩))
  · intro hb5
    have hF := ite_f hF hb5
    refine wp_skip ?_
    refine c_nx ?_
    refine c_region ?_
    refine s_fieldAddr hE goes_none (by decide) rfl (fd37_2) ?_; intro a hE
    refine s_load (v := v0_2) hE goes_none (by decide) rfl ty35 rfl (At.cat (pre := [[v0_1], [(vI p0.Next)]]) (seg := [v0_2]) (post := [[v0_3], Flat.enc p0.Head]) (hM.rawAt (pre := [])) (cl1 (n := 1) (m := 1) rfl (cl1 (n := 1) (m := 0) rfl cl0))) ?_; intro a hE
    refine s_move hE goes_none (by decide) rfl ?_; intro a hE
    obtain ⟨r6, e7, hF⟩ := bind_some hF
    refine s_call (vs := [v0_2, (vI r3)]) hE goes_none (by decide) rfl cb43 (c_laws_heldRecordS _ p0.Records v0_2 (hM.rdo hv0_2) r3 r6 e7) ?_
    rintro v w a ⟨rfl, hK⟩ hE
    have hM := hM.keep hK
    refine s_assign hE goes_none (by decide) rfl ?_; intro a hE
    refine c_fin ?_
    refine wp_seq ?_
    refine c_region ?_
    refine s_move hE goes_none (by decide) rfl ?_; intro a hE
    refine s_int hE goes_none (by decide) rfl rfl rfl ?_; intro a hE
    refine c_fin ?_
    refine c_cond hE rfl ?_ ?_
    · intro hb8
      have hF := ite_t hF hb8
      refine c_region ?_
      refine s_assign hE goes_none (by decide) rfl ?_; intro a hE
      refine c_fin ?_
      have hr := Option.some.inj hF
      subst hr
      have hM := M.fst (l := []) hM
      exact wp_ret (r_then (k_ret1 hE rfl (res_tmp hE rfl) ⟨_, rfl, rfl, hM.kept⟩))
    · intro hb8
      have hF := ite_f hF hb8
      refine wp_skip ?_
      refine c_nx ?_
      refine c_region ?_
      refine s_fieldAddr hE goes_none (by decide) rfl (fd37_3) ?_; intro a hE
      refine s_load (v := v0_3) hE goes_none (by decide) rfl ty28 rfl (At.cat (pre := [[v0_1], [(vI p0.Next)], [v0_2]]) (seg := [v0_3]) (post := [Flat.enc p0.Head]) (hM.rawAt (pre := [])) (cl1 (n := 1) (m := 2) rfl (cl1 (n := 1) (m := 1) rfl (cl1 (n := 1) (m := 0) rfl cl0)))) ?_; intro a hE
      refine s_move hE goes_none (by decide) rfl ?_; intro a hE
      obtain ⟨r9, e10, hF⟩ := bind_some hF
      refine s_call (vs := [v0_3, (vI r6)]) hE goes_none (by decide) rfl cb44 (c_laws_heldEventS _ p0.Events v0_3 (hM.rdo hv0_3) r6 r9 e10) ?_
      rintro v w a ⟨rfl, hK⟩ hE
      have hM := hM.keep hK
      refine s_assign hE goes_none (by decide) rfl ?_; intro a hE
      refine c_fin ?_
      refine wp_seq ?_
      refine c_region ?_
      refine s_move hE goes_none (by decide) rfl ?_; intro a hE
      refine s_int hE goes_none (by decide) rfl rfl rfl ?_; intro a hE
      refine c_fin ?_
      refine c_cond hE rfl ?_ ?_
      · intro hb11
        have hF := ite_t hF hb11
        refine c_region ?_
        refine s_assign hE goes_none (by decide) rfl ?_; intro a hE
        refine c_fin ?_
        have hr := Option.some.inj hF
        subst hr
        have hM := M.fst (l := []) hM
        exact wp_ret (r_then (k_ret1 hE rfl (res_tmp hE rfl) ⟨_, rfl, rfl, hM.kept⟩))
      · intro hb11
        have hF := ite_f hF hb11
        refine wp_skip ?_
        refine c_nx ?_
        refine c_region ?_
        refine s_move hE goes_none (by decide) rfl ?_; intro a hE
        refine s_assign hE goes_none (by decide) rfl ?_; intro a hE
        refine c_fin ?_
        have hr := Option.some.inj hF
        subst hr
        have hM := M.fst (l := []) hM
        exact wp_ret (k_ret1 hE rfl (res_tmp hE rfl) ⟨_, rfl, rfl, hM.kept⟩)
noncomputable def F_laws_FnExactNewVault (p0 : (Vector UInt8 16)) : Option (Bool) :=
  (F_laws_toBlock p0).bind fun (r3 : (Vector UInt8 16)) => (F_spec_NewVault r3).bind fun (r5 : GVault) => (F_laws_toBlock p0).bind fun (r12 : (Vector UInt8 16)) => (F_impl_NewVault r12).bind fun (r14 : GVault) => (F_laws_eqVault r14 r5).bind fun (r21 : Bool) => if (!r21) = true then (some false) else ((F_laws_markVault r14 1).bind fun (r24 : GVault × Int) => (F_laws_heldVault (⟨r24.1.Keys, r14.Next, r24.1.Records, r24.1.Events, r14.Head⟩ : GVault) 1).bind fun (r26 : Int) => if (decide (r26 < 0)) = true then (some false) else (if (r26 != r24.2) = true then (some false) else ((F_laws_toBlock p0).bind fun (r30 : (Vector UInt8 16)) => (F_impl_NewVault r30).bind fun (r32 : GVault) => (F_laws_eqVault r32 r5).bind fun (r39 : Bool) => if (!r39) = true then (some false) else ((F_laws_heldVault (⟨r24.1.Keys, r14.Next, r24.1.Records, r24.1.Events, r14.Head⟩ : GVault) 1).bind fun (r42 : Int) => if (decide (r42 < 0)) = true then (some false) else (if (r42 != r24.2) = true then (some false) else (some true))))))
set_option maxRecDepth 20000 in
set_option maxHeartbeats 400000 in
theorem c_laws_FnExactNewVault (w0 : World) (p0 : (Vector UInt8 16)) (r : Bool) (hF : F_laws_FnExactNewVault p0 = some r) :
    Calls Try.prog 4 [(Value.agg (Flat.enc p0).toArray)].toArray w0 (fun en w' => ∃ v, en = .returned v ∧ (v = (vT r) ∧ Kept (Old w0) w0 w')) := by
  refine c_enter (n := 44) Try.func4 rfl rfl (Nat.le_of_ble_eq_true rfl) rfl ?_
  intro a hE
  have hM := M.start w0
  unfold F_laws_FnExactNewVault at hF
  refine c_region ?_
  refine s_box (cs := Flat.enc p0) hE hM goes_none (by decide) rfl rfl ?_; intro b1 w a hM hE
  refine s_assign hE goes_none (by decide) rfl ?_; intro a hE
  refine c_fin ?_
  refine c_region ?_
  refine s_loadA (cs := Flat.enc p0) hE goes_none (by decide) rfl ty33 rfl (hM.rawAt (pre := [])) (Flat.len _) ?_; intro a hE
  obtain ⟨r3, e4, hF⟩ := bind_some hF
  refine s_call (vs := [(Value.agg (Flat.enc p0).toArray)]) hE goes_none (by decide) rfl cb13 (c_laws_toBlock _ p0 r3 e4) ?_
  rintro v w a ⟨rfl, hK⟩ hE
  have hM := hM.keep hK
  obtain ⟨r5, e6, hF⟩ := bind_some hF
  refine s_call (vs := [(Value.agg (Flat.enc r3).toArray)]) hE goes_none (by decide) rfl cb12 (c_spec_NewVault _ r3 r5 e6) ?_
  rintro v w a ⟨u7, u8, u9, rfl, hFr, hK⟩ hE
  have hM := hM.add hK hFr
  refine s_alloc hE hM goes_none (by decide) ty37 ?_; intro b10 w a hM hE
  refine s_store (seg := cat [[u7], [(vI r5.Next)], [u8], [u9], Flat.enc r5.Head]) (cs' := cat [[u7], [(vI r5.Next)], [u8], [u9], Flat.enc r5.Head]) hE hM goes_none rfl rfl rfl ty37 (cat_len (cl1 (n := 1) (m := 35) rfl (cl1 (n := 1) (m := 34) rfl (cl1 (n := 1) (m := 33) rfl (cl1 (n := 1) (m := 32) rfl (cl1 (n := 32) (m := 0) (Flat.len _) cl0)))))) (Nat.le_of_eq ((Nat.zero_add _).trans (Eq.trans (cat_len (cl1 (n := 1) (m := 35) rfl (cl1 (n := 1) (m := 34) rfl (cl1 (n := 1) (m := 33) rfl (cl1 (n := 1) (m := 32) rfl (cl1 (n := 32) (m := 0) (Flat.len _) cl0)))))) (Eq.symm (cat_len (cl1 (n := 1) (m := 35) rfl (cl1 (n := 1) (m := 34) rfl (cl1 (n := 1) (m := 33) rfl (cl1 (n := 1) (m := 32) rfl (cl1 (n := 32) (m := 0) (Flat.len _) cl0)))))))))) (cat_cell (cc1 (Rep.cell (hM.sl (pre := [_]) noB)) (cc1 (Flat.cell (r5.Next : Int)) (cc1 (Rep.cell (hM.sl (pre := [_, _]) noB)) (cc1 (Rep.cell (hM.sl (pre := [_, _, _]) noB)) (cc1 (Flat.cell _) cc0)))))) (splice_all (Eq.trans (cat_len (cl1 (n := 1) (m := 35) rfl (cl1 (n := 1) (m := 34) rfl (cl1 (n := 1) (m := 33) rfl (cl1 (n := 1) (m := 32) rfl (cl1 (n := 32) (m := 0) (Flat.len _) cl0)))))) (Eq.symm (cat_len (cl1 (n := 1) (m := 35) rfl (cl1 (n := 1) (m := 34) rfl (cl1 (n := 1) (m := 33) rfl (cl1 (n := 1) (m := 32) rfl (cl1 (n := 32) (m := 0) (Flat.len _) cl0))))))))) ?_; intro w a hM hE
  refine c_fin ?_
  refine c_region ?_
  refine s_loadA (cs := Flat.enc p0) hE goes_none (by decide) rfl ty33 rfl (hM.rawAt (pre := [_, _, _, _])) (Flat.len _) ?_; intro a hE
  obtain ⟨r12, e13, hF⟩ := bind_some hF
  refine s_call (vs := [(Value.agg (Flat.enc p0).toArray)]) hE goes_none (by decide) rfl cb13 (c_laws_toBlock _ p0 r12 e13) ?_
  rintro v w a ⟨rfl, hK⟩ hE
  have hM := hM.keep hK
  obtain ⟨r14, e15, hF⟩ := bind_some hF
  refine s_call (vs := [(Value.agg (Flat.enc r12).toArray)]) hE goes_none (by decide) rfl cb14 (c_impl_NewVault _ r12 r14 e15) ?_
  rintro v w a ⟨u16, u17, u18, rfl, hFr, hK⟩ hE
  have hM := hM.add hK hFr
  refine s_alloc hE hM goes_none (by decide) ty37 ?_; intro b19 w a hM hE
  refine s_store (seg := cat [[u16], [(vI r14.Next)], [u17], [u18], Flat.enc r14.Head]) (cs' := cat [[u16], [(vI r14.Next)], [u17], [u18], Flat.enc r14.Head]) hE hM goes_none rfl rfl rfl ty37 (cat_len (cl1 (n := 1) (m := 35) rfl (cl1 (n := 1) (m := 34) rfl (cl1 (n := 1) (m := 33) rfl (cl1 (n := 1) (m := 32) rfl (cl1 (n := 32) (m := 0) (Flat.len _) cl0)))))) (Nat.le_of_eq ((Nat.zero_add _).trans (Eq.trans (cat_len (cl1 (n := 1) (m := 35) rfl (cl1 (n := 1) (m := 34) rfl (cl1 (n := 1) (m := 33) rfl (cl1 (n := 1) (m := 32) rfl (cl1 (n := 32) (m := 0) (Flat.len _) cl0)))))) (Eq.symm (cat_len (cl1 (n := 1) (m := 35) rfl (cl1 (n := 1) (m := 34) rfl (cl1 (n := 1) (m := 33) rfl (cl1 (n := 1) (m := 32) rfl (cl1 (n := 32) (m := 0) (Flat.len _) cl0)))))))))) (cat_cell (cc1 (Rep.cell (hM.sl (pre := [_]) noB)) (cc1 (Flat.cell (r14.Next : Int)) (cc1 (Rep.cell (hM.sl (pre := [_, _]) noB)) (cc1 (Rep.cell (hM.sl (pre := [_, _, _]) noB)) (cc1 (Flat.cell _) cc0)))))) (splice_all (Eq.trans (cat_len (cl1 (n := 1) (m := 35) rfl (cl1 (n := 1) (m := 34) rfl (cl1 (n := 1) (m := 33) rfl (cl1 (n := 1) (m := 32) rfl (cl1 (n := 32) (m := 0) (Flat.len _) cl0)))))) (Eq.symm (cat_len (cl1 (n := 1) (m := 35) rfl (cl1 (n := 1) (m := 34) rfl (cl1 (n := 1) (m := 33) rfl (cl1 (n := 1) (m := 32) rfl (cl1 (n := 32) (m := 0) (Flat.len _) cl0))))))))) ?_; intro w a hM hE
  refine c_fin ?_
  refine wp_seq ?_
  refine c_region ?_
  refine s_loadA (cs := cat [[u16], [(vI r14.Next)], [u17], [u18], Flat.enc r14.Head]) hE goes_none (by decide) rfl ty37 rfl (hM.rawAt (pre := [])) (cat_len (cl1 (n := 1) (m := 35) rfl (cl1 (n := 1) (m := 34) rfl (cl1 (n := 1) (m := 33) rfl (cl1 (n := 1) (m := 32) rfl (cl1 (n := 32) (m := 0) (Flat.len _) cl0)))))) ?_; intro a hE
  refine s_loadA (cs := cat [[u7], [(vI r5.Next)], [u8], [u9], Flat.enc r5.Head]) hE goes_none (by decide) rfl ty37 rfl (hM.rawAt (pre := [_, _, _, _])) (cat_len (cl1 (n := 1) (m := 35) rfl (cl1 (n := 1) (m := 34) rfl (cl1 (n := 1) (m := 33) rfl (cl1 (n := 1) (m := 32) rfl (cl1 (n := 32) (m := 0) (Flat.len _) cl0)))))) ?_; intro a hE
  obtain ⟨r21, e22, hF⟩ := bind_some hF
  refine s_call (vs := [(Value.agg (cat [[u16], [(vI r14.Next)], [u17], [u18], Flat.enc r14.Head]).toArray), (Value.agg (cat [[u7], [(vI r5.Next)], [u8], [u9], Flat.enc r5.Head]).toArray)]) hE goes_none (by decide) rfl cb15 (c_laws_eqVault _ r14 u16 (hM.sl (pre := [_]) noB) u17 (hM.sl (pre := [_, _]) noB) u18 (hM.sl (pre := [_, _, _]) noB) r5 u7 (hM.sl (pre := [_, _, _, _, _]) noB) u8 (hM.sl (pre := [_, _, _, _, _, _]) noB) u9 (hM.sl (pre := [_, _, _, _, _, _, _]) noB) r21 e22) ?_
  rintro v w a ⟨rfl, hK⟩ hE
  have hM := hM.keep hK
  refine s_not hE goes_none (by decide) rfl ?_; intro a hE
  refine c_fin ?_
  refine c_cond hE rfl ?_ ?_
  · intro hb23
    have hF := ite_t hF hb23
    refine c_region ?_
    refine s_assign hE goes_none (by decide) rfl ?_; intro a hE
    refine c_fin ?_
    have hr := Option.some.inj hF
    subst hr
    have hM := M.fst (l := []) hM
    exact wp_ret (r_then (k_ret1 hE rfl (res_tmp hE rfl) ⟨_, rfl, rfl, hM.kept⟩))
  · intro hb23
    have hF := ite_f hF hb23
    refine wp_skip ?_
    refine c_nx ?_
    refine c_region ?_
    refine s_assign hE goes_none (by decide) rfl ?_; intro a hE
    refine c_fin ?_
    refine c_region ?_
    refine s_loadA (cs := cat [[u16], [(vI r14.Next)], [u17], [u18], Flat.enc r14.Head]) hE goes_none (by decide) rfl ty37 rfl (hM.rawAt (pre := [])) (cat_len (cl1 (n := 1) (m := 35) rfl (cl1 (n := 1) (m := 34) rfl (cl1 (n := 1) (m := 33) rfl (cl1 (n := 1) (m := 32) rfl (cl1 (n := 32) (m := 0) (Flat.len _) cl0)))))) ?_; intro a hE
    refine s_move hE goes_none (by decide) rfl ?_; intro a hE
    have hM := hM.pull (pre := [_])
    have hM := hM.toOwn noB
    have hM := hM.pull (pre := [_, _])
    have hM := hM.toOwn noB
    have hM := hM.pull (pre := [_, _, _])
    have hM := hM.toOwn noB
    have hM := hM.pull (pre := [_])
    have hM := hM.pull (pre := [_, _])
    obtain ⟨r24, e25, hF⟩ := bind_some hF
    refine s_call (vs := [(Value.agg (cat [[u16], [(vI r14.Next)], [u17], [u18], Flat.enc r14.Head]).toArray), (vI 1)]) hE goes_none (by decide) rfl cb16 (c_laws_markVault _ _ _ _ r14 u16 u17 u18 1 hM r24 e25) ?_
    rintro v w a ⟨rfl, hM⟩ hE
    refine s_assign hE goes_none (by decide) rfl ?_; intro a hE
    refine c_fin ?_
    refine c_region ?_
    refine s_assign hE goes_none (by decide) rfl ?_; intro a hE
    refine c_fin ?_
    refine c_region ?_
    refine s_loadA (cs := cat [[u16], [(vI r14.Next)], [u17], [u18], Flat.enc r14.Head]) hE goes_none (by decide) rfl ty37 rfl (hM.rawAt (pre := [_, _, _])) (cat_len (cl1 (n := 1) (m := 35) rfl (cl1 (n := 1) (m := 34) rfl (cl1 (n := 1) (m := 33) rfl (cl1 (n := 1) (m := 32) rfl (cl1 (n := 32) (m := 0) (Flat.len _) cl0)))))) ?_; intro a hE
    refine s_move hE goes_none (by decide) rfl ?_; intro a hE
    obtain ⟨r26, e27, hF⟩ := bind_some hF
    refine s_call (vs := [(Value.agg (cat [[u16], [(vI r14.Next)], [u17], [u18], Flat.enc r14.Head]).toArray), (vI 1)]) hE goes_none (by decide) rfl cb17 (c_laws_heldVault _ (⟨r24.1.Keys, r14.Next, r24.1.Records, r24.1.Events, r14.Head⟩ : GVault) u16 (hM.ro (pre := []) noB) u17 (hM.ro (pre := [_]) noB) u18 (hM.ro (pre := [_, _]) noB) 1 r26 e27) ?_
    rintro v w a ⟨rfl, hK⟩ hE
    have hM := hM.keep hK
    refine s_assign hE goes_none (by decide) rfl ?_; intro a hE
    refine c_fin ?_
    refine wp_seq ?_
    refine c_region ?_
    refine s_move hE goes_none (by decide) rfl ?_; intro a hE
    refine s_int hE goes_none (by decide) rfl rfl rfl ?_; intro a hE
    refine c_fin ?_
    refine c_cond hE rfl ?_ ?_
    · intro hb28
      have hF := ite_t hF hb28
      refine c_region ?_
      refine s_assign hE goes_none (by decide) rfl ?_; intro a hE
      refine c_fin ?_
      have hr := Option.some.inj hF
      subst hr
      have hM := M.fst (l := []) hM
      exact wp_ret (r_then (k_ret1 hE rfl (res_tmp hE rfl) ⟨_, rfl, rfl, hM.kept⟩))
    · intro hb28
      have hF := ite_f hF hb28
      refine wp_skip ?_
      refine c_nx ?_
      refine wp_seq ?_
      refine c_region ?_
      refine s_move hE goes_none (by decide) rfl ?_; intro a hE
      refine s_move hE goes_none (by decide) rfl ?_; intro a hE
      refine s_int hE goes_none (by decide) rfl rfl rfl ?_; intro a hE
      refine c_fin ?_
      refine c_cond hE rfl ?_ ?_
      · intro hb29
        have hF := ite_t hF hb29
        refine c_region ?_
        refine s_assign hE goes_none (by decide) rfl ?_; intro a hE
        refine c_fin ?_
        have hr := Option.some.inj hF
        subst hr
        have hM := M.fst (l := []) hM
        exact wp_ret (r_then (k_ret1 hE rfl (res_tmp hE rfl) ⟨_, rfl, rfl, hM.kept⟩))
      · intro hb29
        have hF := ite_f hF hb29
        refine wp_skip ?_
        refine c_nx ?_
        refine c_region ?_
        refine s_loadA (cs := Flat.enc p0) hE goes_none (by decide) rfl ty33 rfl (hM.rawAt (pre := [_, _, _, _, _, _, _, _])) (Flat.len _) ?_; intro a hE
        obtain ⟨r30, e31, hF⟩ := bind_some hF
        refine s_call (vs := [(Value.agg (Flat.enc p0).toArray)]) hE goes_none (by decide) rfl cb13 (c_laws_toBlock _ p0 r30 e31) ?_
        rintro v w a ⟨rfl, hK⟩ hE
        have hM := hM.keep hK
        obtain ⟨r32, e33, hF⟩ := bind_some hF
        refine s_call (vs := [(Value.agg (Flat.enc r30).toArray)]) hE goes_none (by decide) rfl cb14 (c_impl_NewVault _ r30 r32 e33) ?_
        rintro v w a ⟨u34, u35, u36, rfl, hFr, hK⟩ hE
        have hM := hM.add hK hFr
        refine s_alloc hE hM goes_none (by decide) ty37 ?_; intro b37 w a hM hE
        refine s_store (seg := cat [[u34], [(vI r32.Next)], [u35], [u36], Flat.enc r32.Head]) (cs' := cat [[u34], [(vI r32.Next)], [u35], [u36], Flat.enc r32.Head]) hE hM goes_none rfl rfl rfl ty37 (cat_len (cl1 (n := 1) (m := 35) rfl (cl1 (n := 1) (m := 34) rfl (cl1 (n := 1) (m := 33) rfl (cl1 (n := 1) (m := 32) rfl (cl1 (n := 32) (m := 0) (Flat.len _) cl0)))))) (Nat.le_of_eq ((Nat.zero_add _).trans (Eq.trans (cat_len (cl1 (n := 1) (m := 35) rfl (cl1 (n := 1) (m := 34) rfl (cl1 (n := 1) (m := 33) rfl (cl1 (n := 1) (m := 32) rfl (cl1 (n := 32) (m := 0) (Flat.len _) cl0)))))) (Eq.symm (cat_len (cl1 (n := 1) (m := 35) rfl (cl1 (n := 1) (m := 34) rfl (cl1 (n := 1) (m := 33) rfl (cl1 (n := 1) (m := 32) rfl (cl1 (n := 32) (m := 0) (Flat.len _) cl0)))))))))) (cat_cell (cc1 (Rep.cell (hM.sl (pre := [_]) noB)) (cc1 (Flat.cell (r32.Next : Int)) (cc1 (Rep.cell (hM.sl (pre := [_, _]) noB)) (cc1 (Rep.cell (hM.sl (pre := [_, _, _]) noB)) (cc1 (Flat.cell _) cc0)))))) (splice_all (Eq.trans (cat_len (cl1 (n := 1) (m := 35) rfl (cl1 (n := 1) (m := 34) rfl (cl1 (n := 1) (m := 33) rfl (cl1 (n := 1) (m := 32) rfl (cl1 (n := 32) (m := 0) (Flat.len _) cl0)))))) (Eq.symm (cat_len (cl1 (n := 1) (m := 35) rfl (cl1 (n := 1) (m := 34) rfl (cl1 (n := 1) (m := 33) rfl (cl1 (n := 1) (m := 32) rfl (cl1 (n := 32) (m := 0) (Flat.len _) cl0))))))))) ?_; intro w a hM hE
        refine c_fin ?_
        refine wp_seq ?_
        refine c_region ?_
        refine s_loadA (cs := cat [[u34], [(vI r32.Next)], [u35], [u36], Flat.enc r32.Head]) hE goes_none (by decide) rfl ty37 rfl (hM.rawAt (pre := [])) (cat_len (cl1 (n := 1) (m := 35) rfl (cl1 (n := 1) (m := 34) rfl (cl1 (n := 1) (m := 33) rfl (cl1 (n := 1) (m := 32) rfl (cl1 (n := 32) (m := 0) (Flat.len _) cl0)))))) ?_; intro a hE
        refine s_loadA (cs := cat [[u7], [(vI r5.Next)], [u8], [u9], Flat.enc r5.Head]) hE goes_none (by decide) rfl ty37 rfl (hM.rawAt (pre := [_, _, _, _, _, _, _, _])) (cat_len (cl1 (n := 1) (m := 35) rfl (cl1 (n := 1) (m := 34) rfl (cl1 (n := 1) (m := 33) rfl (cl1 (n := 1) (m := 32) rfl (cl1 (n := 32) (m := 0) (Flat.len _) cl0)))))) ?_; intro a hE
        obtain ⟨r39, e40, hF⟩ := bind_some hF
        refine s_call (vs := [(Value.agg (cat [[u34], [(vI r32.Next)], [u35], [u36], Flat.enc r32.Head]).toArray), (Value.agg (cat [[u7], [(vI r5.Next)], [u8], [u9], Flat.enc r5.Head]).toArray)]) hE goes_none (by decide) rfl cb15 (c_laws_eqVault _ r32 u34 (hM.sl (pre := [_]) noB) u35 (hM.sl (pre := [_, _]) noB) u36 (hM.sl (pre := [_, _, _]) noB) r5 u7 (hM.sl (pre := [_, _, _, _, _, _, _, _, _]) noB) u8 (hM.sl (pre := [_, _, _, _, _, _, _, _, _, _]) noB) u9 (hM.sl (pre := [_, _, _, _, _, _, _, _, _, _, _]) noB) r39 e40) ?_
        rintro v w a ⟨rfl, hK⟩ hE
        have hM := hM.keep hK
        refine s_not hE goes_none (by decide) rfl ?_; intro a hE
        refine c_fin ?_
        refine c_cond hE rfl ?_ ?_
        · intro hb41
          have hF := ite_t hF hb41
          refine c_region ?_
          refine s_assign hE goes_none (by decide) rfl ?_; intro a hE
          refine c_fin ?_
          have hr := Option.some.inj hF
          subst hr
          have hM := M.fst (l := []) hM
          exact wp_ret (r_then (k_ret1 hE rfl (res_tmp hE rfl) ⟨_, rfl, rfl, hM.kept⟩))
        · intro hb41
          have hF := ite_f hF hb41
          refine wp_skip ?_
          refine c_nx ?_
          refine c_region ?_
          refine s_assign hE goes_none (by decide) rfl ?_; intro a hE
          refine c_fin ?_
          refine c_region ?_
          refine s_loadA (cs := cat [[u16], [(vI r14.Next)], [u17], [u18], Flat.enc r14.Head]) hE goes_none (by decide) rfl ty37 rfl (hM.rawAt (pre := [_, _, _, _, _, _, _])) (cat_len (cl1 (n := 1) (m := 35) rfl (cl1 (n := 1) (m := 34) rfl (cl1 (n := 1) (m := 33) rfl (cl1 (n := 1) (m := 32) rfl (cl1 (n := 32) (m := 0) (Flat.len _) cl0)))))) ?_; intro a hE
          refine s_move hE goes_none (by decide) rfl ?_; intro a hE
          obtain ⟨r42, e43, hF⟩ := bind_some hF
          refine s_call (vs := [(Value.agg (cat [[u16], [(vI r14.Next)], [u17], [u18], Flat.enc r14.Head]).toArray), (vI 1)]) hE goes_none (by decide) rfl cb17 (c_laws_heldVault _ (⟨r24.1.Keys, r14.Next, r24.1.Records, r24.1.Events, r14.Head⟩ : GVault) u16 (hM.ro (pre := [_, _, _, _]) noB) u17 (hM.ro (pre := [_, _, _, _, _]) noB) u18 (hM.ro (pre := [_, _, _, _, _, _]) noB) 1 r42 e43) ?_
          rintro v w a ⟨rfl, hK⟩ hE
          have hM := hM.keep hK
          refine s_assign hE goes_none (by decide) rfl ?_; intro a hE
          refine c_fin ?_
          refine wp_seq ?_
          refine c_region ?_
          refine s_move hE goes_none (by decide) rfl ?_; intro a hE
          refine s_int hE goes_none (by decide) rfl rfl rfl ?_; intro a hE
          refine c_fin ?_
          refine c_cond hE rfl ?_ ?_
          · intro hb44
            have hF := ite_t hF hb44
            refine c_region ?_
            refine s_assign hE goes_none (by decide) rfl ?_; intro a hE
            refine c_fin ?_
            have hr := Option.some.inj hF
            subst hr
            have hM := M.fst (l := []) hM
            exact wp_ret (r_then (k_ret1 hE rfl (res_tmp hE rfl) ⟨_, rfl, rfl, hM.kept⟩))
          · intro hb44
            have hF := ite_f hF hb44
            refine wp_skip ?_
            refine c_nx ?_
            refine wp_seq ?_
            refine c_region ?_
            refine s_move hE goes_none (by decide) rfl ?_; intro a hE
            refine s_move hE goes_none (by decide) rfl ?_; intro a hE
            refine s_int hE goes_none (by decide) rfl rfl rfl ?_; intro a hE
            refine c_fin ?_
            refine c_cond hE rfl ?_ ?_
            · intro hb45
              have hF := ite_t hF hb45
              refine c_region ?_
              refine s_assign hE goes_none (by decide) rfl ?_; intro a hE
              refine c_fin ?_
              have hr := Option.some.inj hF
              subst hr
              have hM := M.fst (l := []) hM
              exact wp_ret (r_then (k_ret1 hE rfl (res_tmp hE rfl) ⟨_, rfl, rfl, hM.kept⟩))
            · intro hb45
              have hF := ite_f hF hb45
              refine wp_skip ?_
              refine c_nx ?_
              refine c_region ?_
              refine s_assign hE goes_none (by decide) rfl ?_; intro a hE
              refine c_fin ?_
              have hr := Option.some.inj hF
              subst hr
              have hM := M.fst (l := []) hM
              exact wp_ret (k_ret1 hE rfl (res_tmp hE rfl) ⟨_, rfl, rfl, hM.kept⟩)
end Go.Proofs.Ytifdeoikcebbjaa
