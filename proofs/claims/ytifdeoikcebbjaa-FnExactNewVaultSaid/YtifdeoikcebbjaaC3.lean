/- The walk of what the law reaches: contracts of functions. -/
import Derived.Test.YtifdeoikcebbjaaC2
set_option linter.unusedVariables false
set_option linter.unusedSimpArgs false
namespace Go.Proofs.Ytifdeoikcebbjaa
open Go
set_option maxRecDepth 20000 in
set_option maxHeartbeats 400000 in
theorem c_impl_field_invert (w0 : World) (p0 : Int) (p1 : (Vector (Vector UInt8 4) 4)) (r : UInt8 × (Vector (Vector UInt8 4) 4)) (hF : F_impl_field_invert p0 p1 = some r) :
    Calls Try.prog 107 [(vI p0), (Value.agg (Flat.enc p1).toArray)].toArray w0 (fun en w' => ∃ v, en = .returned v ∧ (v = (Value.tuple [(vB r.1), (Value.agg (Flat.enc r.2).toArray)].toArray) ∧ Kept (Old w0) w0 w')) := by
  refine c_enter (n := 153) Try.func107 rfl rfl (Nat.le_of_ble_eq_true rfl) rfl ?_
  intro a hE
  have hM := M.start w0
  unfold F_impl_field_invert at hF
  refine c_region ?_
  refine s_box (cs := Flat.enc p1) hE hM goes_none (by decide) rfl rfl ?_; intro b1 w a hM hE
  refine s_assign hE goes_none (by decide) rfl ?_; intro a hE
  refine s_alloc hE hM goes_none (by decide) ty100 ?_; intro b3 w a hM hE
  refine c_fin ?_
  refine c_region ?_
  obtain ⟨r5, e6, hF⟩ := bind_some hF
  refine s_call (vs := []) hE goes_none (by decide) rfl cb126 (c_impl_UnitMatrix _  r5 e6) ?_
  rintro v w a ⟨rfl, hK⟩ hE
  have hM := hM.keep hK
  refine s_alloc hE hM goes_none (by decide) ty100 ?_; intro b7 w a hM hE
  refine s_store (seg := Flat.enc r5) (cs' := Flat.enc r5) hE hM goes_none rfl rfl rfl ty100 (Flat.len _) (Nat.le_of_eq ((Nat.zero_add _).trans (Eq.trans (Flat.len _) (Eq.symm (Flat.len _))))) (Flat.cell _) (splice_all (Eq.trans (Flat.len _) (Eq.symm (Flat.len _)))) ?_; intro w a hM hE
  refine s_assign hE goes_none (by decide) rfl ?_; intro a hE
  refine c_fin ?_
  refine wp_seq ?_
  refine c_region ?_
  refine s_move hE goes_none (by decide) rfl ?_; intro a hE
  refine c_fin ?_
  obtain ⟨j9, hl10, hF11⟩ := bind_some hF
  refine c_cut (fun a w => ∃ s12 : (Vector (Vector UInt8 4) 4) × UInt8, j9 = Fl.nx s12 ∧ Env 153 a [(5, (ptr b3 0)), (6, (ptr b7 0)), (7, (vB s12.2))] ∧ M (Old w0) w0 w [raw b7 (Flat.enc s12.1), raw b3 (Flat.enc (Vector.replicate 4 (Vector.replicate 4 (0 : UInt8))))]) ?_ ?_
  · skip
    refine wp_block ?_
    refine c_loop (fun (s13 : (Vector (Vector UInt8 4) 4) × (Vector (Vector UInt8 4) 4) × Int × UInt8) a w => Env 153 a [(0, (vI p0)), (3, (ptr b1 0)), (5, (ptr b3 0)), (6, (ptr b7 0)), (7, (vB s13.2.2.2)), (16, (vI s13.2.2.1))] ∧ M (Old w0) w0 w [raw b7 (Flat.enc s13.2.1), raw b3 (Flat.enc (Vector.replicate 4 (Vector.replicate 4 (0 : UInt8)))), raw b1 (Flat.enc s13.1)]) hl10 ⟨hE.sub ⟨rfl, rfl, rfl, rfl, rfl, rfl, trivial⟩, hM⟩ ?_
    rintro s13 a w ⟨hE, hM⟩ o16 hs14 hx15
    unfold L0_impl_field_invert at hs14
    refine c_region ?_
    refine s_int hE goes_none (by decide) rfl rfl rfl ?_; intro a hE
    refine c_fin ?_
    refine wp_seq ?_
    refine c_cond hE rfl ?_ ?_
    · intro hb17
      have hs14 := ite_t hs14 hb17
      refine wp_skip ?_
      refine c_nx ?_
      refine wp_seq ?_
      refine wp_block ?_
      refine c_region ?_
      refine s_move hE goes_none (by decide) rfl ?_; intro a hE
      refine s_assign hE goes_none (by decide) rfl ?_; intro a hE
      refine c_fin ?_
      refine c_region ?_
      refine s_move hE goes_none (by decide) rfl ?_; intro a hE
      refine s_assign hE goes_none (by decide) rfl ?_; intro a hE
      refine c_fin ?_
      obtain ⟨j18, hl19, hF20⟩ := bind_some hs14
      refine c_join (fun a w => Env 153 a [(0, (vI p0)), (3, (ptr b1 0)), (5, (ptr b3 0)), (6, (ptr b7 0)), (7, (vB s13.2.2.2)), (8, (vI s13.2.2.1)), (9, (vI j18)), (16, (vI s13.2.2.1))] ∧ M (Old w0) w0 w [raw b7 (Flat.enc s13.2.1), raw b3 (Flat.enc (Vector.replicate 4 (Vector.replicate 4 (0 : UInt8)))), raw b1 (Flat.enc s13.1)]) ?_ ?_
      · skip
        refine wp_block ?_
        refine c_loop (fun (s21 : Int) a w => Env 153 a [(0, (vI p0)), (3, (ptr b1 0)), (5, (ptr b3 0)), (6, (ptr b7 0)), (7, (vB s13.2.2.2)), (8, (vI s13.2.2.1)), (9, (vI s21)), (16, (vI s13.2.2.1))] ∧ M (Old w0) w0 w [raw b7 (Flat.enc s13.2.1), raw b3 (Flat.enc (Vector.replicate 4 (Vector.replicate 4 (0 : UInt8)))), raw b1 (Flat.enc s13.1)]) hl19 ⟨hE.sub ⟨rfl, rfl, rfl, rfl, rfl, rfl, rfl, rfl, trivial⟩, hM⟩ ?_
        rintro s21 a w ⟨hE, hM⟩ o24 hs22 hx23
        unfold L1_impl_field_invert at hs22
        refine wp_seq ?_
        obtain ⟨j25, hl26, hF27⟩ := bind_some hs22
        refine c_join (fun a w => Env 153 a [(0, (vI p0)), (3, (ptr b1 0)), (5, (ptr b3 0)), (6, (ptr b7 0)), (7, (vB s13.2.2.2)), (8, (vI s13.2.2.1)), (9, (vI s21)), (16, (vI s13.2.2.1)), (29, (vT j25))] ∧ M (Old w0) w0 w [raw b7 (Flat.enc s13.2.1), raw b3 (Flat.enc (Vector.replicate 4 (Vector.replicate 4 (0 : UInt8)))), raw b1 (Flat.enc s13.1)]) ?_ ?_
        · skip
          refine wp_region_lit ?_
          refine s_move hE goes_none (by decide) rfl ?_; intro a hE
          refine s_int hE goes_none (by decide) rfl rfl rfl ?_; intro a hE
          refine s_move hE goes_none (by decide) rfl ?_; intro a hE
          refine splitB (decide (s21 < 4)) (fun hb28 => ?_) (fun hb28 => ?_)
          · have hl26 := ite_t hl26 hb28
            refine s_move hE (goes_yes hE rfl (lkb rfl hb28)) (by decide) rfl ?_; intro a hE
            refine s_move hE (goes_yes hE rfl (lkb rfl hb28)) (by decide) rfl ?_; intro a hE
            obtain ⟨x30, e31, hl26⟩ := bind_some hl26
            have hi29 := vidx_some e31
            refine s_indexA hE (goes_yes hE rfl (lkb rfl hb28)) (by decide) rfl rfl Try.underlying100 ty98 hi29.1 ?_; intro a hE
            obtain ⟨x33, e34, hl26⟩ := bind_some hl26
            have hi32 := vidx_some e34
            refine s_indexA hE (goes_yes hE rfl (lkb rfl hb28)) (by decide) rfl rfl Try.underlying98 ty5 hi32.1 ?_; intro a hE
            refine s_load (v := (vB x33)) hE (goes_yes hE rfl (lkb rfl hb28)) (by decide) rfl ty5 rfl (At.vec (At.vec (hM.rawAt (pre := [_, _])) hi29.2) hi32.2) ?_; intro a hE
            refine s_int hE (goes_yes hE rfl (lkb rfl hb28)) (by decide) rfl rfl (bB_eql x33 0) ?_; intro a hE
            refine s_pickT hE goes_none (by decide) (lkb rfl hb28) rfl ?_; intro a hE
            refine c_fin0 ?_
            have ht35 := Option.some.inj hl26
            subst ht35
            refine c_mid ?_
            exact ⟨hE.sub ⟨rfl, rfl, rfl, rfl, rfl, rfl, rfl, rfl, rfl, trivial⟩, hM⟩
          · have hl26 := ite_f hl26 hb28
            refine s_skip hE rfl (lkb rfl hb28) rfl (by decide) ?_; intro a hE
            refine s_skip hE rfl (lkb rfl hb28) rfl (by decide) ?_; intro a hE
            refine s_skip hE rfl (lkb rfl hb28) rfl (by decide) ?_; intro a hE
            refine s_skip hE rfl (lkb rfl hb28) rfl (by decide) ?_; intro a hE
            refine s_skip hE rfl (lkb rfl hb28) rfl (by decide) ?_; intro a hE
            refine s_skip hE rfl (lkb rfl hb28) rfl (by decide) ?_; intro a hE
            refine s_pickF hE goes_none (by decide) (lkb rfl hb28) rfl ?_; intro a hE
            refine c_fin0 ?_
            have ht36 := Option.some.inj hl26
            subst ht36
            refine c_mid ?_
            exact ⟨hE.sub ⟨rfl, rfl, rfl, rfl, rfl, rfl, rfl, rfl, rfl, trivial⟩, hM⟩
        · skip
          rintro a w ⟨hE, hM⟩
          refine c_cond hE rfl ?_ ?_
          · intro hb37
            have hF27 := ite_t hF27 hb37
            refine wp_skip ?_
            refine c_nx ?_
            refine wp_block ?_
            refine wp_region_lit ?_
            refine s_move hE goes_none (by decide) rfl ?_; intro a hE
            refine s_int hE goes_none (by decide) rfl rfl rfl ?_; intro a hE
            refine s_assign hE goes_none (by decide) rfl ?_; intro a hE
            refine c_fin0 ?_
            refine c_nb ?_
            refine c_mid ?_
            exact ⟨_, (Option.some.inj hF27).symm, hE.sub ⟨rfl, rfl, rfl, rfl, rfl, rfl, rfl, rfl, trivial⟩, hM⟩
          · intro hb37
            have hF27 := ite_f hF27 hb37
            refine wp_exit (e_then (e_then (e_eq ?_)))
            have ht38 := hx23 _ (Option.some.inj hF27).symm
            subst ht38
            refine c_mid ?_
            exact ⟨hE.sub ⟨rfl, rfl, rfl, rfl, rfl, rfl, rfl, rfl, trivial⟩, hM⟩
      · skip
        rintro a w ⟨hE, hM⟩
        refine wp_seq ?_
        refine c_region ?_
        refine s_move hE goes_none (by decide) rfl ?_; intro a hE
        refine s_int hE goes_none (by decide) rfl rfl rfl ?_; intro a hE
        refine c_fin ?_
        refine c_cond hE rfl ?_ ?_
        · intro hb39
          have hF20 := ite_t hF20 hb39
          refine c_region ?_
          refine s_buildA (parts := []) (vs := []) (cs := Flat.enc (Vector.replicate 4 (Vector.replicate 4 (0 : UInt8)))) hE goes_none (by decide) rfl rfl ty100 rfl ty98 filla_nil ?_; intro a hE
          refine s_assign hE goes_none (by decide) rfl ?_; intro a hE
          have hM := hM.pull (pre := [_])
          refine s_store (seg := Flat.enc (Vector.replicate 4 (Vector.replicate 4 (0 : UInt8)))) (cs' := Flat.enc (Vector.replicate 4 (Vector.replicate 4 (0 : UInt8)))) hE hM goes_none rfl rfl rfl ty100 (Flat.len _) (Nat.le_of_eq ((Nat.zero_add _).trans (Eq.trans (Flat.len _) (Eq.symm (Flat.len _))))) (Flat.cell _) (splice_all (Eq.trans (Flat.len _) (Eq.symm (Flat.len _)))) ?_; intro w a hM hE
          refine c_fin ?_
          have ht40 := hx15 _ (Option.some.inj hF20).symm
          subst ht40
          have hr := Option.some.inj hF11
          subst hr
          have hq41 : ResIs Try.prog _ _ (.cell 5 100) _ := res_cell hE rfl ty100 rfl (hM.rawAt (pre := [])) (Flat.len _) rfl
          have hM := M.fst (l := []) hM
          exact wp_ret (r_then (r_inb (r_then (r_then (r_inb (r_then (r_then (k_ret2 hE rfl (res_tmp hE rfl) hq41 ⟨_, rfl, rfl, hM.kept⟩))))))))
        · intro hb39
          have hF20 := ite_f hF20 hb39
          refine wp_skip ?_
          refine c_nx ?_
          obtain ⟨j42, hl43, hF44⟩ := bind_some hF20
          refine c_join (fun a w => Env 153 a [(0, (vI p0)), (3, (ptr b1 0)), (5, (ptr b3 0)), (6, (ptr b7 0)), (7, (vB s13.2.2.2)), (8, (vI s13.2.2.1)), (9, (vI j18)), (16, (vI s13.2.2.1))] ∧ M (Old w0) w0 w [raw b7 (Flat.enc s13.2.1), raw b3 (Flat.enc (Vector.replicate 4 (Vector.replicate 4 (0 : UInt8)))), raw b1 (Flat.enc j42)]) ?_ ?_
          · skip
            have hM := hM.pull (pre := [_, _])
            obtain ⟨x47, e48, hl43⟩ := bind_some hl43
            have hi46 := vidx_some e48
            obtain ⟨x50, e51, hl43⟩ := bind_some hl43
            have hi49 := vidx_some e51
            obtain ⟨x53, e54, hl43⟩ := bind_some hl43
            have hi52 := vidx_some e54
            refine c_draw3 (n := 153) (hd := [_, _, _, _, _, _, _, _, _, _]) (tl := [_, _]) hmix rfl rfl [35, 36, 37, 38, 39, 40, 41, 42, 43, 162] (by decide) (fun D u w => M (Old w0) w0 w ([raw b7 (Flat.enc s13.2.1), raw b3 (Flat.enc (Vector.replicate 4 (Vector.replicate 4 (0 : UInt8))))] ++ qL ([mkT 9 (raw b1 (Flat.enc s13.1)) (raw b1 (Flat.enc (s13.1.setIfInBounds (j18).toNat x47)))] : Mk) D u) ∧ GOk ([([], fun us v => v = (vI j18)), ([], fun us v => v = (vI s13.2.2.1)), ([], fun us v => v = (vI s13.2.2.1)), ([], fun us v => v = (ptr b1 (0 + (s13.2.2.1).toNat * 4))), ([], fun us v => v = (Value.agg (Flat.enc x47).toArray)), ([], fun us v => v = (vI j18)), ([], fun us v => v = (ptr b1 (0 + (j18).toNat * 4))), ([], fun us v => v = (Value.agg (Flat.enc x50).toArray)), ([], fun us v => v = (ptr b1 (0 + (j18).toNat * 4))), ([], fun us v => True)] : Gs) D u) hE (fun u => ⟨M.qT (M.q0 hM.drew u), gok0⟩) (steps_of (steps_cons ?_ (steps_cons ?_ (steps_cons ?_ (steps_cons ?_ (steps_cons ?_ (steps_cons ?_ (steps_cons ?_ (steps_cons ?_ (steps_cons ?_ (steps_cons ?_ steps_nil))))))))))) ?_
            · intro a w ux45 D hE hI hD hdc hp
              have hM0 := hI.1
              have hM : M (Old w0) w0 w [raw b7 (Flat.enc s13.2.1), raw b3 (Flat.enc (Vector.replicate 4 (Vector.replicate 4 (0 : UInt8)))), tog (D 9) (raw b1 (Flat.enc s13.1)) (raw b1 (Flat.enc (s13.1.setIfInBounds (j18).toNat x47)))] := hI.1
              have hM := hM.togA (pre := [_, _]) (Bool.eq_false_iff.2 fun hx => Bool.noConfusion (hD.symm.trans (hdc 9 _ _ rfl (List.mem_of_getElem? (i := 2) rfl) rfl hx)))
              refine s_move hE goes_none (by decide) rfl ?_; intro a hE
              exact ⟨_, _, rfl, hE, M.qKeep hM0 rfl, hI.2.put hD rfl allN rfl⟩
            · intro a w ux45 D hE hI hD hdc hp
              have hM0 := hI.1
              have hM : M (Old w0) w0 w [raw b7 (Flat.enc s13.2.1), raw b3 (Flat.enc (Vector.replicate 4 (Vector.replicate 4 (0 : UInt8)))), tog (D 9) (raw b1 (Flat.enc s13.1)) (raw b1 (Flat.enc (s13.1.setIfInBounds (j18).toNat x47)))] := hI.1
              refine s_move hE goes_none (by decide) rfl ?_; intro a hE
              exact ⟨_, _, rfl, hE, M.qKeep hM0 rfl, hI.2.put hD rfl allN rfl⟩
            · intro a w ux45 D hE hI hD hdc hp
              have hM0 := hI.1
              have hM : M (Old w0) w0 w [raw b7 (Flat.enc s13.2.1), raw b3 (Flat.enc (Vector.replicate 4 (Vector.replicate 4 (0 : UInt8)))), tog (D 9) (raw b1 (Flat.enc s13.1)) (raw b1 (Flat.enc (s13.1.setIfInBounds (j18).toNat x47)))] := hI.1
              have hM := hM.togA (pre := [_, _]) (Bool.eq_false_iff.2 fun hx => Bool.noConfusion (hD.symm.trans (hdc 9 _ _ rfl (List.mem_of_getElem? (i := 4) rfl) rfl hx)))
              refine s_move hE goes_none (by decide) rfl ?_; intro a hE
              exact ⟨_, _, rfl, hE, M.qKeep hM0 rfl, hI.2.put hD rfl allN rfl⟩
            · intro a w ux45 D hE hI hD hdc hp
              have d2 : D 2 = true := hp 0 _ rfl rfl
              have g2 := hI.2 2 d2 _ rfl
              have f2 : ux45 2 = (vI s13.2.2.1) := g2.2
              have hM0 := hI.1
              have hM : M (Old w0) w0 w [raw b7 (Flat.enc s13.2.1), raw b3 (Flat.enc (Vector.replicate 4 (Vector.replicate 4 (0 : UInt8)))), tog (D 9) (raw b1 (Flat.enc s13.1)) (raw b1 (Flat.enc (s13.1.setIfInBounds (j18).toNat x47)))] := hI.1
              have hM := hM.togA (pre := [_, _]) (Bool.eq_false_iff.2 fun hx => Bool.noConfusion (hD.symm.trans (hdc 9 _ _ rfl (List.mem_of_getElem? (i := 5) rfl) rfl hx)))
              refine s_indexA hE goes_none (by decide) rfl (lk rfl f2) Try.underlying100 ty98 hi46.1 ?_; intro a hE
              exact ⟨_, _, rfl, hE, M.qKeep hM0 rfl, hI.2.put hD rfl allN rfl⟩
            · intro a w ux45 D hE hI hD hdc hp
              have d3 : D 3 = true := hp 0 _ rfl rfl
              have g3 := hI.2 3 d3 _ rfl
              have f3 : ux45 3 = (ptr b1 (0 + (s13.2.2.1).toNat * 4)) := g3.2
              have hM0 := hI.1
              have hM : M (Old w0) w0 w [raw b7 (Flat.enc s13.2.1), raw b3 (Flat.enc (Vector.replicate 4 (Vector.replicate 4 (0 : UInt8)))), tog (D 9) (raw b1 (Flat.enc s13.1)) (raw b1 (Flat.enc (s13.1.setIfInBounds (j18).toNat x47)))] := hI.1
              have hM := hM.togA (pre := [_, _]) (Bool.eq_false_iff.2 fun hx => Bool.noConfusion (hD.symm.trans (hdc 9 _ _ rfl (List.mem_of_getElem? (i := 1) rfl) rfl hx)))
              refine s_loadA (cs := Flat.enc x47) hE goes_none (by decide) (lk rfl f3) ty98 rfl (At.vec (hM.rawAt (pre := [_, _])) hi46.2) (Flat.len _) ?_; intro a hE
              exact ⟨_, _, rfl, hE, M.qKeep hM0 rfl, hI.2.put hD rfl allN rfl⟩
            · intro a w ux45 D hE hI hD hdc hp
              have hM0 := hI.1
              have hM : M (Old w0) w0 w [raw b7 (Flat.enc s13.2.1), raw b3 (Flat.enc (Vector.replicate 4 (Vector.replicate 4 (0 : UInt8)))), tog (D 9) (raw b1 (Flat.enc s13.1)) (raw b1 (Flat.enc (s13.1.setIfInBounds (j18).toNat x47)))] := hI.1
              refine s_move hE goes_none (by decide) rfl ?_; intro a hE
              exact ⟨_, _, rfl, hE, M.qKeep hM0 rfl, hI.2.put hD rfl allN rfl⟩
            · intro a w ux45 D hE hI hD hdc hp
              have d5 : D 5 = true := hp 0 _ rfl rfl
              have g5 := hI.2 5 d5 _ rfl
              have f5 : ux45 5 = (vI j18) := g5.2
              have hM0 := hI.1
              have hM : M (Old w0) w0 w [raw b7 (Flat.enc s13.2.1), raw b3 (Flat.enc (Vector.replicate 4 (Vector.replicate 4 (0 : UInt8)))), tog (D 9) (raw b1 (Flat.enc s13.1)) (raw b1 (Flat.enc (s13.1.setIfInBounds (j18).toNat x47)))] := hI.1
              have hM := hM.togA (pre := [_, _]) (Bool.eq_false_iff.2 fun hx => Bool.noConfusion (hD.symm.trans (hdc 9 _ _ rfl (List.mem_of_getElem? (i := 8) rfl) rfl hx)))
              refine s_indexA hE goes_none (by decide) rfl (lk rfl f5) Try.underlying100 ty98 hi49.1 ?_; intro a hE
              exact ⟨_, _, rfl, hE, M.qKeep hM0 rfl, hI.2.put hD rfl allN rfl⟩
            · intro a w ux45 D hE hI hD hdc hp
              have d6 : D 6 = true := hp 0 _ rfl rfl
              have g6 := hI.2 6 d6 _ rfl
              have f6 : ux45 6 = (ptr b1 (0 + (j18).toNat * 4)) := g6.2
              have hM0 := hI.1
              have hM : M (Old w0) w0 w [raw b7 (Flat.enc s13.2.1), raw b3 (Flat.enc (Vector.replicate 4 (Vector.replicate 4 (0 : UInt8)))), tog (D 9) (raw b1 (Flat.enc s13.1)) (raw b1 (Flat.enc (s13.1.setIfInBounds (j18).toNat x47)))] := hI.1
              have hM := hM.togA (pre := [_, _]) (Bool.eq_false_iff.2 fun hx => Bool.noConfusion (hD.symm.trans (hdc 9 _ _ rfl (List.mem_of_getElem? (i := 9) rfl) rfl hx)))
              refine s_loadA (cs := Flat.enc x50) hE goes_none (by decide) (lk rfl f6) ty98 rfl (At.vec (hM.rawAt (pre := [_, _])) hi49.2) (Flat.len _) ?_; intro a hE
              exact ⟨_, _, rfl, hE, M.qKeep hM0 rfl, hI.2.put hD rfl allN rfl⟩
            · intro a w ux45 D hE hI hD hdc hp
              have d0 : D 0 = true := hp 0 _ rfl rfl
              have g0 := hI.2 0 d0 _ rfl
              have f0 : ux45 0 = (vI j18) := g0.2
              have hM0 := hI.1
              have hM : M (Old w0) w0 w [raw b7 (Flat.enc s13.2.1), raw b3 (Flat.enc (Vector.replicate 4 (Vector.replicate 4 (0 : UInt8)))), tog (D 9) (raw b1 (Flat.enc s13.1)) (raw b1 (Flat.enc (s13.1.setIfInBounds (j18).toNat x47)))] := hI.1
              have hM := hM.togA (pre := [_, _]) (Bool.eq_false_iff.2 fun hx => Bool.noConfusion (hD.symm.trans (hdc 9 _ _ rfl (List.mem_of_getElem? (i := 0) rfl) rfl hx)))
              refine s_indexA hE goes_none (by decide) rfl (lk rfl f0) Try.underlying100 ty98 hi52.1 ?_; intro a hE
              exact ⟨_, _, rfl, hE, M.qKeep hM0 rfl, hI.2.put hD rfl allN rfl⟩
            · intro a w ux45 D hE hI hD hdc hp
              have d4 : D 4 = true := hp 1 _ rfl rfl
              have g4 := hI.2 4 d4 _ rfl
              have f4 : ux45 4 = (Value.agg (Flat.enc x47).toArray) := g4.2
              have d8 : D 8 = true := hp 0 _ rfl rfl
              have g8 := hI.2 8 d8 _ rfl
              have f8 : ux45 8 = (ptr b1 (0 + (j18).toNat * 4)) := g8.2
              have hM0 := hI.1
              have hM : M (Old w0) w0 w [raw b7 (Flat.enc s13.2.1), raw b3 (Flat.enc (Vector.replicate 4 (Vector.replicate 4 (0 : UInt8)))), tog (D 9) (raw b1 (Flat.enc s13.1)) (raw b1 (Flat.enc (s13.1.setIfInBounds (j18).toNat x47)))] := hI.1
              have hM := hM.togA (pre := [_, _]) hD
              have hM := hM.pull (pre := [_, _])
              refine s_store (seg := Flat.enc x47) (cs' := Flat.enc (s13.1.setIfInBounds (j18).toNat x47)) hE hM goes_none (lk rfl f8) (lk rfl f4) rfl ty98 (Flat.len _) (fit_vec (v := s13.1) (x := x47) hi52.1) (Flat.cell _) (splice_vec0 (v := s13.1) (x := x47) hi52.1) ?_; intro w a hM hE
              exact ⟨undef, _, rfl, Env.dummy hE (by decide), M.qTog (mk1 := []) (mk2 := []) hM rfl, hI.2.put hD rfl allN trivial⟩
            · intro a w ux45 D hE hI hall
              have hM : M (Old w0) w0 w [raw b7 (Flat.enc s13.2.1), raw b3 (Flat.enc (Vector.replicate 4 (Vector.replicate 4 (0 : UInt8)))), tog (D 9) (raw b1 (Flat.enc s13.1)) (raw b1 (Flat.enc (s13.1.setIfInBounds (j18).toNat x47)))] := hI.1
              have d0 : D 0 = true := hall 0 (by decide)
              have d1 : D 1 = true := hall 1 (by decide)
              have d2 : D 2 = true := hall 2 (by decide)
              have d3 : D 3 = true := hall 3 (by decide)
              have d4 : D 4 = true := hall 4 (by decide)
              have d5 : D 5 = true := hall 5 (by decide)
              have d6 : D 6 = true := hall 6 (by decide)
              have d7 : D 7 = true := hall 7 (by decide)
              have d8 : D 8 = true := hall 8 (by decide)
              have d9 : D 9 = true := hall 9 (by decide)
              have f0 : ux45 0 = (vI j18) := (hI.2 0 d0 _ rfl).2
              have f1 : ux45 1 = (vI s13.2.2.1) := (hI.2 1 d1 _ rfl).2
              have f2 : ux45 2 = (vI s13.2.2.1) := (hI.2 2 d2 _ rfl).2
              have f3 : ux45 3 = (ptr b1 (0 + (s13.2.2.1).toNat * 4)) := (hI.2 3 d3 _ rfl).2
              have f4 : ux45 4 = (Value.agg (Flat.enc x47).toArray) := (hI.2 4 d4 _ rfl).2
              have f5 : ux45 5 = (vI j18) := (hI.2 5 d5 _ rfl).2
              have f6 : ux45 6 = (ptr b1 (0 + (j18).toNat * 4)) := (hI.2 6 d6 _ rfl).2
              have f7 : ux45 7 = (Value.agg (Flat.enc x50).toArray) := (hI.2 7 d7 _ rfl).2
              have f8 : ux45 8 = (ptr b1 (0 + (j18).toNat * 4)) := (hI.2 8 d8 _ rfl).2
              have hM := hM.togB (pre := [_, _]) d9
              have hE := hE.sub (e' := [(35, (vI j18)), (36, (vI s13.2.2.1)), (37, (vI s13.2.2.1)), (38, (ptr b1 (0 + (s13.2.2.1).toNat * 4))), (39, (Value.agg (Flat.enc x47).toArray)), (40, (vI j18)), (41, (ptr b1 (0 + (j18).toNat * 4))), (42, (Value.agg (Flat.enc x50).toArray)), (43, (ptr b1 (0 + (j18).toNat * 4))), (0, (vI p0)), (3, (ptr b1 0)), (5, (ptr b3 0)), (6, (ptr b7 0)), (7, (vB s13.2.2.2)), (8, (vI s13.2.2.1)), (9, (vI j18)), (16, (vI s13.2.2.1)), (32, (vI j18)), (33, (vT (j18 == 4)))]) ⟨lk rfl f0, lk rfl f1, lk rfl f2, lk rfl f3, lk rfl f4, lk rfl f5, lk rfl f6, lk rfl f7, lk rfl f8, rfl, rfl, rfl, rfl, rfl, rfl, rfl, rfl, rfl, rfl, trivial⟩
              obtain ⟨x56, e57, hl43⟩ := bind_some hl43
              have hi55 := vidx_some e57
              refine s_indexA hE goes_none (by decide) rfl rfl Try.underlying100 ty98 hi55.1 ?_; intro a hE
              have hM := hM.pull (pre := [_, _])
              refine s_store (seg := Flat.enc x50) (cs' := Flat.enc ((s13.1.setIfInBounds (j18).toNat x47).setIfInBounds (s13.2.2.1).toNat x50)) hE hM goes_none rfl rfl rfl ty98 (Flat.len _) (fit_vec (v := (s13.1.setIfInBounds (j18).toNat x47)) (x := x50) hi55.1) (Flat.cell _) (splice_vec0 (v := (s13.1.setIfInBounds (j18).toNat x47)) (x := x50) hi55.1) ?_; intro w a hM hE
              refine c_fin0 ?_
              have ht58 := Option.some.inj hl43
              subst ht58
              refine c_mid ?_
              have hM := hM.pull (pre := [_, _])
              have hM := hM.pull (pre := [_, _])
              exact ⟨hE.sub ⟨rfl, rfl, rfl, rfl, rfl, rfl, rfl, rfl, trivial⟩, hM⟩
          · skip
            rintro a w ⟨hE, hM⟩
            obtain ⟨j59, hl60, hF61⟩ := bind_some hF44
            refine c_join (fun a w => Env 153 a [(0, (vI p0)), (3, (ptr b1 0)), (5, (ptr b3 0)), (6, (ptr b7 0)), (7, (vB s13.2.2.2)), (8, (vI s13.2.2.1)), (16, (vI s13.2.2.1))] ∧ M (Old w0) w0 w [raw b7 (Flat.enc j59), raw b3 (Flat.enc (Vector.replicate 4 (Vector.replicate 4 (0 : UInt8)))), raw b1 (Flat.enc j42)]) ?_ ?_
            · skip
              obtain ⟨x64, e65, hl60⟩ := bind_some hl60
              have hi63 := vidx_some e65
              obtain ⟨x67, e68, hl60⟩ := bind_some hl60
              have hi66 := vidx_some e68
              obtain ⟨x70, e71, hl60⟩ := bind_some hl60
              have hi69 := vidx_some e71
              refine c_draw3 (n := 153) (hd := [_, _, _, _, _, _, _, _, _, _]) (tl := [_, _]) hmix rfl rfl [45, 46, 47, 48, 49, 50, 51, 52, 53, 162] (by decide) (fun D u w => M (Old w0) w0 w ([raw b3 (Flat.enc (Vector.replicate 4 (Vector.replicate 4 (0 : UInt8)))), raw b1 (Flat.enc j42)] ++ qL ([mkT 9 (raw b7 (Flat.enc s13.2.1)) (raw b7 (Flat.enc (s13.2.1.setIfInBounds (j18).toNat x64)))] : Mk) D u) ∧ GOk ([([], fun us v => v = (vI j18)), ([], fun us v => v = (vI s13.2.2.1)), ([], fun us v => v = (vI s13.2.2.1)), ([], fun us v => v = (ptr b7 (0 + (s13.2.2.1).toNat * 4))), ([], fun us v => v = (Value.agg (Flat.enc x64).toArray)), ([], fun us v => v = (vI j18)), ([], fun us v => v = (ptr b7 (0 + (j18).toNat * 4))), ([], fun us v => v = (Value.agg (Flat.enc x67).toArray)), ([], fun us v => v = (ptr b7 (0 + (j18).toNat * 4))), ([], fun us v => True)] : Gs) D u) hE (fun u => ⟨M.qT (M.q0 hM.drew u), gok0⟩) (steps_of (steps_cons ?_ (steps_cons ?_ (steps_cons ?_ (steps_cons ?_ (steps_cons ?_ (steps_cons ?_ (steps_cons ?_ (steps_cons ?_ (steps_cons ?_ (steps_cons ?_ steps_nil))))))))))) ?_
              · intro a w ux62 D hE hI hD hdc hp
                have hM0 := hI.1
                have hM : M (Old w0) w0 w [raw b3 (Flat.enc (Vector.replicate 4 (Vector.replicate 4 (0 : UInt8)))), raw b1 (Flat.enc j42), tog (D 9) (raw b7 (Flat.enc s13.2.1)) (raw b7 (Flat.enc (s13.2.1.setIfInBounds (j18).toNat x64)))] := hI.1
                have hM := hM.togA (pre := [_, _]) (Bool.eq_false_iff.2 fun hx => Bool.noConfusion (hD.symm.trans (hdc 9 _ _ rfl (List.mem_of_getElem? (i := 2) rfl) rfl hx)))
                refine s_move hE goes_none (by decide) rfl ?_; intro a hE
                exact ⟨_, _, rfl, hE, M.qKeep hM0 rfl, hI.2.put hD rfl allN rfl⟩
              · intro a w ux62 D hE hI hD hdc hp
                have hM0 := hI.1
                have hM : M (Old w0) w0 w [raw b3 (Flat.enc (Vector.replicate 4 (Vector.replicate 4 (0 : UInt8)))), raw b1 (Flat.enc j42), tog (D 9) (raw b7 (Flat.enc s13.2.1)) (raw b7 (Flat.enc (s13.2.1.setIfInBounds (j18).toNat x64)))] := hI.1
                refine s_move hE goes_none (by decide) rfl ?_; intro a hE
                exact ⟨_, _, rfl, hE, M.qKeep hM0 rfl, hI.2.put hD rfl allN rfl⟩
              · intro a w ux62 D hE hI hD hdc hp
                have hM0 := hI.1
                have hM : M (Old w0) w0 w [raw b3 (Flat.enc (Vector.replicate 4 (Vector.replicate 4 (0 : UInt8)))), raw b1 (Flat.enc j42), tog (D 9) (raw b7 (Flat.enc s13.2.1)) (raw b7 (Flat.enc (s13.2.1.setIfInBounds (j18).toNat x64)))] := hI.1
                have hM := hM.togA (pre := [_, _]) (Bool.eq_false_iff.2 fun hx => Bool.noConfusion (hD.symm.trans (hdc 9 _ _ rfl (List.mem_of_getElem? (i := 4) rfl) rfl hx)))
                refine s_move hE goes_none (by decide) rfl ?_; intro a hE
                exact ⟨_, _, rfl, hE, M.qKeep hM0 rfl, hI.2.put hD rfl allN rfl⟩
              · intro a w ux62 D hE hI hD hdc hp
                have d2 : D 2 = true := hp 0 _ rfl rfl
                have g2 := hI.2 2 d2 _ rfl
                have f2 : ux62 2 = (vI s13.2.2.1) := g2.2
                have hM0 := hI.1
                have hM : M (Old w0) w0 w [raw b3 (Flat.enc (Vector.replicate 4 (Vector.replicate 4 (0 : UInt8)))), raw b1 (Flat.enc j42), tog (D 9) (raw b7 (Flat.enc s13.2.1)) (raw b7 (Flat.enc (s13.2.1.setIfInBounds (j18).toNat x64)))] := hI.1
                have hM := hM.togA (pre := [_, _]) (Bool.eq_false_iff.2 fun hx => Bool.noConfusion (hD.symm.trans (hdc 9 _ _ rfl (List.mem_of_getElem? (i := 5) rfl) rfl hx)))
                refine s_indexA hE goes_none (by decide) rfl (lk rfl f2) Try.underlying100 ty98 hi63.1 ?_; intro a hE
                exact ⟨_, _, rfl, hE, M.qKeep hM0 rfl, hI.2.put hD rfl allN rfl⟩
              · intro a w ux62 D hE hI hD hdc hp
                have d3 : D 3 = true := hp 0 _ rfl rfl
                have g3 := hI.2 3 d3 _ rfl
                have f3 : ux62 3 = (ptr b7 (0 + (s13.2.2.1).toNat * 4)) := g3.2
                have hM0 := hI.1
                have hM : M (Old w0) w0 w [raw b3 (Flat.enc (Vector.replicate 4 (Vector.replicate 4 (0 : UInt8)))), raw b1 (Flat.enc j42), tog (D 9) (raw b7 (Flat.enc s13.2.1)) (raw b7 (Flat.enc (s13.2.1.setIfInBounds (j18).toNat x64)))] := hI.1
                have hM := hM.togA (pre := [_, _]) (Bool.eq_false_iff.2 fun hx => Bool.noConfusion (hD.symm.trans (hdc 9 _ _ rfl (List.mem_of_getElem? (i := 1) rfl) rfl hx)))
                refine s_loadA (cs := Flat.enc x64) hE goes_none (by decide) (lk rfl f3) ty98 rfl (At.vec (hM.rawAt (pre := [_, _])) hi63.2) (Flat.len _) ?_; intro a hE
                exact ⟨_, _, rfl, hE, M.qKeep hM0 rfl, hI.2.put hD rfl allN rfl⟩
              · intro a w ux62 D hE hI hD hdc hp
                have hM0 := hI.1
                have hM : M (Old w0) w0 w [raw b3 (Flat.enc (Vector.replicate 4 (Vector.replicate 4 (0 : UInt8)))), raw b1 (Flat.enc j42), tog (D 9) (raw b7 (Flat.enc s13.2.1)) (raw b7 (Flat.enc (s13.2.1.setIfInBounds (j18).toNat x64)))] := hI.1
                refine s_move hE goes_none (by decide) rfl ?_; intro a hE
                exact ⟨_, _, rfl, hE, M.qKeep hM0 rfl, hI.2.put hD rfl allN rfl⟩
              · intro a w ux62 D hE hI hD hdc hp
                have d5 : D 5 = true := hp 0 _ rfl rfl
                have g5 := hI.2 5 d5 _ rfl
                have f5 : ux62 5 = (vI j18) := g5.2
                have hM0 := hI.1
                have hM : M (Old w0) w0 w [raw b3 (Flat.enc (Vector.replicate 4 (Vector.replicate 4 (0 : UInt8)))), raw b1 (Flat.enc j42), tog (D 9) (raw b7 (Flat.enc s13.2.1)) (raw b7 (Flat.enc (s13.2.1.setIfInBounds (j18).toNat x64)))] := hI.1
                have hM := hM.togA (pre := [_, _]) (Bool.eq_false_iff.2 fun hx => Bool.noConfusion (hD.symm.trans (hdc 9 _ _ rfl (List.mem_of_getElem? (i := 8) rfl) rfl hx)))
                refine s_indexA hE goes_none (by decide) rfl (lk rfl f5) Try.underlying100 ty98 hi66.1 ?_; intro a hE
                exact ⟨_, _, rfl, hE, M.qKeep hM0 rfl, hI.2.put hD rfl allN rfl⟩
              · intro a w ux62 D hE hI hD hdc hp
                have d6 : D 6 = true := hp 0 _ rfl rfl
                have g6 := hI.2 6 d6 _ rfl
                have f6 : ux62 6 = (ptr b7 (0 + (j18).toNat * 4)) := g6.2
                have hM0 := hI.1
                have hM : M (Old w0) w0 w [raw b3 (Flat.enc (Vector.replicate 4 (Vector.replicate 4 (0 : UInt8)))), raw b1 (Flat.enc j42), tog (D 9) (raw b7 (Flat.enc s13.2.1)) (raw b7 (Flat.enc (s13.2.1.setIfInBounds (j18).toNat x64)))] := hI.1
                have hM := hM.togA (pre := [_, _]) (Bool.eq_false_iff.2 fun hx => Bool.noConfusion (hD.symm.trans (hdc 9 _ _ rfl (List.mem_of_getElem? (i := 9) rfl) rfl hx)))
                refine s_loadA (cs := Flat.enc x67) hE goes_none (by decide) (lk rfl f6) ty98 rfl (At.vec (hM.rawAt (pre := [_, _])) hi66.2) (Flat.len _) ?_; intro a hE
                exact ⟨_, _, rfl, hE, M.qKeep hM0 rfl, hI.2.put hD rfl allN rfl⟩
              · intro a w ux62 D hE hI hD hdc hp
                have d0 : D 0 = true := hp 0 _ rfl rfl
                have g0 := hI.2 0 d0 _ rfl
                have f0 : ux62 0 = (vI j18) := g0.2
                have hM0 := hI.1
                have hM : M (Old w0) w0 w [raw b3 (Flat.enc (Vector.replicate 4 (Vector.replicate 4 (0 : UInt8)))), raw b1 (Flat.enc j42), tog (D 9) (raw b7 (Flat.enc s13.2.1)) (raw b7 (Flat.enc (s13.2.1.setIfInBounds (j18).toNat x64)))] := hI.1
                have hM := hM.togA (pre := [_, _]) (Bool.eq_false_iff.2 fun hx => Bool.noConfusion (hD.symm.trans (hdc 9 _ _ rfl (List.mem_of_getElem? (i := 0) rfl) rfl hx)))
                refine s_indexA hE goes_none (by decide) rfl (lk rfl f0) Try.underlying100 ty98 hi69.1 ?_; intro a hE
                exact ⟨_, _, rfl, hE, M.qKeep hM0 rfl, hI.2.put hD rfl allN rfl⟩
              · intro a w ux62 D hE hI hD hdc hp
                have d4 : D 4 = true := hp 1 _ rfl rfl
                have g4 := hI.2 4 d4 _ rfl
                have f4 : ux62 4 = (Value.agg (Flat.enc x64).toArray) := g4.2
                have d8 : D 8 = true := hp 0 _ rfl rfl
                have g8 := hI.2 8 d8 _ rfl
                have f8 : ux62 8 = (ptr b7 (0 + (j18).toNat * 4)) := g8.2
                have hM0 := hI.1
                have hM : M (Old w0) w0 w [raw b3 (Flat.enc (Vector.replicate 4 (Vector.replicate 4 (0 : UInt8)))), raw b1 (Flat.enc j42), tog (D 9) (raw b7 (Flat.enc s13.2.1)) (raw b7 (Flat.enc (s13.2.1.setIfInBounds (j18).toNat x64)))] := hI.1
                have hM := hM.togA (pre := [_, _]) hD
                have hM := hM.pull (pre := [_, _])
                refine s_store (seg := Flat.enc x64) (cs' := Flat.enc (s13.2.1.setIfInBounds (j18).toNat x64)) hE hM goes_none (lk rfl f8) (lk rfl f4) rfl ty98 (Flat.len _) (fit_vec (v := s13.2.1) (x := x64) hi69.1) (Flat.cell _) (splice_vec0 (v := s13.2.1) (x := x64) hi69.1) ?_; intro w a hM hE
                exact ⟨undef, _, rfl, Env.dummy hE (by decide), M.qTog (mk1 := []) (mk2 := []) hM rfl, hI.2.put hD rfl allN trivial⟩
              · intro a w ux62 D hE hI hall
                have hM : M (Old w0) w0 w [raw b3 (Flat.enc (Vector.replicate 4 (Vector.replicate 4 (0 : UInt8)))), raw b1 (Flat.enc j42), tog (D 9) (raw b7 (Flat.enc s13.2.1)) (raw b7 (Flat.enc (s13.2.1.setIfInBounds (j18).toNat x64)))] := hI.1
                have d0 : D 0 = true := hall 0 (by decide)
                have d1 : D 1 = true := hall 1 (by decide)
                have d2 : D 2 = true := hall 2 (by decide)
                have d3 : D 3 = true := hall 3 (by decide)
                have d4 : D 4 = true := hall 4 (by decide)
                have d5 : D 5 = true := hall 5 (by decide)
                have d6 : D 6 = true := hall 6 (by decide)
                have d7 : D 7 = true := hall 7 (by decide)
                have d8 : D 8 = true := hall 8 (by decide)
                have d9 : D 9 = true := hall 9 (by decide)
                have f0 : ux62 0 = (vI j18) := (hI.2 0 d0 _ rfl).2
                have f1 : ux62 1 = (vI s13.2.2.1) := (hI.2 1 d1 _ rfl).2
                have f2 : ux62 2 = (vI s13.2.2.1) := (hI.2 2 d2 _ rfl).2
                have f3 : ux62 3 = (ptr b7 (0 + (s13.2.2.1).toNat * 4)) := (hI.2 3 d3 _ rfl).2
                have f4 : ux62 4 = (Value.agg (Flat.enc x64).toArray) := (hI.2 4 d4 _ rfl).2
                have f5 : ux62 5 = (vI j18) := (hI.2 5 d5 _ rfl).2
                have f6 : ux62 6 = (ptr b7 (0 + (j18).toNat * 4)) := (hI.2 6 d6 _ rfl).2
                have f7 : ux62 7 = (Value.agg (Flat.enc x67).toArray) := (hI.2 7 d7 _ rfl).2
                have f8 : ux62 8 = (ptr b7 (0 + (j18).toNat * 4)) := (hI.2 8 d8 _ rfl).2
                have hM := hM.togB (pre := [_, _]) d9
                have hE := hE.sub (e' := [(45, (vI j18)), (46, (vI s13.2.2.1)), (47, (vI s13.2.2.1)), (48, (ptr b7 (0 + (s13.2.2.1).toNat * 4))), (49, (Value.agg (Flat.enc x64).toArray)), (50, (vI j18)), (51, (ptr b7 (0 + (j18).toNat * 4))), (52, (Value.agg (Flat.enc x67).toArray)), (53, (ptr b7 (0 + (j18).toNat * 4))), (0, (vI p0)), (3, (ptr b1 0)), (5, (ptr b3 0)), (6, (ptr b7 0)), (7, (vB s13.2.2.2)), (8, (vI s13.2.2.1)), (9, (vI j18)), (16, (vI s13.2.2.1))]) ⟨lk rfl f0, lk rfl f1, lk rfl f2, lk rfl f3, lk rfl f4, lk rfl f5, lk rfl f6, lk rfl f7, lk rfl f8, rfl, rfl, rfl, rfl, rfl, rfl, rfl, rfl, trivial⟩
                obtain ⟨x73, e74, hl60⟩ := bind_some hl60
                have hi72 := vidx_some e74
                refine s_indexA hE goes_none (by decide) rfl rfl Try.underlying100 ty98 hi72.1 ?_; intro a hE
                have hM := hM.pull (pre := [_, _])
                refine s_store (seg := Flat.enc x67) (cs' := Flat.enc ((s13.2.1.setIfInBounds (j18).toNat x64).setIfInBounds (s13.2.2.1).toNat x67)) hE hM goes_none rfl rfl rfl ty98 (Flat.len _) (fit_vec (v := (s13.2.1.setIfInBounds (j18).toNat x64)) (x := x67) hi72.1) (Flat.cell _) (splice_vec0 (v := (s13.2.1.setIfInBounds (j18).toNat x64)) (x := x67) hi72.1) ?_; intro w a hM hE
                refine c_fin0 ?_
                have ht75 := Option.some.inj hl60
                subst ht75
                refine c_mid ?_
                exact ⟨hE.sub ⟨rfl, rfl, rfl, rfl, rfl, rfl, rfl, trivial⟩, hM⟩
            · skip
              rintro a w ⟨hE, hM⟩
              refine c_region ?_
              refine s_move hE goes_none (by decide) rfl ?_; intro a hE
              refine s_move hE goes_none (by decide) rfl ?_; intro a hE
              refine s_move hE goes_none (by decide) rfl ?_; intro a hE
              refine s_move hE goes_none (by decide) rfl ?_; intro a hE
              obtain ⟨x77, e78, hF61⟩ := bind_some hF61
              have hi76 := vidx_some e78
              refine s_indexA hE goes_none (by decide) rfl rfl Try.underlying100 ty98 hi76.1 ?_; intro a hE
              obtain ⟨x80, e81, hF61⟩ := bind_some hF61
              have hi79 := vidx_some e81
              refine s_indexA hE goes_none (by decide) rfl rfl Try.underlying98 ty5 hi79.1 ?_; intro a hE
              refine s_load (v := (vB x80)) hE goes_none (by decide) rfl ty5 rfl (At.vec (At.vec (hM.rawAt (pre := [_, _])) hi76.2) hi79.2) ?_; intro a hE
              obtain ⟨r82, e83, hF61⟩ := bind_some hF61
              refine s_call (vs := [(vI p0), (vB s13.2.2.2), (vB x80)]) hE goes_none (by decide) rfl cb127 (c_impl_field_times _ p0 s13.2.2.2 x80 r82 e83) ?_
              rintro v w a ⟨rfl, hK⟩ hE
              have hM := hM.keep hK
              refine s_assign hE goes_none (by decide) rfl ?_; intro a hE
              refine c_fin ?_
              refine c_region ?_
              refine s_move hE goes_none (by decide) rfl ?_; intro a hE
              refine s_move hE goes_none (by decide) rfl ?_; intro a hE
              refine s_move hE goes_none (by decide) rfl ?_; intro a hE
              obtain ⟨x85, e86, hF61⟩ := bind_some hF61
              have hi84 := vidx_some e86
              refine s_indexA hE goes_none (by decide) rfl rfl Try.underlying100 ty98 hi84.1 ?_; intro a hE
              obtain ⟨x88, e89, hF61⟩ := bind_some hF61
              have hi87 := vidx_some e89
              refine s_indexA hE goes_none (by decide) rfl rfl Try.underlying98 ty5 hi87.1 ?_; intro a hE
              refine s_load (v := (vB x88)) hE goes_none (by decide) rfl ty5 rfl (At.vec (At.vec (hM.rawAt (pre := [_, _])) hi84.2) hi87.2) ?_; intro a hE
              obtain ⟨r90, e91, hF61⟩ := bind_some hF61
              refine s_call (vs := [(vI p0), (vB x88)]) hE goes_none (by decide) rfl cb111 (c_impl_field_inverse _ p0 x88 r90 e91) ?_
              rintro v w a ⟨rfl, hK⟩ hE
              have hM := hM.keep hK
              refine s_assign hE goes_none (by decide) rfl ?_; intro a hE
              refine c_fin ?_
              refine wp_seq ?_
              refine c_region ?_
              refine s_move hE goes_none (by decide) rfl ?_; intro a hE
              refine c_fin ?_
              obtain ⟨j92, hl93, hF94⟩ := bind_some hF61
              refine c_cut (fun a w => Env 153 a [(0, (vI p0)), (3, (ptr b1 0)), (5, (ptr b3 0)), (6, (ptr b7 0)), (7, (vB r82)), (8, (vI s13.2.2.1)), (16, (vI s13.2.2.1))] ∧ M (Old w0) w0 w [raw b7 (Flat.enc j92.2), raw b3 (Flat.enc (Vector.replicate 4 (Vector.replicate 4 (0 : UInt8)))), raw b1 (Flat.enc j92.1)]) ?_ ?_
              · skip
                refine wp_block ?_
                refine c_loop (fun (s95 : (Vector (Vector UInt8 4) 4) × (Vector (Vector UInt8 4) 4) × Int) a w => Env 153 a [(0, (vI p0)), (3, (ptr b1 0)), (5, (ptr b3 0)), (6, (ptr b7 0)), (7, (vB r82)), (8, (vI s13.2.2.1)), (10, (vB r90)), (16, (vI s13.2.2.1)), (70, (vI s95.2.2))] ∧ M (Old w0) w0 w [raw b7 (Flat.enc s95.2.1), raw b3 (Flat.enc (Vector.replicate 4 (Vector.replicate 4 (0 : UInt8)))), raw b1 (Flat.enc s95.1)]) hl93 ⟨hE.sub ⟨rfl, rfl, rfl, rfl, rfl, rfl, rfl, rfl, rfl, trivial⟩, hM⟩ ?_
                rintro s95 a w ⟨hE, hM⟩ o98 hs96 hx97
                unfold L2_impl_field_invert at hs96
                refine c_region ?_
                refine s_int hE goes_none (by decide) rfl rfl rfl ?_; intro a hE
                refine c_fin ?_
                refine wp_seq ?_
                refine c_cond hE rfl ?_ ?_
                · intro hb99
                  have hs96 := ite_t hs96 hb99
                  refine wp_skip ?_
                  refine c_nx ?_
                  refine wp_seq ?_
                  refine wp_block ?_
                  refine c_region ?_
                  refine s_move hE goes_none (by decide) rfl ?_; intro a hE
                  refine s_assign hE goes_none (by decide) rfl ?_; intro a hE
                  refine c_fin ?_
                  have hM := hM.pull (pre := [_, _])
                  obtain ⟨x102, e103, hs96⟩ := bind_some hs96
                  have hi101 := vidx_some e103
                  obtain ⟨x105, e106, hs96⟩ := bind_some hs96
                  have hi104 := vidx_some e106
                  obtain ⟨r107, e108, hs96⟩ := bind_some hs96
                  obtain ⟨x110, e111, hs96⟩ := bind_some hs96
                  have hi109 := vidx_some e111
                  obtain ⟨x113, e114, hs96⟩ := bind_some hs96
                  have hi112 := vidx_some e114
                  obtain ⟨r115, e116, hs96⟩ := bind_some hs96
                  obtain ⟨x118, e119, hs96⟩ := bind_some hs96
                  have hi117 := vidx_some e119
                  obtain ⟨x121, e122, hs96⟩ := bind_some hs96
                  have hi120 := vidx_some e122
                  obtain ⟨x124, e125, hs96⟩ := bind_some hs96
                  have hi123 := vidx_some e125
                  refine c_draw3 (n := 153) (hd := [_, _, _, _, _, _, _, _, _, _, _, _, _, _, _, _, _, _, _, _, _, _, _, _]) (tl := [_, _]) hmix rfl rfl [73, 74, 75, 76, 77, 78, 79, 80, 81, 82, 83, 84, 85, 86, 87, 88, 89, 90, 91, 92, 93, 94, 175, 95] (by decide) (fun D u w => M (Old w0) w0 w ([raw b7 (Flat.enc s95.2.1), raw b3 (Flat.enc (Vector.replicate 4 (Vector.replicate 4 (0 : UInt8))))] ++ qL ([mkT 22 (raw b1 (Flat.enc s95.1)) (raw b1 (Flat.enc (s95.1.setIfInBounds (s13.2.2.1).toNat (x118.setIfInBounds (s95.2.2).toNat r107))))] : Mk) D u) ∧ GOk ([([], fun us v => v = (vI s13.2.2.1)), ([], fun us v => v = (vI s95.2.2)), ([], fun us v => v = (vI s13.2.2.1)), ([], fun us v => v = (vI s95.2.2)), ([], fun us v => v = (vI p0)), ([], fun us v => v = (vI s13.2.2.1)), ([], fun us v => v = (vI s95.2.2)), ([], fun us v => v = (ptr b1 (0 + (s13.2.2.1).toNat * 4))), ([], fun us v => v = (ptr b1 (0 + (s13.2.2.1).toNat * 4 + (s95.2.2).toNat * 1))), ([], fun us v => v = (vB x105)), ([], fun us v => v = (vB r90)), ([], fun us v => v = (vB r107)), ([], fun us v => v = (vI p0)), ([], fun us v => v = (vI s13.2.2.1)), ([], fun us v => v = (vI s95.2.2)), ([], fun us v => v = (ptr b7 (0 + (s13.2.2.1).toNat * 4))), ([], fun us v => v = (ptr b7 (0 + (s13.2.2.1).toNat * 4 + (s95.2.2).toNat * 1))), ([], fun us v => v = (vB x113)), ([], fun us v => v = (vB r90)), ([], fun us v => v = (vB r115)), ([], fun us v => v = (ptr b1 (0 + (s13.2.2.1).toNat * 4))), ([], fun us v => v = (ptr b1 (0 + (s13.2.2.1).toNat * 4 + (s95.2.2).toNat * 1))), ([], fun us v => True), ([], fun us v => v = (ptr b7 (0 + (s13.2.2.1).toNat * 4)))] : Gs) D u) hE (fun u => ⟨M.qT (M.q0 hM.drew u), gok0⟩) (steps_of (steps_cons ?_ (steps_cons ?_ (steps_cons ?_ (steps_cons ?_ (steps_cons ?_ (steps_cons ?_ (steps_cons ?_ (steps_cons ?_ (steps_cons ?_ (steps_cons ?_ (steps_cons ?_ (steps_cons ?_ (steps_cons ?_ (steps_cons ?_ (steps_cons ?_ (steps_cons ?_ (steps_cons ?_ (steps_cons ?_ (steps_cons ?_ (steps_cons ?_ (steps_cons ?_ (steps_cons ?_ (steps_cons ?_ (steps_cons ?_ steps_nil))))))))))))))))))))))))) ?_
                  · intro a w ux100 D hE hI hD hdc hp
                    have hM0 := hI.1
                    have hM : M (Old w0) w0 w [raw b7 (Flat.enc s95.2.1), raw b3 (Flat.enc (Vector.replicate 4 (Vector.replicate 4 (0 : UInt8)))), tog (D 22) (raw b1 (Flat.enc s95.1)) (raw b1 (Flat.enc (s95.1.setIfInBounds (s13.2.2.1).toNat (x118.setIfInBounds (s95.2.2).toNat r107))))] := hI.1
                    have hM := hM.togA (pre := [_, _]) (Bool.eq_false_iff.2 fun hx => Bool.noConfusion (hD.symm.trans (hdc 22 _ _ rfl (List.mem_of_getElem? (i := 3) rfl) rfl hx)))
                    refine s_move hE goes_none (by decide) rfl ?_; intro a hE
                    exact ⟨_, _, rfl, hE, M.qKeep hM0 rfl, hI.2.put hD rfl allN rfl⟩
                  · intro a w ux100 D hE hI hD hdc hp
                    have hM0 := hI.1
                    have hM : M (Old w0) w0 w [raw b7 (Flat.enc s95.2.1), raw b3 (Flat.enc (Vector.replicate 4 (Vector.replicate 4 (0 : UInt8)))), tog (D 22) (raw b1 (Flat.enc s95.1)) (raw b1 (Flat.enc (s95.1.setIfInBounds (s13.2.2.1).toNat (x118.setIfInBounds (s95.2.2).toNat r107))))] := hI.1
                    have hM := hM.togA (pre := [_, _]) (Bool.eq_false_iff.2 fun hx => Bool.noConfusion (hD.symm.trans (hdc 22 _ _ rfl (List.mem_of_getElem? (i := 4) rfl) rfl hx)))
                    refine s_move hE goes_none (by decide) rfl ?_; intro a hE
                    exact ⟨_, _, rfl, hE, M.qKeep hM0 rfl, hI.2.put hD rfl allN rfl⟩
                  · intro a w ux100 D hE hI hD hdc hp
                    have hM0 := hI.1
                    have hM : M (Old w0) w0 w [raw b7 (Flat.enc s95.2.1), raw b3 (Flat.enc (Vector.replicate 4 (Vector.replicate 4 (0 : UInt8)))), tog (D 22) (raw b1 (Flat.enc s95.1)) (raw b1 (Flat.enc (s95.1.setIfInBounds (s13.2.2.1).toNat (x118.setIfInBounds (s95.2.2).toNat r107))))] := hI.1
                    refine s_move hE goes_none (by decide) rfl ?_; intro a hE
                    exact ⟨_, _, rfl, hE, M.qKeep hM0 rfl, hI.2.put hD rfl allN rfl⟩
                  · intro a w ux100 D hE hI hD hdc hp
                    have hM0 := hI.1
                    have hM : M (Old w0) w0 w [raw b7 (Flat.enc s95.2.1), raw b3 (Flat.enc (Vector.replicate 4 (Vector.replicate 4 (0 : UInt8)))), tog (D 22) (raw b1 (Flat.enc s95.1)) (raw b1 (Flat.enc (s95.1.setIfInBounds (s13.2.2.1).toNat (x118.setIfInBounds (s95.2.2).toNat r107))))] := hI.1
                    refine s_move hE goes_none (by decide) rfl ?_; intro a hE
                    exact ⟨_, _, rfl, hE, M.qKeep hM0 rfl, hI.2.put hD rfl allN rfl⟩
                  · intro a w ux100 D hE hI hD hdc hp
                    have hM0 := hI.1
                    have hM : M (Old w0) w0 w [raw b7 (Flat.enc s95.2.1), raw b3 (Flat.enc (Vector.replicate 4 (Vector.replicate 4 (0 : UInt8)))), tog (D 22) (raw b1 (Flat.enc s95.1)) (raw b1 (Flat.enc (s95.1.setIfInBounds (s13.2.2.1).toNat (x118.setIfInBounds (s95.2.2).toNat r107))))] := hI.1
                    have hM := hM.togA (pre := [_, _]) (Bool.eq_false_iff.2 fun hx => Bool.noConfusion (hD.symm.trans (hdc 22 _ _ rfl (List.mem_of_getElem? (i := 7) rfl) rfl hx)))
                    refine s_move hE goes_none (by decide) rfl ?_; intro a hE
                    exact ⟨_, _, rfl, hE, M.qKeep hM0 rfl, hI.2.put hD rfl allN rfl⟩
                  · intro a w ux100 D hE hI hD hdc hp
                    have hM0 := hI.1
                    have hM : M (Old w0) w0 w [raw b7 (Flat.enc s95.2.1), raw b3 (Flat.enc (Vector.replicate 4 (Vector.replicate 4 (0 : UInt8)))), tog (D 22) (raw b1 (Flat.enc s95.1)) (raw b1 (Flat.enc (s95.1.setIfInBounds (s13.2.2.1).toNat (x118.setIfInBounds (s95.2.2).toNat r107))))] := hI.1
                    have hM := hM.togA (pre := [_, _]) (Bool.eq_false_iff.2 fun hx => Bool.noConfusion (hD.symm.trans (hdc 22 _ _ rfl (List.mem_of_getElem? (i := 8) rfl) rfl hx)))
                    refine s_move hE goes_none (by decide) rfl ?_; intro a hE
                    exact ⟨_, _, rfl, hE, M.qKeep hM0 rfl, hI.2.put hD rfl allN rfl⟩
                  · intro a w ux100 D hE hI hD hdc hp
                    have hM0 := hI.1
                    have hM : M (Old w0) w0 w [raw b7 (Flat.enc s95.2.1), raw b3 (Flat.enc (Vector.replicate 4 (Vector.replicate 4 (0 : UInt8)))), tog (D 22) (raw b1 (Flat.enc s95.1)) (raw b1 (Flat.enc (s95.1.setIfInBounds (s13.2.2.1).toNat (x118.setIfInBounds (s95.2.2).toNat r107))))] := hI.1
                    have hM := hM.togA (pre := [_, _]) (Bool.eq_false_iff.2 fun hx => Bool.noConfusion (hD.symm.trans (hdc 22 _ _ rfl (List.mem_of_getElem? (i := 9) rfl) rfl hx)))
                    refine s_move hE goes_none (by decide) rfl ?_; intro a hE
                    exact ⟨_, _, rfl, hE, M.qKeep hM0 rfl, hI.2.put hD rfl allN rfl⟩
                  · intro a w ux100 D hE hI hD hdc hp
                    have d5 : D 5 = true := hp 0 _ rfl rfl
                    have g5 := hI.2 5 d5 _ rfl
                    have f5 : ux100 5 = (vI s13.2.2.1) := g5.2
                    have hM0 := hI.1
                    have hM : M (Old w0) w0 w [raw b7 (Flat.enc s95.2.1), raw b3 (Flat.enc (Vector.replicate 4 (Vector.replicate 4 (0 : UInt8)))), tog (D 22) (raw b1 (Flat.enc s95.1)) (raw b1 (Flat.enc (s95.1.setIfInBounds (s13.2.2.1).toNat (x118.setIfInBounds (s95.2.2).toNat r107))))] := hI.1
                    have hM := hM.togA (pre := [_, _]) (Bool.eq_false_iff.2 fun hx => Bool.noConfusion (hD.symm.trans (hdc 22 _ _ rfl (List.mem_of_getElem? (i := 10) rfl) rfl hx)))
                    refine s_indexA hE goes_none (by decide) rfl (lk rfl f5) Try.underlying100 ty98 hi101.1 ?_; intro a hE
                    exact ⟨_, _, rfl, hE, M.qKeep hM0 rfl, hI.2.put hD rfl allN rfl⟩
                  · intro a w ux100 D hE hI hD hdc hp
                    have d6 : D 6 = true := hp 1 _ rfl rfl
                    have g6 := hI.2 6 d6 _ rfl
                    have f6 : ux100 6 = (vI s95.2.2) := g6.2
                    have d7 : D 7 = true := hp 0 _ rfl rfl
                    have g7 := hI.2 7 d7 _ rfl
                    have f7 : ux100 7 = (ptr b1 (0 + (s13.2.2.1).toNat * 4)) := g7.2
                    have hM0 := hI.1
                    have hM : M (Old w0) w0 w [raw b7 (Flat.enc s95.2.1), raw b3 (Flat.enc (Vector.replicate 4 (Vector.replicate 4 (0 : UInt8)))), tog (D 22) (raw b1 (Flat.enc s95.1)) (raw b1 (Flat.enc (s95.1.setIfInBounds (s13.2.2.1).toNat (x118.setIfInBounds (s95.2.2).toNat r107))))] := hI.1
                    have hM := hM.togA (pre := [_, _]) (Bool.eq_false_iff.2 fun hx => Bool.noConfusion (hD.symm.trans (hdc 22 _ _ rfl (List.mem_of_getElem? (i := 11) rfl) rfl hx)))
                    refine s_indexA hE goes_none (by decide) (lk rfl f7) (lk rfl f6) Try.underlying98 ty5 hi104.1 ?_; intro a hE
                    exact ⟨_, _, rfl, hE, M.qKeep hM0 rfl, hI.2.put hD rfl allN rfl⟩
                  · intro a w ux100 D hE hI hD hdc hp
                    have d8 : D 8 = true := hp 0 _ rfl rfl
                    have g8 := hI.2 8 d8 _ rfl
                    have f8 : ux100 8 = (ptr b1 (0 + (s13.2.2.1).toNat * 4 + (s95.2.2).toNat * 1)) := g8.2
                    have hM0 := hI.1
                    have hM : M (Old w0) w0 w [raw b7 (Flat.enc s95.2.1), raw b3 (Flat.enc (Vector.replicate 4 (Vector.replicate 4 (0 : UInt8)))), tog (D 22) (raw b1 (Flat.enc s95.1)) (raw b1 (Flat.enc (s95.1.setIfInBounds (s13.2.2.1).toNat (x118.setIfInBounds (s95.2.2).toNat r107))))] := hI.1
                    have hM := hM.togA (pre := [_, _]) (Bool.eq_false_iff.2 fun hx => Bool.noConfusion (hD.symm.trans (hdc 22 _ _ rfl (List.mem_of_getElem? (i := 12) rfl) rfl hx)))
                    refine s_load (v := (vB x105)) hE goes_none (by decide) (lk rfl f8) ty5 rfl (At.vec (At.vec (hM.rawAt (pre := [_, _])) hi101.2) hi104.2) ?_; intro a hE
                    exact ⟨_, _, rfl, hE, M.qKeep hM0 rfl, hI.2.put hD rfl allN rfl⟩
                  · intro a w ux100 D hE hI hD hdc hp
                    have hM0 := hI.1
                    have hM : M (Old w0) w0 w [raw b7 (Flat.enc s95.2.1), raw b3 (Flat.enc (Vector.replicate 4 (Vector.replicate 4 (0 : UInt8)))), tog (D 22) (raw b1 (Flat.enc s95.1)) (raw b1 (Flat.enc (s95.1.setIfInBounds (s13.2.2.1).toNat (x118.setIfInBounds (s95.2.2).toNat r107))))] := hI.1
                    have hM := hM.togA (pre := [_, _]) (Bool.eq_false_iff.2 fun hx => Bool.noConfusion (hD.symm.trans (hdc 22 _ _ rfl (List.mem_of_getElem? (i := 13) rfl) rfl hx)))
                    refine s_move hE goes_none (by decide) rfl ?_; intro a hE
                    exact ⟨_, _, rfl, hE, M.qKeep hM0 rfl, hI.2.put hD rfl allN rfl⟩
                  · intro a w ux100 D hE hI hD hdc hp
                    have d4 : D 4 = true := hp 0 _ rfl rfl
                    have g4 := hI.2 4 d4 _ rfl
                    have f4 : ux100 4 = (vI p0) := g4.2
                    have d9 : D 9 = true := hp 1 _ rfl rfl
                    have g9 := hI.2 9 d9 _ rfl
                    have f9 : ux100 9 = (vB x105) := g9.2
                    have d10 : D 10 = true := hp 2 _ rfl rfl
                    have g10 := hI.2 10 d10 _ rfl
                    have f10 : ux100 10 = (vB r90) := g10.2
                    have hM0 := hI.1
                    have hM : M (Old w0) w0 w [raw b7 (Flat.enc s95.2.1), raw b3 (Flat.enc (Vector.replicate 4 (Vector.replicate 4 (0 : UInt8)))), tog (D 22) (raw b1 (Flat.enc s95.1)) (raw b1 (Flat.enc (s95.1.setIfInBounds (s13.2.2.1).toNat (x118.setIfInBounds (s95.2.2).toNat r107))))] := hI.1
                    have hM := hM.togA (pre := [_, _]) (Bool.eq_false_iff.2 fun hx => Bool.noConfusion (hD.symm.trans (hdc 22 _ _ rfl (List.mem_of_getElem? (i := 1) rfl) rfl hx)))
                    refine s_call (vs := [(vI p0), (vB x105), (vB r90)]) hE goes_none (by decide) (evs_of (evsC (lk rfl f4) (evsC (lk rfl f9) (evsC (lk rfl f10) evsN)))) cb127 (c_impl_field_times _ p0 x105 r90 r107 e108) ?_
                    rintro v w a ⟨rfl, hK⟩ hE
                    exact ⟨_, _, rfl, hE, M.qKeep (hM0.keep hK) rfl, hI.2.put hD rfl allN rfl⟩
                  · intro a w ux100 D hE hI hD hdc hp
                    have hM0 := hI.1
                    have hM : M (Old w0) w0 w [raw b7 (Flat.enc s95.2.1), raw b3 (Flat.enc (Vector.replicate 4 (Vector.replicate 4 (0 : UInt8)))), tog (D 22) (raw b1 (Flat.enc s95.1)) (raw b1 (Flat.enc (s95.1.setIfInBounds (s13.2.2.1).toNat (x118.setIfInBounds (s95.2.2).toNat r107))))] := hI.1
                    refine s_move hE goes_none (by decide) rfl ?_; intro a hE
                    exact ⟨_, _, rfl, hE, M.qKeep hM0 rfl, hI.2.put hD rfl allN rfl⟩
                  · intro a w ux100 D hE hI hD hdc hp
                    have hM0 := hI.1
                    have hM : M (Old w0) w0 w [raw b7 (Flat.enc s95.2.1), raw b3 (Flat.enc (Vector.replicate 4 (Vector.replicate 4 (0 : UInt8)))), tog (D 22) (raw b1 (Flat.enc s95.1)) (raw b1 (Flat.enc (s95.1.setIfInBounds (s13.2.2.1).toNat (x118.setIfInBounds (s95.2.2).toNat r107))))] := hI.1
                    refine s_move hE goes_none (by decide) rfl ?_; intro a hE
                    exact ⟨_, _, rfl, hE, M.qKeep hM0 rfl, hI.2.put hD rfl allN rfl⟩
                  · intro a w ux100 D hE hI hD hdc hp
                    have hM0 := hI.1
                    have hM : M (Old w0) w0 w [raw b7 (Flat.enc s95.2.1), raw b3 (Flat.enc (Vector.replicate 4 (Vector.replicate 4 (0 : UInt8)))), tog (D 22) (raw b1 (Flat.enc s95.1)) (raw b1 (Flat.enc (s95.1.setIfInBounds (s13.2.2.1).toNat (x118.setIfInBounds (s95.2.2).toNat r107))))] := hI.1
                    refine s_move hE goes_none (by decide) rfl ?_; intro a hE
                    exact ⟨_, _, rfl, hE, M.qKeep hM0 rfl, hI.2.put hD rfl allN rfl⟩
                  · intro a w ux100 D hE hI hD hdc hp
                    have d13 : D 13 = true := hp 0 _ rfl rfl
                    have g13 := hI.2 13 d13 _ rfl
                    have f13 : ux100 13 = (vI s13.2.2.1) := g13.2
                    have hM0 := hI.1
                    have hM : M (Old w0) w0 w [raw b7 (Flat.enc s95.2.1), raw b3 (Flat.enc (Vector.replicate 4 (Vector.replicate 4 (0 : UInt8)))), tog (D 22) (raw b1 (Flat.enc s95.1)) (raw b1 (Flat.enc (s95.1.setIfInBounds (s13.2.2.1).toNat (x118.setIfInBounds (s95.2.2).toNat r107))))] := hI.1
                    refine s_indexA hE goes_none (by decide) rfl (lk rfl f13) Try.underlying100 ty98 hi109.1 ?_; intro a hE
                    exact ⟨_, _, rfl, hE, M.qKeep hM0 rfl, hI.2.put hD rfl allN rfl⟩
                  · intro a w ux100 D hE hI hD hdc hp
                    have d14 : D 14 = true := hp 1 _ rfl rfl
                    have g14 := hI.2 14 d14 _ rfl
                    have f14 : ux100 14 = (vI s95.2.2) := g14.2
                    have d15 : D 15 = true := hp 0 _ rfl rfl
                    have g15 := hI.2 15 d15 _ rfl
                    have f15 : ux100 15 = (ptr b7 (0 + (s13.2.2.1).toNat * 4)) := g15.2
                    have hM0 := hI.1
                    have hM : M (Old w0) w0 w [raw b7 (Flat.enc s95.2.1), raw b3 (Flat.enc (Vector.replicate 4 (Vector.replicate 4 (0 : UInt8)))), tog (D 22) (raw b1 (Flat.enc s95.1)) (raw b1 (Flat.enc (s95.1.setIfInBounds (s13.2.2.1).toNat (x118.setIfInBounds (s95.2.2).toNat r107))))] := hI.1
                    refine s_indexA hE goes_none (by decide) (lk rfl f15) (lk rfl f14) Try.underlying98 ty5 hi112.1 ?_; intro a hE
                    exact ⟨_, _, rfl, hE, M.qKeep hM0 rfl, hI.2.put hD rfl allN rfl⟩
                  · intro a w ux100 D hE hI hD hdc hp
                    have d16 : D 16 = true := hp 0 _ rfl rfl
                    have g16 := hI.2 16 d16 _ rfl
                    have f16 : ux100 16 = (ptr b7 (0 + (s13.2.2.1).toNat * 4 + (s95.2.2).toNat * 1)) := g16.2
                    have hM0 := hI.1
                    have hM : M (Old w0) w0 w [raw b7 (Flat.enc s95.2.1), raw b3 (Flat.enc (Vector.replicate 4 (Vector.replicate 4 (0 : UInt8)))), tog (D 22) (raw b1 (Flat.enc s95.1)) (raw b1 (Flat.enc (s95.1.setIfInBounds (s13.2.2.1).toNat (x118.setIfInBounds (s95.2.2).toNat r107))))] := hI.1
                    refine s_load (v := (vB x113)) hE goes_none (by decide) (lk rfl f16) ty5 rfl (At.vec (At.vec (hM.rawAt (pre := [])) hi109.2) hi112.2) ?_; intro a hE
                    exact ⟨_, _, rfl, hE, M.qKeep hM0 rfl, hI.2.put hD rfl allN rfl⟩
                  · intro a w ux100 D hE hI hD hdc hp
                    have hM0 := hI.1
                    have hM : M (Old w0) w0 w [raw b7 (Flat.enc s95.2.1), raw b3 (Flat.enc (Vector.replicate 4 (Vector.replicate 4 (0 : UInt8)))), tog (D 22) (raw b1 (Flat.enc s95.1)) (raw b1 (Flat.enc (s95.1.setIfInBounds (s13.2.2.1).toNat (x118.setIfInBounds (s95.2.2).toNat r107))))] := hI.1
                    refine s_move hE goes_none (by decide) rfl ?_; intro a hE
                    exact ⟨_, _, rfl, hE, M.qKeep hM0 rfl, hI.2.put hD rfl allN rfl⟩
                  · intro a w ux100 D hE hI hD hdc hp
                    have d12 : D 12 = true := hp 0 _ rfl rfl
                    have g12 := hI.2 12 d12 _ rfl
                    have f12 : ux100 12 = (vI p0) := g12.2
                    have d17 : D 17 = true := hp 1 _ rfl rfl
                    have g17 := hI.2 17 d17 _ rfl
                    have f17 : ux100 17 = (vB x113) := g17.2
                    have d18 : D 18 = true := hp 2 _ rfl rfl
                    have g18 := hI.2 18 d18 _ rfl
                    have f18 : ux100 18 = (vB r90) := g18.2
                    have hM0 := hI.1
                    have hM : M (Old w0) w0 w [raw b7 (Flat.enc s95.2.1), raw b3 (Flat.enc (Vector.replicate 4 (Vector.replicate 4 (0 : UInt8)))), tog (D 22) (raw b1 (Flat.enc s95.1)) (raw b1 (Flat.enc (s95.1.setIfInBounds (s13.2.2.1).toNat (x118.setIfInBounds (s95.2.2).toNat r107))))] := hI.1
                    have hM := hM.togA (pre := [_, _]) (Bool.eq_false_iff.2 fun hx => Bool.noConfusion (hD.symm.trans (hdc 22 _ _ rfl (List.mem_of_getElem? (i := 2) rfl) rfl hx)))
                    refine s_call (vs := [(vI p0), (vB x113), (vB r90)]) hE goes_none (by decide) (evs_of (evsC (lk rfl f12) (evsC (lk rfl f17) (evsC (lk rfl f18) evsN)))) cb127 (c_impl_field_times _ p0 x113 r90 r115 e116) ?_
                    rintro v w a ⟨rfl, hK⟩ hE
                    exact ⟨_, _, rfl, hE, M.qKeep (hM0.keep hK) rfl, hI.2.put hD rfl allN rfl⟩
                  · intro a w ux100 D hE hI hD hdc hp
                    have d0 : D 0 = true := hp 0 _ rfl rfl
                    have g0 := hI.2 0 d0 _ rfl
                    have f0 : ux100 0 = (vI s13.2.2.1) := g0.2
                    have hM0 := hI.1
                    have hM : M (Old w0) w0 w [raw b7 (Flat.enc s95.2.1), raw b3 (Flat.enc (Vector.replicate 4 (Vector.replicate 4 (0 : UInt8)))), tog (D 22) (raw b1 (Flat.enc s95.1)) (raw b1 (Flat.enc (s95.1.setIfInBounds (s13.2.2.1).toNat (x118.setIfInBounds (s95.2.2).toNat r107))))] := hI.1
                    refine s_indexA hE goes_none (by decide) rfl (lk rfl f0) Try.underlying100 ty98 hi117.1 ?_; intro a hE
                    exact ⟨_, _, rfl, hE, M.qKeep hM0 rfl, hI.2.put hD rfl allN rfl⟩
                  · intro a w ux100 D hE hI hD hdc hp
                    have d1 : D 1 = true := hp 1 _ rfl rfl
                    have g1 := hI.2 1 d1 _ rfl
                    have f1 : ux100 1 = (vI s95.2.2) := g1.2
                    have d20 : D 20 = true := hp 0 _ rfl rfl
                    have g20 := hI.2 20 d20 _ rfl
                    have f20 : ux100 20 = (ptr b1 (0 + (s13.2.2.1).toNat * 4)) := g20.2
                    have hM0 := hI.1
                    have hM : M (Old w0) w0 w [raw b7 (Flat.enc s95.2.1), raw b3 (Flat.enc (Vector.replicate 4 (Vector.replicate 4 (0 : UInt8)))), tog (D 22) (raw b1 (Flat.enc s95.1)) (raw b1 (Flat.enc (s95.1.setIfInBounds (s13.2.2.1).toNat (x118.setIfInBounds (s95.2.2).toNat r107))))] := hI.1
                    have hM := hM.togA (pre := [_, _]) (Bool.eq_false_iff.2 fun hx => Bool.noConfusion (hD.symm.trans (hdc 22 _ _ rfl (List.mem_of_getElem? (i := 0) rfl) rfl hx)))
                    refine s_indexA hE goes_none (by decide) (lk rfl f20) (lk rfl f1) Try.underlying98 ty5 hi120.1 ?_; intro a hE
                    exact ⟨_, _, rfl, hE, M.qKeep hM0 rfl, hI.2.put hD rfl allN rfl⟩
                  · intro a w ux100 D hE hI hD hdc hp
                    have d11 : D 11 = true := hp 1 _ rfl rfl
                    have g11 := hI.2 11 d11 _ rfl
                    have f11 : ux100 11 = (vB r107) := g11.2
                    have d21 : D 21 = true := hp 0 _ rfl rfl
                    have g21 := hI.2 21 d21 _ rfl
                    have f21 : ux100 21 = (ptr b1 (0 + (s13.2.2.1).toNat * 4 + (s95.2.2).toNat * 1)) := g21.2
                    have hM0 := hI.1
                    have hM : M (Old w0) w0 w [raw b7 (Flat.enc s95.2.1), raw b3 (Flat.enc (Vector.replicate 4 (Vector.replicate 4 (0 : UInt8)))), tog (D 22) (raw b1 (Flat.enc s95.1)) (raw b1 (Flat.enc (s95.1.setIfInBounds (s13.2.2.1).toNat (x118.setIfInBounds (s95.2.2).toNat r107))))] := hI.1
                    have hM := hM.togA (pre := [_, _]) hD
                    have hM := hM.pull (pre := [_, _])
                    refine s_store (seg := [(vB r107)]) (cs' := Flat.enc (s95.1.setIfInBounds (s13.2.2.1).toNat (x118.setIfInBounds (s95.2.2).toNat r107))) hE hM goes_none (lk rfl f21) (lk rfl f11) rfl ty5 rfl (fit_vecI (o' := 0 + (s95.2.2).toNat * 1) hi117 (fit_vec (v := x118) (x := r107) hi120.1) (by first | omega | (simp only [Flat.n] <;> omega))) (Flat.cell (r107 : UInt8)) (splice_vecI (o' := 0 + (s95.2.2).toNat * 1) hi117 (fit_vec (v := x118) (x := r107) hi120.1) (splice_vec0 (v := x118) (x := r107) hi120.1) (by first | omega | (simp only [Flat.n] <;> omega))) ?_; intro w a hM hE
                    exact ⟨undef, _, rfl, Env.dummy hE (by decide), M.qTog (mk1 := []) (mk2 := []) hM rfl, hI.2.put hD rfl allN trivial⟩
                  · intro a w ux100 D hE hI hD hdc hp
                    have d2 : D 2 = true := hp 0 _ rfl rfl
                    have g2 := hI.2 2 d2 _ rfl
                    have f2 : ux100 2 = (vI s13.2.2.1) := g2.2
                    have hM0 := hI.1
                    have hM : M (Old w0) w0 w [raw b7 (Flat.enc s95.2.1), raw b3 (Flat.enc (Vector.replicate 4 (Vector.replicate 4 (0 : UInt8)))), tog (D 22) (raw b1 (Flat.enc s95.1)) (raw b1 (Flat.enc (s95.1.setIfInBounds (s13.2.2.1).toNat (x118.setIfInBounds (s95.2.2).toNat r107))))] := hI.1
                    refine s_indexA hE goes_none (by decide) rfl (lk rfl f2) Try.underlying100 ty98 hi123.1 ?_; intro a hE
                    exact ⟨_, _, rfl, hE, M.qKeep hM0 rfl, hI.2.put hD rfl allN rfl⟩
                  · intro a w ux100 D hE hI hall
                    have hM : M (Old w0) w0 w [raw b7 (Flat.enc s95.2.1), raw b3 (Flat.enc (Vector.replicate 4 (Vector.replicate 4 (0 : UInt8)))), tog (D 22) (raw b1 (Flat.enc s95.1)) (raw b1 (Flat.enc (s95.1.setIfInBounds (s13.2.2.1).toNat (x118.setIfInBounds (s95.2.2).toNat r107))))] := hI.1
                    have d0 : D 0 = true := hall 0 (by decide)
                    have d1 : D 1 = true := hall 1 (by decide)
                    have d2 : D 2 = true := hall 2 (by decide)
                    have d3 : D 3 = true := hall 3 (by decide)
                    have d4 : D 4 = true := hall 4 (by decide)
                    have d5 : D 5 = true := hall 5 (by decide)
                    have d6 : D 6 = true := hall 6 (by decide)
                    have d7 : D 7 = true := hall 7 (by decide)
                    have d8 : D 8 = true := hall 8 (by decide)
                    have d9 : D 9 = true := hall 9 (by decide)
                    have d10 : D 10 = true := hall 10 (by decide)
                    have d11 : D 11 = true := hall 11 (by decide)
                    have d12 : D 12 = true := hall 12 (by decide)
                    have d13 : D 13 = true := hall 13 (by decide)
                    have d14 : D 14 = true := hall 14 (by decide)
                    have d15 : D 15 = true := hall 15 (by decide)
                    have d16 : D 16 = true := hall 16 (by decide)
                    have d17 : D 17 = true := hall 17 (by decide)
                    have d18 : D 18 = true := hall 18 (by decide)
                    have d19 : D 19 = true := hall 19 (by decide)
                    have d20 : D 20 = true := hall 20 (by decide)
                    have d21 : D 21 = true := hall 21 (by decide)
                    have d22 : D 22 = true := hall 22 (by decide)
                    have d23 : D 23 = true := hall 23 (by decide)
                    have f0 : ux100 0 = (vI s13.2.2.1) := (hI.2 0 d0 _ rfl).2
                    have f1 : ux100 1 = (vI s95.2.2) := (hI.2 1 d1 _ rfl).2
                    have f2 : ux100 2 = (vI s13.2.2.1) := (hI.2 2 d2 _ rfl).2
                    have f3 : ux100 3 = (vI s95.2.2) := (hI.2 3 d3 _ rfl).2
                    have f4 : ux100 4 = (vI p0) := (hI.2 4 d4 _ rfl).2
                    have f5 : ux100 5 = (vI s13.2.2.1) := (hI.2 5 d5 _ rfl).2
                    have f6 : ux100 6 = (vI s95.2.2) := (hI.2 6 d6 _ rfl).2
                    have f7 : ux100 7 = (ptr b1 (0 + (s13.2.2.1).toNat * 4)) := (hI.2 7 d7 _ rfl).2
                    have f8 : ux100 8 = (ptr b1 (0 + (s13.2.2.1).toNat * 4 + (s95.2.2).toNat * 1)) := (hI.2 8 d8 _ rfl).2
                    have f9 : ux100 9 = (vB x105) := (hI.2 9 d9 _ rfl).2
                    have f10 : ux100 10 = (vB r90) := (hI.2 10 d10 _ rfl).2
                    have f11 : ux100 11 = (vB r107) := (hI.2 11 d11 _ rfl).2
                    have f12 : ux100 12 = (vI p0) := (hI.2 12 d12 _ rfl).2
                    have f13 : ux100 13 = (vI s13.2.2.1) := (hI.2 13 d13 _ rfl).2
                    have f14 : ux100 14 = (vI s95.2.2) := (hI.2 14 d14 _ rfl).2
                    have f15 : ux100 15 = (ptr b7 (0 + (s13.2.2.1).toNat * 4)) := (hI.2 15 d15 _ rfl).2
                    have f16 : ux100 16 = (ptr b7 (0 + (s13.2.2.1).toNat * 4 + (s95.2.2).toNat * 1)) := (hI.2 16 d16 _ rfl).2
                    have f17 : ux100 17 = (vB x113) := (hI.2 17 d17 _ rfl).2
                    have f18 : ux100 18 = (vB r90) := (hI.2 18 d18 _ rfl).2
                    have f19 : ux100 19 = (vB r115) := (hI.2 19 d19 _ rfl).2
                    have f20 : ux100 20 = (ptr b1 (0 + (s13.2.2.1).toNat * 4)) := (hI.2 20 d20 _ rfl).2
                    have f21 : ux100 21 = (ptr b1 (0 + (s13.2.2.1).toNat * 4 + (s95.2.2).toNat * 1)) := (hI.2 21 d21 _ rfl).2
                    have f23 : ux100 23 = (ptr b7 (0 + (s13.2.2.1).toNat * 4)) := (hI.2 23 d23 _ rfl).2
                    have hM := hM.togB (pre := [_, _]) d22
                    have hE := hE.sub (e' := [(73, (vI s13.2.2.1)), (74, (vI s95.2.2)), (75, (vI s13.2.2.1)), (76, (vI s95.2.2)), (77, (vI p0)), (78, (vI s13.2.2.1)), (79, (vI s95.2.2)), (80, (ptr b1 (0 + (s13.2.2.1).toNat * 4))), (81, (ptr b1 (0 + (s13.2.2.1).toNat * 4 + (s95.2.2).toNat * 1))), (82, (vB x105)), (83, (vB r90)), (84, (vB r107)), (85, (vI p0)), (86, (vI s13.2.2.1)), (87, (vI s95.2.2)), (88, (ptr b7 (0 + (s13.2.2.1).toNat * 4))), (89, (ptr b7 (0 + (s13.2.2.1).toNat * 4 + (s95.2.2).toNat * 1))), (90, (vB x113)), (91, (vB r90)), (92, (vB r115)), (93, (ptr b1 (0 + (s13.2.2.1).toNat * 4))), (94, (ptr b1 (0 + (s13.2.2.1).toNat * 4 + (s95.2.2).toNat * 1))), (95, (ptr b7 (0 + (s13.2.2.1).toNat * 4))), (0, (vI p0)), (3, (ptr b1 0)), (5, (ptr b3 0)), (6, (ptr b7 0)), (7, (vB r82)), (8, (vI s13.2.2.1)), (10, (vB r90)), (11, (vI s95.2.2)), (16, (vI s13.2.2.1)), (70, (vI s95.2.2)), (71, (vT (decide (s95.2.2 < 4)))), (72, (vI s95.2.2))]) ⟨lk rfl f0, lk rfl f1, lk rfl f2, lk rfl f3, lk rfl f4, lk rfl f5, lk rfl f6, lk rfl f7, lk rfl f8, lk rfl f9, lk rfl f10, lk rfl f11, lk rfl f12, lk rfl f13, lk rfl f14, lk rfl f15, lk rfl f16, lk rfl f17, lk rfl f18, lk rfl f19, lk rfl f20, lk rfl f21, lk rfl f23, rfl, rfl, rfl, rfl, rfl, rfl, rfl, rfl, rfl, rfl, rfl, rfl, trivial⟩
                    obtain ⟨x127, e128, hs96⟩ := bind_some hs96
                    have hi126 := vidx_some e128
                    refine s_indexA hE goes_none (by decide) rfl rfl Try.underlying98 ty5 hi126.1 ?_; intro a hE
                    refine s_store (seg := [(vB r115)]) (cs' := Flat.enc (s95.2.1.setIfInBounds (s13.2.2.1).toNat (x124.setIfInBounds (s95.2.2).toNat r115))) hE hM goes_none rfl rfl rfl ty5 rfl (fit_vecI (o' := 0 + (s95.2.2).toNat * 1) hi123 (fit_vec (v := x124) (x := r115) hi126.1) (by first | omega | (simp only [Flat.n] <;> omega))) (Flat.cell (r115 : UInt8)) (splice_vecI (o' := 0 + (s95.2.2).toNat * 1) hi123 (fit_vec (v := x124) (x := r115) hi126.1) (splice_vec0 (v := x124) (x := r115) hi126.1) (by first | omega | (simp only [Flat.n] <;> omega))) ?_; intro w a hM hE
                    refine c_fin0 ?_
                    refine c_nb ?_
                    refine c_nx ?_
                    refine wp_region_lit ?_
                    refine s_int hE goes_none (by decide) rfl rfl rfl ?_; intro a hE
                    refine s_move hE goes_none (by decide) rfl ?_; intro a hE
                    refine c_fin0 ?_
                    refine c_mid ?_
                    exact ⟨_, (Option.some.inj hs96).symm, hE.sub ⟨rfl, rfl, rfl, rfl, rfl, rfl, rfl, rfl, rfl, trivial⟩, hM⟩
                · intro hb99
                  have hs96 := ite_f hs96 hb99
                  refine wp_exit (e_then (e_then (e_eq ?_)))
                  have ht129 := hx97 _ (Option.some.inj hs96).symm
                  subst ht129
                  refine c_mid ?_
                  exact ⟨hE.sub ⟨rfl, rfl, rfl, rfl, rfl, rfl, rfl, trivial⟩, hM⟩
              · skip
                rintro a w ⟨hE, hM⟩
                refine c_nx ?_
                refine c_region ?_
                refine s_move hE goes_none (by decide) rfl ?_; intro a hE
                refine c_fin ?_
                obtain ⟨j130, hl131, hF132⟩ := bind_some hF94
                refine c_cut (fun a w => Env 153 a [(0, (vI p0)), (3, (ptr b1 0)), (5, (ptr b3 0)), (6, (ptr b7 0)), (7, (vB r82)), (16, (vI s13.2.2.1))] ∧ M (Old w0) w0 w [raw b7 (Flat.enc j130.2), raw b3 (Flat.enc (Vector.replicate 4 (Vector.replicate 4 (0 : UInt8)))), raw b1 (Flat.enc j130.1)]) ?_ ?_
                · skip
                  refine wp_block ?_
                  refine c_loop (fun (s133 : (Vector (Vector UInt8 4) 4) × (Vector (Vector UInt8 4) 4) × Int) a w => Env 153 a [(0, (vI p0)), (3, (ptr b1 0)), (5, (ptr b3 0)), (6, (ptr b7 0)), (7, (vB r82)), (8, (vI s13.2.2.1)), (16, (vI s13.2.2.1)), (98, (vI s133.2.2))] ∧ M (Old w0) w0 w [raw b7 (Flat.enc s133.2.1), raw b3 (Flat.enc (Vector.replicate 4 (Vector.replicate 4 (0 : UInt8)))), raw b1 (Flat.enc s133.1)]) hl131 ⟨hE.sub ⟨rfl, rfl, rfl, rfl, rfl, rfl, rfl, rfl, trivial⟩, hM⟩ ?_
                  rintro s133 a w ⟨hE, hM⟩ o136 hs134 hx135
                  unfold L3_impl_field_invert at hs134
                  refine c_region ?_
                  refine s_int hE goes_none (by decide) rfl rfl rfl ?_; intro a hE
                  refine c_fin ?_
                  refine wp_seq ?_
                  refine c_cond hE rfl ?_ ?_
                  · intro hb137
                    have hs134 := ite_t hs134 hb137
                    refine wp_skip ?_
                    refine c_nx ?_
                    obtain ⟨j138, hl139, hF140⟩ := bind_some hs134
                    refine c_join (fun a w => Env 153 a [(0, (vI p0)), (3, (ptr b1 0)), (5, (ptr b3 0)), (6, (ptr b7 0)), (7, (vB r82)), (8, (vI s13.2.2.1)), (16, (vI s13.2.2.1)), (98, (vI s133.2.2))] ∧ M (Old w0) w0 w [raw b7 (Flat.enc j138.2), raw b3 (Flat.enc (Vector.replicate 4 (Vector.replicate 4 (0 : UInt8)))), raw b1 (Flat.enc j138.1)]) ?_ ?_
                    · skip
                      refine wp_block ?_
                      refine c_region ?_
                      refine s_move hE goes_none (by decide) rfl ?_; intro a hE
                      refine s_assign hE goes_none (by decide) rfl ?_; intro a hE
                      refine c_fin ?_
                      refine c_region ?_
                      refine s_move hE goes_none (by decide) rfl ?_; intro a hE
                      refine s_move hE goes_none (by decide) rfl ?_; intro a hE
                      obtain ⟨x142, e143, hl139⟩ := bind_some hl139
                      have hi141 := vidx_some e143
                      refine s_indexA hE goes_none (by decide) rfl rfl Try.underlying100 ty98 hi141.1 ?_; intro a hE
                      obtain ⟨x145, e146, hl139⟩ := bind_some hl139
                      have hi144 := vidx_some e146
                      refine s_indexA hE goes_none (by decide) rfl rfl Try.underlying98 ty5 hi144.1 ?_; intro a hE
                      refine s_load (v := (vB x145)) hE goes_none (by decide) rfl ty5 rfl (At.vec (At.vec (hM.rawAt (pre := [_, _])) hi141.2) hi144.2) ?_; intro a hE
                      refine s_assign hE goes_none (by decide) rfl ?_; intro a hE
                      refine c_fin ?_
                      obtain ⟨j147, hl148, hF149⟩ := bind_some hl139
                      refine c_join (fun a w => Env 153 a [(0, (vI p0)), (3, (ptr b1 0)), (5, (ptr b3 0)), (6, (ptr b7 0)), (7, (vB r82)), (8, (vI s13.2.2.1)), (12, (vI s133.2.2)), (13, (vB x145)), (16, (vI s13.2.2.1)), (98, (vI s133.2.2)), (112, (vT j147))] ∧ M (Old w0) w0 w [raw b7 (Flat.enc s133.2.1), raw b3 (Flat.enc (Vector.replicate 4 (Vector.replicate 4 (0 : UInt8)))), raw b1 (Flat.enc s133.1)]) ?_ ?_
                      · skip
                        refine wp_region_lit ?_
                        refine s_move hE goes_none (by decide) rfl ?_; intro a hE
                        refine s_move hE goes_none (by decide) rfl ?_; intro a hE
                        refine s_int hE goes_none (by decide) rfl rfl rfl ?_; intro a hE
                        refine s_move hE goes_none (by decide) rfl ?_; intro a hE
                        refine splitB (s133.2.2 != s13.2.2.1) (fun hb150 => ?_) (fun hb150 => ?_)
                        · have hl148 := ite_t hl148 hb150
                          refine s_move hE (goes_yes hE rfl (lkb rfl hb150)) (by decide) rfl ?_; intro a hE
                          refine s_int hE (goes_yes hE rfl (lkb rfl hb150)) (by decide) rfl rfl (bB_neq x145 0) ?_; intro a hE
                          refine s_pickT hE goes_none (by decide) (lkb rfl hb150) rfl ?_; intro a hE
                          refine c_fin0 ?_
                          have ht151 := Option.some.inj hl148
                          subst ht151
                          refine c_mid ?_
                          exact ⟨hE.sub ⟨rfl, rfl, rfl, rfl, rfl, rfl, rfl, rfl, rfl, rfl, rfl, trivial⟩, hM⟩
                        · have hl148 := ite_f hl148 hb150
                          refine s_skip hE rfl (lkb rfl hb150) rfl (by decide) ?_; intro a hE
                          refine s_skip hE rfl (lkb rfl hb150) rfl (by decide) ?_; intro a hE
                          refine s_pickF hE goes_none (by decide) (lkb rfl hb150) rfl ?_; intro a hE
                          refine c_fin0 ?_
                          have ht152 := Option.some.inj hl148
                          subst ht152
                          refine c_mid ?_
                          exact ⟨hE.sub ⟨rfl, rfl, rfl, rfl, rfl, rfl, rfl, rfl, rfl, rfl, rfl, trivial⟩, hM⟩
                      · skip
                        rintro a w ⟨hE, hM⟩
                        obtain ⟨j153, hl154, hF155⟩ := bind_some hF149
                        refine c_cut (fun a w => Env 153 a [(0, (vI p0)), (3, (ptr b1 0)), (5, (ptr b3 0)), (6, (ptr b7 0)), (7, (vB r82)), (8, (vI s13.2.2.1)), (16, (vI s13.2.2.1)), (98, (vI s133.2.2))] ∧ M (Old w0) w0 w [raw b7 (Flat.enc j153.2), raw b3 (Flat.enc (Vector.replicate 4 (Vector.replicate 4 (0 : UInt8)))), raw b1 (Flat.enc j153.1)]) ?_ ?_
                        · skip
                          refine c_cond hE rfl ?_ ?_
                          · intro hb156
                            have hl154 := ite_t hl154 hb156
                            refine c_region ?_
                            refine s_move hE goes_none (by decide) rfl ?_; intro a hE
                            refine c_fin ?_
                            obtain ⟨j157, hl158, hF159⟩ := bind_some hl154
                            refine c_cut (fun a w => Env 153 a [(0, (vI p0)), (3, (ptr b1 0)), (5, (ptr b3 0)), (6, (ptr b7 0)), (7, (vB r82)), (8, (vI s13.2.2.1)), (16, (vI s13.2.2.1)), (98, (vI s133.2.2))] ∧ M (Old w0) w0 w [raw b7 (Flat.enc j157.2), raw b3 (Flat.enc (Vector.replicate 4 (Vector.replicate 4 (0 : UInt8)))), raw b1 (Flat.enc j157.1)]) ?_ ?_
                            · skip
                              refine wp_block ?_
                              refine c_loop (fun (s160 : (Vector (Vector UInt8 4) 4) × (Vector (Vector UInt8 4) 4) × Int) a w => Env 153 a [(0, (vI p0)), (3, (ptr b1 0)), (5, (ptr b3 0)), (6, (ptr b7 0)), (7, (vB r82)), (8, (vI s13.2.2.1)), (12, (vI s133.2.2)), (13, (vB x145)), (16, (vI s13.2.2.1)), (98, (vI s133.2.2)), (113, (vI s160.2.2))] ∧ M (Old w0) w0 w [raw b7 (Flat.enc s160.2.1), raw b3 (Flat.enc (Vector.replicate 4 (Vector.replicate 4 (0 : UInt8)))), raw b1 (Flat.enc s160.1)]) hl158 ⟨hE.sub ⟨rfl, rfl, rfl, rfl, rfl, rfl, rfl, rfl, rfl, rfl, rfl, trivial⟩, hM⟩ ?_
                              rintro s160 a w ⟨hE, hM⟩ o163 hs161 hx162
                              unfold L4_impl_field_invert at hs161
                              refine c_region ?_
                              refine s_int hE goes_none (by decide) rfl rfl rfl ?_; intro a hE
                              refine c_fin ?_
                              refine wp_seq ?_
                              refine c_cond hE rfl ?_ ?_
                              · intro hb164
                                have hs161 := ite_t hs161 hb164
                                refine wp_skip ?_
                                refine c_nx ?_
                                refine wp_seq ?_
                                refine wp_block ?_
                                refine c_region ?_
                                refine s_move hE goes_none (by decide) rfl ?_; intro a hE
                                refine s_assign hE goes_none (by decide) rfl ?_; intro a hE
                                refine c_fin ?_
                                obtain ⟨j165, hl166, hF167⟩ := bind_some hs161
                                refine c_join (fun a w => Env 153 a [(0, (vI p0)), (3, (ptr b1 0)), (5, (ptr b3 0)), (6, (ptr b7 0)), (7, (vB r82)), (8, (vI s13.2.2.1)), (12, (vI s133.2.2)), (13, (vB x145)), (14, (vI s160.2.2)), (16, (vI s13.2.2.1)), (98, (vI s133.2.2)), (113, (vI s160.2.2))] ∧ M (Old w0) w0 w [raw b7 (Flat.enc s160.2.1), raw b3 (Flat.enc (Vector.replicate 4 (Vector.replicate 4 (0 : UInt8)))), raw b1 (Flat.enc j165)]) ?_ ?_
                                · skip
                                  obtain ⟨x170, e171, hl166⟩ := bind_some hl166
                                  have hi169 := vidx_some e171
                                  obtain ⟨x173, e174, hl166⟩ := bind_some hl166
                                  have hi172 := vidx_some e174
                                  obtain ⟨x176, e177, hl166⟩ := bind_some hl166
                                  have hi175 := vidx_some e177
                                  obtain ⟨x179, e180, hl166⟩ := bind_some hl166
                                  have hi178 := vidx_some e180
                                  obtain ⟨r181, e182, hl166⟩ := bind_some hl166
                                  obtain ⟨x184, e185, hl166⟩ := bind_some hl166
                                  have hi183 := vidx_some e185
                                  obtain ⟨x187, e188, hl166⟩ := bind_some hl166
                                  have hi186 := vidx_some e188
                                  refine c_draw (n := 153) (hd := [_, _, _, _, _, _, _, _, _, _, _, _, _, _, _, _]) (tl := [_]) hmix rfl rfl [116, 117, 118, 119, 120, 121, 122, 123, 124, 125, 126, 127, 128, 129, 130, 131] (by decide) (fun w => M (Old w0) w0 w [raw b7 (Flat.enc s160.2.1), raw b3 (Flat.enc (Vector.replicate 4 (Vector.replicate 4 (0 : UInt8)))), raw b1 (Flat.enc s160.1)]) (fun j => ([fun v _ => v = (vI s133.2.2), fun v _ => v = (vI s160.2.2), fun v _ => v = (ptr b1 (0 + (s133.2.2).toNat * 4)), fun v _ => v = (ptr b1 (0 + (s133.2.2).toNat * 4 + (s160.2.2).toNat * 1)), fun v _ => v = (vB x173), fun v _ => v = (vI p0), fun v _ => v = (vB x145), fun v _ => v = (vI s13.2.2.1), fun v _ => v = (vI s160.2.2), fun v _ => v = (ptr b1 (0 + (s13.2.2.1).toNat * 4)), fun v _ => v = (ptr b1 (0 + (s13.2.2.1).toNat * 4 + (s160.2.2).toNat * 1)), fun v _ => v = (vB x179), fun v _ => v = (vB r181), fun v _ => v = (vB (x173 ^^^ r181)), fun v _ => v = (ptr b1 (0 + (s133.2.2).toNat * 4)), fun v _ => v = (ptr b1 (0 + (s133.2.2).toNat * 4 + (s160.2.2).toNat * 1))] : List (Value → World → Prop)).getD j (fun _ _ => True)) (fun _ _ h hk => h.keep hk) (gup (gupE (gupE (gupE (gupE (gupE (gupE (gupE (gupE (gupE (gupE (gupE (gupE (gupE (gupE (gupE (gupE gupN))))))))))))))))) hE hM.drew (steps_of (steps_cons ?_ (steps_cons ?_ (steps_cons ?_ (steps_cons ?_ (steps_cons ?_ (steps_cons ?_ (steps_cons ?_ (steps_cons ?_ (steps_cons ?_ (steps_cons ?_ (steps_cons ?_ (steps_cons ?_ (steps_cons ?_ (steps_cons ?_ (steps_cons ?_ (steps_cons ?_ steps_nil))))))))))))))))) ?_
                                  · intro a w ux168 hE hM hp
                                    refine s_move hE goes_none (by decide) rfl ?_; intro a hE
                                    exact ⟨Kept.refl _ _, _, _, rfl, hE, rfl⟩
                                  · intro a w ux168 hE hM hp
                                    refine s_move hE goes_none (by decide) rfl ?_; intro a hE
                                    exact ⟨Kept.refl _ _, _, _, rfl, hE, rfl⟩
                                  · intro a w ux168 hE hM hp
                                    have f0 : ux168 0 = (vI s133.2.2) := hp 0 _ rfl rfl
                                    refine s_indexA hE goes_none (by decide) rfl (lk rfl f0) Try.underlying100 ty98 hi169.1 ?_; intro a hE
                                    exact ⟨Kept.refl _ _, _, _, rfl, hE, rfl⟩
                                  · intro a w ux168 hE hM hp
                                    have f1 : ux168 1 = (vI s160.2.2) := hp 1 _ rfl rfl
                                    have f2 : ux168 2 = (ptr b1 (0 + (s133.2.2).toNat * 4)) := hp 0 _ rfl rfl
                                    refine s_indexA hE goes_none (by decide) (lk rfl f2) (lk rfl f1) Try.underlying98 ty5 hi172.1 ?_; intro a hE
                                    exact ⟨Kept.refl _ _, _, _, rfl, hE, rfl⟩
                                  · intro a w ux168 hE hM hp
                                    have f3 : ux168 3 = (ptr b1 (0 + (s133.2.2).toNat * 4 + (s160.2.2).toNat * 1)) := hp 0 _ rfl rfl
                                    refine s_load (v := (vB x173)) hE goes_none (by decide) (lk rfl f3) ty5 rfl (At.vec (At.vec (hM.rawAt (pre := [_, _])) hi169.2) hi172.2) ?_; intro a hE
                                    exact ⟨Kept.refl _ _, _, _, rfl, hE, rfl⟩
                                  · intro a w ux168 hE hM hp
                                    refine s_move hE goes_none (by decide) rfl ?_; intro a hE
                                    exact ⟨Kept.refl _ _, _, _, rfl, hE, rfl⟩
                                  · intro a w ux168 hE hM hp
                                    refine s_move hE goes_none (by decide) rfl ?_; intro a hE
                                    exact ⟨Kept.refl _ _, _, _, rfl, hE, rfl⟩
                                  · intro a w ux168 hE hM hp
                                    refine s_move hE goes_none (by decide) rfl ?_; intro a hE
                                    exact ⟨Kept.refl _ _, _, _, rfl, hE, rfl⟩
                                  · intro a w ux168 hE hM hp
                                    refine s_move hE goes_none (by decide) rfl ?_; intro a hE
                                    exact ⟨Kept.refl _ _, _, _, rfl, hE, rfl⟩
                                  · intro a w ux168 hE hM hp
                                    have f7 : ux168 7 = (vI s13.2.2.1) := hp 0 _ rfl rfl
                                    refine s_indexA hE goes_none (by decide) rfl (lk rfl f7) Try.underlying100 ty98 hi175.1 ?_; intro a hE
                                    exact ⟨Kept.refl _ _, _, _, rfl, hE, rfl⟩
                                  · intro a w ux168 hE hM hp
                                    have f8 : ux168 8 = (vI s160.2.2) := hp 1 _ rfl rfl
                                    have f9 : ux168 9 = (ptr b1 (0 + (s13.2.2.1).toNat * 4)) := hp 0 _ rfl rfl
                                    refine s_indexA hE goes_none (by decide) (lk rfl f9) (lk rfl f8) Try.underlying98 ty5 hi178.1 ?_; intro a hE
                                    exact ⟨Kept.refl _ _, _, _, rfl, hE, rfl⟩
                                  · intro a w ux168 hE hM hp
                                    have f10 : ux168 10 = (ptr b1 (0 + (s13.2.2.1).toNat * 4 + (s160.2.2).toNat * 1)) := hp 0 _ rfl rfl
                                    refine s_load (v := (vB x179)) hE goes_none (by decide) (lk rfl f10) ty5 rfl (At.vec (At.vec (hM.rawAt (pre := [_, _])) hi175.2) hi178.2) ?_; intro a hE
                                    exact ⟨Kept.refl _ _, _, _, rfl, hE, rfl⟩
                                  · intro a w ux168 hE hM hp
                                    have f5 : ux168 5 = (vI p0) := hp 0 _ rfl rfl
                                    have f6 : ux168 6 = (vB x145) := hp 1 _ rfl rfl
                                    have f11 : ux168 11 = (vB x179) := hp 2 _ rfl rfl
                                    refine s_call (vs := [(vI p0), (vB x145), (vB x179)]) hE goes_none (by decide) (evs_of (evsC (lk rfl f5) (evsC (lk rfl f6) (evsC (lk rfl f11) evsN)))) cb127 (c_impl_field_times _ p0 x145 x179 r181 e182) ?_
                                    rintro v w a ⟨rfl, hK⟩ hE
                                    exact ⟨hK, _, _, rfl, hE, rfl⟩
                                  · intro a w ux168 hE hM hp
                                    have f4 : ux168 4 = (vB x173) := hp 0 _ rfl rfl
                                    have f12 : ux168 12 = (vB r181) := hp 1 _ rfl rfl
                                    refine s_int hE goes_none (by decide) (lk rfl f4) (lk rfl f12) (bB_xor x173 r181) ?_; intro a hE
                                    exact ⟨Kept.refl _ _, _, _, rfl, hE, rfl⟩
                                  · intro a w ux168 hE hM hp
                                    have f0 : ux168 0 = (vI s133.2.2) := hp 0 _ rfl rfl
                                    refine s_indexA hE goes_none (by decide) rfl (lk rfl f0) Try.underlying100 ty98 hi183.1 ?_; intro a hE
                                    exact ⟨Kept.refl _ _, _, _, rfl, hE, rfl⟩
                                  · intro a w ux168 hE hM hp
                                    have f1 : ux168 1 = (vI s160.2.2) := hp 1 _ rfl rfl
                                    have f14 : ux168 14 = (ptr b1 (0 + (s133.2.2).toNat * 4)) := hp 0 _ rfl rfl
                                    refine s_indexA hE goes_none (by decide) (lk rfl f14) (lk rfl f1) Try.underlying98 ty5 hi186.1 ?_; intro a hE
                                    exact ⟨Kept.refl _ _, _, _, rfl, hE, rfl⟩
                                  · intro a w ux168 hE hM hg
                                    have f0 : ux168 0 = (vI s133.2.2) := hg 0 (by decide)
                                    have f1 : ux168 1 = (vI s160.2.2) := hg 1 (by decide)
                                    have f2 : ux168 2 = (ptr b1 (0 + (s133.2.2).toNat * 4)) := hg 2 (by decide)
                                    have f3 : ux168 3 = (ptr b1 (0 + (s133.2.2).toNat * 4 + (s160.2.2).toNat * 1)) := hg 3 (by decide)
                                    have f4 : ux168 4 = (vB x173) := hg 4 (by decide)
                                    have f5 : ux168 5 = (vI p0) := hg 5 (by decide)
                                    have f6 : ux168 6 = (vB x145) := hg 6 (by decide)
                                    have f7 : ux168 7 = (vI s13.2.2.1) := hg 7 (by decide)
                                    have f8 : ux168 8 = (vI s160.2.2) := hg 8 (by decide)
                                    have f9 : ux168 9 = (ptr b1 (0 + (s13.2.2.1).toNat * 4)) := hg 9 (by decide)
                                    have f10 : ux168 10 = (ptr b1 (0 + (s13.2.2.1).toNat * 4 + (s160.2.2).toNat * 1)) := hg 10 (by decide)
                                    have f11 : ux168 11 = (vB x179) := hg 11 (by decide)
                                    have f12 : ux168 12 = (vB r181) := hg 12 (by decide)
                                    have f13 : ux168 13 = (vB (x173 ^^^ r181)) := hg 13 (by decide)
                                    have f14 : ux168 14 = (ptr b1 (0 + (s133.2.2).toNat * 4)) := hg 14 (by decide)
                                    have f15 : ux168 15 = (ptr b1 (0 + (s133.2.2).toNat * 4 + (s160.2.2).toNat * 1)) := hg 15 (by decide)
                                    have hE := hE.sub (e' := [(116, (vI s133.2.2)), (117, (vI s160.2.2)), (118, (ptr b1 (0 + (s133.2.2).toNat * 4))), (119, (ptr b1 (0 + (s133.2.2).toNat * 4 + (s160.2.2).toNat * 1))), (120, (vB x173)), (121, (vI p0)), (122, (vB x145)), (123, (vI s13.2.2.1)), (124, (vI s160.2.2)), (125, (ptr b1 (0 + (s13.2.2.1).toNat * 4))), (126, (ptr b1 (0 + (s13.2.2.1).toNat * 4 + (s160.2.2).toNat * 1))), (127, (vB x179)), (128, (vB r181)), (129, (vB (x173 ^^^ r181))), (130, (ptr b1 (0 + (s133.2.2).toNat * 4))), (131, (ptr b1 (0 + (s133.2.2).toNat * 4 + (s160.2.2).toNat * 1))), (0, (vI p0)), (3, (ptr b1 0)), (5, (ptr b3 0)), (6, (ptr b7 0)), (7, (vB r82)), (8, (vI s13.2.2.1)), (12, (vI s133.2.2)), (13, (vB x145)), (14, (vI s160.2.2)), (16, (vI s13.2.2.1)), (98, (vI s133.2.2)), (113, (vI s160.2.2)), (114, (vT (decide (s160.2.2 < 4)))), (115, (vI s160.2.2))]) ⟨lk rfl f0, lk rfl f1, lk rfl f2, lk rfl f3, lk rfl f4, lk rfl f5, lk rfl f6, lk rfl f7, lk rfl f8, lk rfl f9, lk rfl f10, lk rfl f11, lk rfl f12, lk rfl f13, lk rfl f14, lk rfl f15, rfl, rfl, rfl, rfl, rfl, rfl, rfl, rfl, rfl, rfl, rfl, rfl, rfl, rfl, trivial⟩
                                    have hM := hM.pull (pre := [_, _])
                                    refine s_store (seg := [(vB (x173 ^^^ r181))]) (cs' := Flat.enc (s160.1.setIfInBounds (s133.2.2).toNat (x184.setIfInBounds (s160.2.2).toNat (x173 ^^^ r181)))) hE hM goes_none rfl rfl rfl ty5 rfl (fit_vecI (o' := 0 + (s160.2.2).toNat * 1) hi183 (fit_vec (v := x184) (x := x173 ^^^ r181) hi186.1) (by first | omega | (simp only [Flat.n] <;> omega))) (Flat.cell (x173 ^^^ r181 : UInt8)) (splice_vecI (o' := 0 + (s160.2.2).toNat * 1) hi183 (fit_vec (v := x184) (x := x173 ^^^ r181) hi186.1) (splice_vec0 (v := x184) (x := x173 ^^^ r181) hi186.1) (by first | omega | (simp only [Flat.n] <;> omega))) ?_; intro w a hM hE
                                    refine c_fin0 ?_
                                    have ht189 := Option.some.inj hl166
                                    subst ht189
                                    refine c_mid ?_
                                    have hM := hM.pull (pre := [_, _])
                                    have hM := hM.pull (pre := [_, _])
                                    exact ⟨hE.sub ⟨rfl, rfl, rfl, rfl, rfl, rfl, rfl, rfl, rfl, rfl, rfl, rfl, trivial⟩, hM⟩
                                · skip
                                  rintro a w ⟨hE, hM⟩
                                  obtain ⟨x192, e193, hF167⟩ := bind_some hF167
                                  have hi191 := vidx_some e193
                                  obtain ⟨x195, e196, hF167⟩ := bind_some hF167
                                  have hi194 := vidx_some e196
                                  obtain ⟨x198, e199, hF167⟩ := bind_some hF167
                                  have hi197 := vidx_some e199
                                  obtain ⟨x201, e202, hF167⟩ := bind_some hF167
                                  have hi200 := vidx_some e202
                                  obtain ⟨r203, e204, hF167⟩ := bind_some hF167
                                  obtain ⟨x206, e207, hF167⟩ := bind_some hF167
                                  have hi205 := vidx_some e207
                                  obtain ⟨x209, e210, hF167⟩ := bind_some hF167
                                  have hi208 := vidx_some e210
                                  refine c_draw (n := 153) (hd := [_, _, _, _, _, _, _, _, _, _, _, _, _, _, _, _]) (tl := [_]) hmix rfl rfl [132, 133, 134, 135, 136, 137, 138, 139, 140, 141, 142, 143, 144, 145, 146, 147] (by decide) (fun w => M (Old w0) w0 w [raw b7 (Flat.enc s160.2.1), raw b3 (Flat.enc (Vector.replicate 4 (Vector.replicate 4 (0 : UInt8)))), raw b1 (Flat.enc j165)]) (fun j => ([fun v _ => v = (vI s133.2.2), fun v _ => v = (vI s160.2.2), fun v _ => v = (ptr b7 (0 + (s133.2.2).toNat * 4)), fun v _ => v = (ptr b7 (0 + (s133.2.2).toNat * 4 + (s160.2.2).toNat * 1)), fun v _ => v = (vB x195), fun v _ => v = (vI p0), fun v _ => v = (vB x145), fun v _ => v = (vI s13.2.2.1), fun v _ => v = (vI s160.2.2), fun v _ => v = (ptr b7 (0 + (s13.2.2.1).toNat * 4)), fun v _ => v = (ptr b7 (0 + (s13.2.2.1).toNat * 4 + (s160.2.2).toNat * 1)), fun v _ => v = (vB x201), fun v _ => v = (vB r203), fun v _ => v = (vB (x195 ^^^ r203)), fun v _ => v = (ptr b7 (0 + (s133.2.2).toNat * 4)), fun v _ => v = (ptr b7 (0 + (s133.2.2).toNat * 4 + (s160.2.2).toNat * 1))] : List (Value → World → Prop)).getD j (fun _ _ => True)) (fun _ _ h hk => h.keep hk) (gup (gupE (gupE (gupE (gupE (gupE (gupE (gupE (gupE (gupE (gupE (gupE (gupE (gupE (gupE (gupE (gupE gupN))))))))))))))))) hE hM.drew (steps_of (steps_cons ?_ (steps_cons ?_ (steps_cons ?_ (steps_cons ?_ (steps_cons ?_ (steps_cons ?_ (steps_cons ?_ (steps_cons ?_ (steps_cons ?_ (steps_cons ?_ (steps_cons ?_ (steps_cons ?_ (steps_cons ?_ (steps_cons ?_ (steps_cons ?_ (steps_cons ?_ steps_nil))))))))))))))))) ?_
                                  · intro a w ux190 hE hM hp
                                    refine s_move hE goes_none (by decide) rfl ?_; intro a hE
                                    exact ⟨Kept.refl _ _, _, _, rfl, hE, rfl⟩
                                  · intro a w ux190 hE hM hp
                                    refine s_move hE goes_none (by decide) rfl ?_; intro a hE
                                    exact ⟨Kept.refl _ _, _, _, rfl, hE, rfl⟩
                                  · intro a w ux190 hE hM hp
                                    have f0 : ux190 0 = (vI s133.2.2) := hp 0 _ rfl rfl
                                    refine s_indexA hE goes_none (by decide) rfl (lk rfl f0) Try.underlying100 ty98 hi191.1 ?_; intro a hE
                                    exact ⟨Kept.refl _ _, _, _, rfl, hE, rfl⟩
                                  · intro a w ux190 hE hM hp
                                    have f1 : ux190 1 = (vI s160.2.2) := hp 1 _ rfl rfl
                                    have f2 : ux190 2 = (ptr b7 (0 + (s133.2.2).toNat * 4)) := hp 0 _ rfl rfl
                                    refine s_indexA hE goes_none (by decide) (lk rfl f2) (lk rfl f1) Try.underlying98 ty5 hi194.1 ?_; intro a hE
                                    exact ⟨Kept.refl _ _, _, _, rfl, hE, rfl⟩
                                  · intro a w ux190 hE hM hp
                                    have f3 : ux190 3 = (ptr b7 (0 + (s133.2.2).toNat * 4 + (s160.2.2).toNat * 1)) := hp 0 _ rfl rfl
                                    refine s_load (v := (vB x195)) hE goes_none (by decide) (lk rfl f3) ty5 rfl (At.vec (At.vec (hM.rawAt (pre := [])) hi191.2) hi194.2) ?_; intro a hE
                                    exact ⟨Kept.refl _ _, _, _, rfl, hE, rfl⟩
                                  · intro a w ux190 hE hM hp
                                    refine s_move hE goes_none (by decide) rfl ?_; intro a hE
                                    exact ⟨Kept.refl _ _, _, _, rfl, hE, rfl⟩
                                  · intro a w ux190 hE hM hp
                                    refine s_move hE goes_none (by decide) rfl ?_; intro a hE
                                    exact ⟨Kept.refl _ _, _, _, rfl, hE, rfl⟩
                                  · intro a w ux190 hE hM hp
                                    refine s_move hE goes_none (by decide) rfl ?_; intro a hE
                                    exact ⟨Kept.refl _ _, _, _, rfl, hE, rfl⟩
                                  · intro a w ux190 hE hM hp
                                    refine s_move hE goes_none (by decide) rfl ?_; intro a hE
                                    exact ⟨Kept.refl _ _, _, _, rfl, hE, rfl⟩
                                  · intro a w ux190 hE hM hp
                                    have f7 : ux190 7 = (vI s13.2.2.1) := hp 0 _ rfl rfl
                                    refine s_indexA hE goes_none (by decide) rfl (lk rfl f7) Try.underlying100 ty98 hi197.1 ?_; intro a hE
                                    exact ⟨Kept.refl _ _, _, _, rfl, hE, rfl⟩
                                  · intro a w ux190 hE hM hp
                                    have f8 : ux190 8 = (vI s160.2.2) := hp 1 _ rfl rfl
                                    have f9 : ux190 9 = (ptr b7 (0 + (s13.2.2.1).toNat * 4)) := hp 0 _ rfl rfl
                                    refine s_indexA hE goes_none (by decide) (lk rfl f9) (lk rfl f8) Try.underlying98 ty5 hi200.1 ?_; intro a hE
                                    exact ⟨Kept.refl _ _, _, _, rfl, hE, rfl⟩
                                  · intro a w ux190 hE hM hp
                                    have f10 : ux190 10 = (ptr b7 (0 + (s13.2.2.1).toNat * 4 + (s160.2.2).toNat * 1)) := hp 0 _ rfl rfl
                                    refine s_load (v := (vB x201)) hE goes_none (by decide) (lk rfl f10) ty5 rfl (At.vec (At.vec (hM.rawAt (pre := [])) hi197.2) hi200.2) ?_; intro a hE
                                    exact ⟨Kept.refl _ _, _, _, rfl, hE, rfl⟩
                                  · intro a w ux190 hE hM hp
                                    have f5 : ux190 5 = (vI p0) := hp 0 _ rfl rfl
                                    have f6 : ux190 6 = (vB x145) := hp 1 _ rfl rfl
                                    have f11 : ux190 11 = (vB x201) := hp 2 _ rfl rfl
                                    refine s_call (vs := [(vI p0), (vB x145), (vB x201)]) hE goes_none (by decide) (evs_of (evsC (lk rfl f5) (evsC (lk rfl f6) (evsC (lk rfl f11) evsN)))) cb127 (c_impl_field_times _ p0 x145 x201 r203 e204) ?_
                                    rintro v w a ⟨rfl, hK⟩ hE
                                    exact ⟨hK, _, _, rfl, hE, rfl⟩
                                  · intro a w ux190 hE hM hp
                                    have f4 : ux190 4 = (vB x195) := hp 0 _ rfl rfl
                                    have f12 : ux190 12 = (vB r203) := hp 1 _ rfl rfl
                                    refine s_int hE goes_none (by decide) (lk rfl f4) (lk rfl f12) (bB_xor x195 r203) ?_; intro a hE
                                    exact ⟨Kept.refl _ _, _, _, rfl, hE, rfl⟩
                                  · intro a w ux190 hE hM hp
                                    have f0 : ux190 0 = (vI s133.2.2) := hp 0 _ rfl rfl
                                    refine s_indexA hE goes_none (by decide) rfl (lk rfl f0) Try.underlying100 ty98 hi205.1 ?_; intro a hE
                                    exact ⟨Kept.refl _ _, _, _, rfl, hE, rfl⟩
                                  · intro a w ux190 hE hM hp
                                    have f1 : ux190 1 = (vI s160.2.2) := hp 1 _ rfl rfl
                                    have f14 : ux190 14 = (ptr b7 (0 + (s133.2.2).toNat * 4)) := hp 0 _ rfl rfl
                                    refine s_indexA hE goes_none (by decide) (lk rfl f14) (lk rfl f1) Try.underlying98 ty5 hi208.1 ?_; intro a hE
                                    exact ⟨Kept.refl _ _, _, _, rfl, hE, rfl⟩
                                  · intro a w ux190 hE hM hg
                                    have f0 : ux190 0 = (vI s133.2.2) := hg 0 (by decide)
                                    have f1 : ux190 1 = (vI s160.2.2) := hg 1 (by decide)
                                    have f2 : ux190 2 = (ptr b7 (0 + (s133.2.2).toNat * 4)) := hg 2 (by decide)
                                    have f3 : ux190 3 = (ptr b7 (0 + (s133.2.2).toNat * 4 + (s160.2.2).toNat * 1)) := hg 3 (by decide)
                                    have f4 : ux190 4 = (vB x195) := hg 4 (by decide)
                                    have f5 : ux190 5 = (vI p0) := hg 5 (by decide)
                                    have f6 : ux190 6 = (vB x145) := hg 6 (by decide)
                                    have f7 : ux190 7 = (vI s13.2.2.1) := hg 7 (by decide)
                                    have f8 : ux190 8 = (vI s160.2.2) := hg 8 (by decide)
                                    have f9 : ux190 9 = (ptr b7 (0 + (s13.2.2.1).toNat * 4)) := hg 9 (by decide)
                                    have f10 : ux190 10 = (ptr b7 (0 + (s13.2.2.1).toNat * 4 + (s160.2.2).toNat * 1)) := hg 10 (by decide)
                                    have f11 : ux190 11 = (vB x201) := hg 11 (by decide)
                                    have f12 : ux190 12 = (vB r203) := hg 12 (by decide)
                                    have f13 : ux190 13 = (vB (x195 ^^^ r203)) := hg 13 (by decide)
                                    have f14 : ux190 14 = (ptr b7 (0 + (s133.2.2).toNat * 4)) := hg 14 (by decide)
                                    have f15 : ux190 15 = (ptr b7 (0 + (s133.2.2).toNat * 4 + (s160.2.2).toNat * 1)) := hg 15 (by decide)
                                    have hE := hE.sub (e' := [(132, (vI s133.2.2)), (133, (vI s160.2.2)), (134, (ptr b7 (0 + (s133.2.2).toNat * 4))), (135, (ptr b7 (0 + (s133.2.2).toNat * 4 + (s160.2.2).toNat * 1))), (136, (vB x195)), (137, (vI p0)), (138, (vB x145)), (139, (vI s13.2.2.1)), (140, (vI s160.2.2)), (141, (ptr b7 (0 + (s13.2.2.1).toNat * 4))), (142, (ptr b7 (0 + (s13.2.2.1).toNat * 4 + (s160.2.2).toNat * 1))), (143, (vB x201)), (144, (vB r203)), (145, (vB (x195 ^^^ r203))), (146, (ptr b7 (0 + (s133.2.2).toNat * 4))), (147, (ptr b7 (0 + (s133.2.2).toNat * 4 + (s160.2.2).toNat * 1))), (0, (vI p0)), (3, (ptr b1 0)), (5, (ptr b3 0)), (6, (ptr b7 0)), (7, (vB r82)), (8, (vI s13.2.2.1)), (12, (vI s133.2.2)), (13, (vB x145)), (14, (vI s160.2.2)), (16, (vI s13.2.2.1)), (98, (vI s133.2.2)), (113, (vI s160.2.2))]) ⟨lk rfl f0, lk rfl f1, lk rfl f2, lk rfl f3, lk rfl f4, lk rfl f5, lk rfl f6, lk rfl f7, lk rfl f8, lk rfl f9, lk rfl f10, lk rfl f11, lk rfl f12, lk rfl f13, lk rfl f14, lk rfl f15, rfl, rfl, rfl, rfl, rfl, rfl, rfl, rfl, rfl, rfl, rfl, rfl, trivial⟩
                                    refine s_store (seg := [(vB (x195 ^^^ r203))]) (cs' := Flat.enc (s160.2.1.setIfInBounds (s133.2.2).toNat (x206.setIfInBounds (s160.2.2).toNat (x195 ^^^ r203)))) hE hM goes_none rfl rfl rfl ty5 rfl (fit_vecI (o' := 0 + (s160.2.2).toNat * 1) hi205 (fit_vec (v := x206) (x := x195 ^^^ r203) hi208.1) (by first | omega | (simp only [Flat.n] <;> omega))) (Flat.cell (x195 ^^^ r203 : UInt8)) (splice_vecI (o' := 0 + (s160.2.2).toNat * 1) hi205 (fit_vec (v := x206) (x := x195 ^^^ r203) hi208.1) (splice_vec0 (v := x206) (x := x195 ^^^ r203) hi208.1) (by first | omega | (simp only [Flat.n] <;> omega))) ?_; intro w a hM hE
                                    refine c_fin0 ?_
                                    refine c_nb ?_
                                    refine c_nx ?_
                                    refine wp_region_lit ?_
                                    refine s_int hE goes_none (by decide) rfl rfl rfl ?_; intro a hE
                                    refine s_move hE goes_none (by decide) rfl ?_; intro a hE
                                    refine c_fin0 ?_
                                    refine c_mid ?_
                                    exact ⟨_, (Option.some.inj hF167).symm, hE.sub ⟨rfl, rfl, rfl, rfl, rfl, rfl, rfl, rfl, rfl, rfl, rfl, trivial⟩, hM⟩
                              · intro hb164
                                have hs161 := ite_f hs161 hb164
                                refine wp_exit (e_then (e_then (e_eq ?_)))
                                have ht211 := hx162 _ (Option.some.inj hs161).symm
                                subst ht211
                                refine c_mid ?_
                                exact ⟨hE.sub ⟨rfl, rfl, rfl, rfl, rfl, rfl, rfl, rfl, trivial⟩, hM⟩
                            · skip
                              rintro a w ⟨hE, hM⟩
                              have ht212 := Option.some.inj hF159
                              subst ht212
                              refine c_mid ?_
                              exact ⟨hE.sub ⟨rfl, rfl, rfl, rfl, rfl, rfl, rfl, rfl, trivial⟩, hM⟩
                          · intro hb156
                            have hl154 := ite_f hl154 hb156
                            refine wp_skip ?_
                            have ht213 := Option.some.inj hl154
                            subst ht213
                            refine c_mid ?_
                            exact ⟨hE.sub ⟨rfl, rfl, rfl, rfl, rfl, rfl, rfl, rfl, trivial⟩, hM⟩
                        · skip
                          rintro a w ⟨hE, hM⟩
                          refine c_nb ?_
                          have ht214 := Option.some.inj hF155
                          subst ht214
                          refine c_mid ?_
                          exact ⟨hE.sub ⟨rfl, rfl, rfl, rfl, rfl, rfl, rfl, rfl, trivial⟩, hM⟩
                    · skip
                      rintro a w ⟨hE, hM⟩
                      refine wp_region_lit ?_
                      refine s_int hE goes_none (by decide) rfl rfl rfl ?_; intro a hE
                      refine s_move hE goes_none (by decide) rfl ?_; intro a hE
                      refine c_fin0 ?_
                      refine c_mid ?_
                      exact ⟨_, (Option.some.inj hF140).symm, hE.sub ⟨rfl, rfl, rfl, rfl, rfl, rfl, rfl, rfl, trivial⟩, hM⟩
                  · intro hb137
                    have hs134 := ite_f hs134 hb137
                    refine wp_exit (e_then (e_then (e_eq ?_)))
                    have ht215 := hx135 _ (Option.some.inj hs134).symm
                    subst ht215
                    refine c_mid ?_
                    exact ⟨hE.sub ⟨rfl, rfl, rfl, rfl, rfl, rfl, trivial⟩, hM⟩
                · skip
                  rintro a w ⟨hE, hM⟩
                  refine c_nb ?_
                  refine c_nx ?_
                  refine wp_region_lit ?_
                  refine s_int hE goes_none (by decide) rfl rfl rfl ?_; intro a hE
                  refine s_move hE goes_none (by decide) rfl ?_; intro a hE
                  refine c_fin0 ?_
                  refine c_mid ?_
                  exact ⟨_, (Option.some.inj hF132).symm, hE.sub ⟨rfl, rfl, rfl, rfl, rfl, rfl, trivial⟩, hM⟩
    · intro hb17
      have hs14 := ite_f hs14 hb17
      refine wp_exit (e_then (e_then (e_eq ?_)))
      have ht216 := hx15 _ (Option.some.inj hs14).symm
      subst ht216
      refine c_mid ?_
      have hM := hM.pull (pre := [_])
      have hM := hM.pull (pre := [_])
      have hM := M.fst (l := [_, _]) hM
      exact ⟨(s13.2.1, s13.2.2.2), rfl, hE.sub ⟨rfl, rfl, rfl, trivial⟩, hM⟩
  · skip
    rintro a w ⟨s12, ht, hE, hM⟩
    subst ht
    have hF11 := el_nx hF11
    refine c_nx ?_
    obtain ⟨j217, hl218, hF219⟩ := bind_some hF11
    refine c_join (fun a w => Env 153 a [(4, (vB j217.2)), (5, (ptr b3 0))] ∧ M (Old w0) w0 w [raw b3 (Flat.enc j217.1)]) ?_ ?_
    · skip
      refine c_draw (n := 153) (hd := [_, _, _]) (tl := [_]) hmix rfl rfl [151, 152, 4] (by decide) (fun w => M (Old w0) w0 w [raw b7 (Flat.enc s12.1), raw b3 (Flat.enc (Vector.replicate 4 (Vector.replicate 4 (0 : UInt8))))]) (fun j => ([fun v _ => v = (vB s12.2), fun v _ => v = (Value.agg (Flat.enc s12.1).toArray), fun v _ => v = (vB s12.2)] : List (Value → World → Prop)).getD j (fun _ _ => True)) (fun _ _ h hk => h.keep hk) (gup (gupE (gupE (gupE gupN)))) hE hM.drew (steps_of (steps_cons ?_ (steps_cons ?_ (steps_cons ?_ steps_nil)))) ?_
      · intro a w ux220 hE hM hp
        refine s_move hE goes_none (by decide) rfl ?_; intro a hE
        exact ⟨Kept.refl _ _, _, _, rfl, hE, rfl⟩
      · intro a w ux220 hE hM hp
        refine s_loadA (cs := Flat.enc s12.1) hE goes_none (by decide) rfl ty100 rfl (hM.rawAt (pre := [])) (Flat.len _) ?_; intro a hE
        exact ⟨Kept.refl _ _, _, _, rfl, hE, rfl⟩
      · intro a w ux220 hE hM hp
        have f0 : ux220 0 = (vB s12.2) := hp 0 _ rfl rfl
        refine s_assign hE goes_none (by decide) (lk rfl f0) ?_; intro a hE
        exact ⟨Kept.refl _ _, _, _, rfl, hE, rfl⟩
      · intro a w ux220 hE hM hg
        have f0 : ux220 0 = (vB s12.2) := hg 0 (by decide)
        have f1 : ux220 1 = (Value.agg (Flat.enc s12.1).toArray) := hg 1 (by decide)
        have f2 : ux220 2 = (vB s12.2) := hg 2 (by decide)
        have hE := hE.sub (e' := [(151, (vB s12.2)), (152, (Value.agg (Flat.enc s12.1).toArray)), (4, (vB s12.2)), (5, (ptr b3 0)), (6, (ptr b7 0)), (7, (vB s12.2))]) ⟨lk rfl f0, lk rfl f1, lk rfl f2, rfl, rfl, rfl, trivial⟩
        have hM := hM.pull (pre := [_])
        refine s_store (seg := Flat.enc s12.1) (cs' := Flat.enc s12.1) hE hM goes_none rfl rfl rfl ty100 (Flat.len _) (Nat.le_of_eq ((Nat.zero_add _).trans (Eq.trans (Flat.len _) (Eq.symm (Flat.len _))))) (Flat.cell _) (splice_all (Eq.trans (Flat.len _) (Eq.symm (Flat.len _)))) ?_; intro w a hM hE
        refine c_fin0 ?_
        have ht221 := Option.some.inj hl218
        subst ht221
        refine c_mid ?_
        have hM := M.fst (l := [_]) hM
        exact ⟨hE.sub ⟨rfl, rfl, trivial⟩, hM⟩
    · skip
      rintro a w ⟨hE, hM⟩
      have hr := Option.some.inj hF219
      subst hr
      have hq222 : ResIs Try.prog _ _ (.cell 5 100) _ := res_cell hE rfl ty100 rfl (hM.rawAt (pre := [])) (Flat.len _) rfl
      have hM := M.fst (l := []) hM
      exact wp_ret (k_ret2 hE rfl (res_tmp hE rfl) hq222 ⟨_, rfl, rfl, hM.kept⟩)
noncomputable def L0_impl_Box_inverse (p0 : (Vector UInt8 256)) (s10 : (Vector UInt8 256) × Int) : Option (Fl ((Vector UInt8 256) × Int) (Vector UInt8 256)) :=
  if (decide (s10.2 < 256)) = true then ((vidx p0 s10.2).bind fun (x15 : UInt8) => (vidx s10.1 (bI x15)).bind fun (x19 : UInt8) => some (Fl.nx ((s10.1.setIfInBounds ((bI x15)).toNat (byteI s10.2)), wr (s10.2 + 1)))) else (some (Fl.ex s10.1))
noncomputable def F_impl_Box_inverse (p0 : (Vector UInt8 256)) : Option ((Vector UInt8 256)) :=
  (iter (L0_impl_Box_inverse p0) ((Vector.replicate 256 (0 : UInt8)), 0) : Option ((Vector UInt8 256))).bind fun (j7 : (Vector UInt8 256)) => some j7
set_option maxRecDepth 20000 in
set_option maxHeartbeats 400000 in
theorem c_impl_Box_inverse (w0 : World) (p0 : (Vector UInt8 256)) (r : (Vector UInt8 256)) (hF : F_impl_Box_inverse p0 = some r) :
    Calls Try.prog 108 [(Value.agg (Flat.enc p0).toArray)].toArray w0 (fun en w' => ∃ v, en = .returned v ∧ (v = (Value.agg (Flat.enc r).toArray) ∧ Kept (Old w0) w0 w')) := by
  refine c_enter (n := 18) Try.func108 rfl rfl (Nat.le_of_ble_eq_true rfl) rfl ?_
  intro a hE
  have hM := M.start w0
  unfold F_impl_Box_inverse at hF
  refine c_region ?_
  refine s_box (cs := Flat.enc p0) hE hM goes_none (by decide) rfl rfl ?_; intro b1 w a hM hE
  refine s_alloc hE hM goes_none (by decide) ty97 ?_; intro b3 w a hM hE
  refine c_fin ?_
  refine c_region ?_
  refine s_buildA (parts := []) (vs := []) (cs := Flat.enc (Vector.replicate 256 (0 : UInt8))) hE goes_none (by decide) rfl rfl ty97 rfl ty5 filla_nil ?_; intro a hE
  refine s_alloc hE hM goes_none (by decide) ty97 ?_; intro b5 w a hM hE
  refine s_store (seg := Flat.enc (Vector.replicate 256 (0 : UInt8))) (cs' := Flat.enc (Vector.replicate 256 (0 : UInt8))) hE hM goes_none rfl rfl rfl ty97 (Flat.len _) (Nat.le_of_eq ((Nat.zero_add _).trans (Eq.trans (Flat.len _) (Eq.symm (Flat.len _))))) (Flat.cell _) (splice_all (Eq.trans (Flat.len _) (Eq.symm (Flat.len _)))) ?_; intro w a hM hE
  refine c_fin ?_
  refine wp_seq ?_
  refine c_region ?_
  refine s_loadA (cs := Flat.enc p0) hE goes_none (by decide) rfl ty97 rfl (hM.rawAt (pre := [_, _])) (Flat.len _) ?_; intro a hE
  refine s_move hE goes_none (by decide) rfl ?_; intro a hE
  refine c_fin ?_
  obtain ⟨j7, hl8, hF9⟩ := bind_some hF
  refine c_cut (fun a w => Env 18 a [(2, (ptr b3 0)), (3, (ptr b5 0))] ∧ M (Old w0) w0 w [raw b5 (Flat.enc j7), raw b3 (Flat.enc (Vector.replicate 256 (0 : UInt8)))]) ?_ ?_
  · skip
    refine wp_block ?_
    have hM := hM.pull (pre := [_])
    have hM := hM.pull (pre := [_])
    have hM := M.fst (l := [_, _]) hM
    refine c_loop (fun (s10 : (Vector UInt8 256) × Int) a w => Env 18 a [(2, (ptr b3 0)), (3, (ptr b5 0)), (7, (Value.agg (Flat.enc p0).toArray)), (8, (vI s10.2))] ∧ M (Old w0) w0 w [raw b5 (Flat.enc s10.1), raw b3 (Flat.enc (Vector.replicate 256 (0 : UInt8)))]) hl8 ⟨hE.sub ⟨rfl, rfl, rfl, rfl, trivial⟩, hM⟩ ?_
    rintro s10 a w ⟨hE, hM⟩ o13 hs11 hx12
    unfold L0_impl_Box_inverse at hs11
    refine c_region ?_
    refine s_int hE goes_none (by decide) rfl rfl rfl ?_; intro a hE
    refine c_fin ?_
    refine wp_seq ?_
    refine c_cond hE rfl ?_ ?_
    · intro hb14
      have hs11 := ite_t hs11 hb14
      refine wp_skip ?_
      refine c_nx ?_
      refine wp_seq ?_
      refine wp_block ?_
      refine c_region ?_
      refine s_move hE goes_none (by decide) rfl ?_; intro a hE
      obtain ⟨x15, e16, hs11⟩ := bind_some hs11
      have hi17 := vidx_some e16
      refine s_indexV hE goes_none (by decide) rfl rfl Try.underlying97 ty5 rfl rfl hi17 rfl ?_; intro a hE
      refine s_assign hE goes_none (by decide) rfl ?_; intro a hE
      refine s_assign hE goes_none (by decide) rfl ?_; intro a hE
      refine c_fin ?_
      refine wp_region_lit ?_
      refine s_move hE goes_none (by decide) rfl ?_; intro a hE
      refine s_move hE goes_none (by decide) rfl ?_; intro a hE
      refine s_conv hE goes_none (by decide) rfl Try.underlying3 Try.underlying5 ?_; intro a hE
      rw [byteI_val] at hE
      obtain ⟨x19, e20, hs11⟩ := bind_some hs11
      have hi18 := vidx_some e20
      refine s_indexA hE goes_none (by decide) rfl rfl Try.underlying97 ty5 hi18.1 ?_; intro a hE
      refine s_store (seg := [(vB (byteI s10.2))]) (cs' := Flat.enc (s10.1.setIfInBounds ((bI x15)).toNat (byteI s10.2))) hE hM goes_none rfl rfl rfl ty5 rfl (fit_vec (v := s10.1) (x := byteI s10.2) hi18.1) (Flat.cell (byteI s10.2 : UInt8)) (splice_vec0 (v := s10.1) (x := byteI s10.2) hi18.1) ?_; intro w a hM hE
      refine c_fin0 ?_
      refine c_nb ?_
      refine c_nx ?_
      refine wp_region_lit ?_
      refine s_int hE goes_none (by decide) rfl rfl rfl ?_; intro a hE
      refine s_move hE goes_none (by decide) rfl ?_; intro a hE
      refine c_fin0 ?_
      refine c_mid ?_
      exact ⟨_, (Option.some.inj hs11).symm, hE.sub ⟨rfl, rfl, rfl, rfl, trivial⟩, hM⟩
    · intro hb14
      have hs11 := ite_f hs11 hb14
      refine wp_exit (e_then (e_then (e_eq ?_)))
      have ht21 := hx12 _ (Option.some.inj hs11).symm
      subst ht21
      refine c_mid ?_
      exact ⟨hE.sub ⟨rfl, rfl, trivial⟩, hM⟩
  · skip
    rintro a w ⟨hE, hM⟩
    refine c_nx ?_
    refine c_region ?_
    refine s_loadA (cs := Flat.enc j7) hE goes_none (by decide) rfl ty97 rfl (hM.rawAt (pre := [])) (Flat.len _) ?_; intro a hE
    have hM := hM.pull (pre := [_])
    refine s_store (seg := Flat.enc j7) (cs' := Flat.enc j7) hE hM goes_none rfl rfl rfl ty97 (Flat.len _) (Nat.le_of_eq ((Nat.zero_add _).trans (Eq.trans (Flat.len _) (Eq.symm (Flat.len _))))) (Flat.cell _) (splice_all (Eq.trans (Flat.len _) (Eq.symm (Flat.len _)))) ?_; intro w a hM hE
    refine c_fin ?_
    have hr := Option.some.inj hF9
    subst hr
    have hq22 : ResIs Try.prog _ _ (.cell 2 97) _ := res_cell hE rfl ty97 rfl (hM.rawAt (pre := [])) (Flat.len _) rfl
    have hM := M.fst (l := []) hM
    exact wp_ret (k_ret1 hE rfl hq22 ⟨_, rfl, rfl, hM.kept⟩)
noncomputable def L0_impl_Places_inverse (p0 : (Vector UInt8 16)) (s10 : (Vector UInt8 16) × Int) : Option (Fl ((Vector UInt8 16) × Int) (Vector UInt8 16)) :=
  if (decide (s10.2 < 16)) = true then ((vidx p0 s10.2).bind fun (x15 : UInt8) => (vidx s10.1 (bI x15)).bind fun (x19 : UInt8) => some (Fl.nx ((s10.1.setIfInBounds ((bI x15)).toNat (byteI s10.2)), wr (s10.2 + 1)))) else (some (Fl.ex s10.1))
noncomputable def F_impl_Places_inverse (p0 : (Vector UInt8 16)) : Option ((Vector UInt8 16)) :=
  (iter (L0_impl_Places_inverse p0) ((Vector.replicate 16 (0 : UInt8)), 0) : Option ((Vector UInt8 16))).bind fun (j7 : (Vector UInt8 16)) => some j7
set_option maxRecDepth 20000 in
set_option maxHeartbeats 400000 in
theorem c_impl_Places_inverse (w0 : World) (p0 : (Vector UInt8 16)) (r : (Vector UInt8 16)) (hF : F_impl_Places_inverse p0 = some r) :
    Calls Try.prog 109 [(Value.agg (Flat.enc p0).toArray)].toArray w0 (fun en w' => ∃ v, en = .returned v ∧ (v = (Value.agg (Flat.enc r).toArray) ∧ Kept (Old w0) w0 w')) := by
  refine c_enter (n := 18) Try.func109 rfl rfl (Nat.le_of_ble_eq_true rfl) rfl ?_
  intro a hE
  have hM := M.start w0
  unfold F_impl_Places_inverse at hF
  refine c_region ?_
  refine s_box (cs := Flat.enc p0) hE hM goes_none (by decide) rfl rfl ?_; intro b1 w a hM hE
  refine s_alloc hE hM goes_none (by decide) ty101 ?_; intro b3 w a hM hE
  refine c_fin ?_
  refine c_region ?_
  refine s_buildA (parts := []) (vs := []) (cs := Flat.enc (Vector.replicate 16 (0 : UInt8))) hE goes_none (by decide) rfl rfl ty101 rfl ty5 filla_nil ?_; intro a hE
  refine s_alloc hE hM goes_none (by decide) ty101 ?_; intro b5 w a hM hE
  refine s_store (seg := Flat.enc (Vector.replicate 16 (0 : UInt8))) (cs' := Flat.enc (Vector.replicate 16 (0 : UInt8))) hE hM goes_none rfl rfl rfl ty101 (Flat.len _) (Nat.le_of_eq ((Nat.zero_add _).trans (Eq.trans (Flat.len _) (Eq.symm (Flat.len _))))) (Flat.cell _) (splice_all (Eq.trans (Flat.len _) (Eq.symm (Flat.len _)))) ?_; intro w a hM hE
  refine c_fin ?_
  refine wp_seq ?_
  refine c_region ?_
  refine s_loadA (cs := Flat.enc p0) hE goes_none (by decide) rfl ty101 rfl (hM.rawAt (pre := [_, _])) (Flat.len _) ?_; intro a hE
  refine s_move hE goes_none (by decide) rfl ?_; intro a hE
  refine c_fin ?_
  obtain ⟨j7, hl8, hF9⟩ := bind_some hF
  refine c_cut (fun a w => Env 18 a [(2, (ptr b3 0)), (3, (ptr b5 0))] ∧ M (Old w0) w0 w [raw b5 (Flat.enc j7), raw b3 (Flat.enc (Vector.replicate 16 (0 : UInt8)))]) ?_ ?_
  · skip
    refine wp_block ?_
    have hM := hM.pull (pre := [_])
    have hM := hM.pull (pre := [_])
    have hM := M.fst (l := [_, _]) hM
    refine c_loop (fun (s10 : (Vector UInt8 16) × Int) a w => Env 18 a [(2, (ptr b3 0)), (3, (ptr b5 0)), (7, (Value.agg (Flat.enc p0).toArray)), (8, (vI s10.2))] ∧ M (Old w0) w0 w [raw b5 (Flat.enc s10.1), raw b3 (Flat.enc (Vector.replicate 16 (0 : UInt8)))]) hl8 ⟨hE.sub ⟨rfl, rfl, rfl, rfl, trivial⟩, hM⟩ ?_
    rintro s10 a w ⟨hE, hM⟩ o13 hs11 hx12
    unfold L0_impl_Places_inverse at hs11
    refine c_region ?_
    refine s_int hE goes_none (by decide) rfl rfl rfl ?_; intro a hE
    refine c_fin ?_
    refine wp_seq ?_
    refine c_cond hE rfl ?_ ?_
    · intro hb14
      have hs11 := ite_t hs11 hb14
      refine wp_skip ?_
      refine c_nx ?_
      refine wp_seq ?_
      refine wp_block ?_
      refine c_region ?_
      refine s_move hE goes_none (by decide) rfl ?_; intro a hE
      obtain ⟨x15, e16, hs11⟩ := bind_some hs11
      have hi17 := vidx_some e16
      refine s_indexV hE goes_none (by decide) rfl rfl Try.underlying101 ty5 rfl rfl hi17 rfl ?_; intro a hE
      refine s_assign hE goes_none (by decide) rfl ?_; intro a hE
      refine s_assign hE goes_none (by decide) rfl ?_; intro a hE
      refine c_fin ?_
      refine wp_region_lit ?_
      refine s_move hE goes_none (by decide) rfl ?_; intro a hE
      refine s_move hE goes_none (by decide) rfl ?_; intro a hE
      refine s_conv hE goes_none (by decide) rfl Try.underlying3 Try.underlying5 ?_; intro a hE
      rw [byteI_val] at hE
      obtain ⟨x19, e20, hs11⟩ := bind_some hs11
      have hi18 := vidx_some e20
      refine s_indexA hE goes_none (by decide) rfl rfl Try.underlying101 ty5 hi18.1 ?_; intro a hE
      refine s_store (seg := [(vB (byteI s10.2))]) (cs' := Flat.enc (s10.1.setIfInBounds ((bI x15)).toNat (byteI s10.2))) hE hM goes_none rfl rfl rfl ty5 rfl (fit_vec (v := s10.1) (x := byteI s10.2) hi18.1) (Flat.cell (byteI s10.2 : UInt8)) (splice_vec0 (v := s10.1) (x := byteI s10.2) hi18.1) ?_; intro w a hM hE
      refine c_fin0 ?_
      refine c_nb ?_
      refine c_nx ?_
      refine wp_region_lit ?_
      refine s_int hE goes_none (by decide) rfl rfl rfl ?_; intro a hE
      refine s_move hE goes_none (by decide) rfl ?_; intro a hE
      refine c_fin0 ?_
      refine c_mid ?_
      exact ⟨_, (Option.some.inj hs11).symm, hE.sub ⟨rfl, rfl, rfl, rfl, trivial⟩, hM⟩
    · intro hb14
      have hs11 := ite_f hs11 hb14
      refine wp_exit (e_then (e_then (e_eq ?_)))
      have ht21 := hx12 _ (Option.some.inj hs11).symm
      subst ht21
      refine c_mid ?_
      exact ⟨hE.sub ⟨rfl, rfl, trivial⟩, hM⟩
  · skip
    rintro a w ⟨hE, hM⟩
    refine c_nx ?_
    refine c_region ?_
    refine s_loadA (cs := Flat.enc j7) hE goes_none (by decide) rfl ty101 rfl (hM.rawAt (pre := [])) (Flat.len _) ?_; intro a hE
    have hM := hM.pull (pre := [_])
    refine s_store (seg := Flat.enc j7) (cs' := Flat.enc j7) hE hM goes_none rfl rfl rfl ty101 (Flat.len _) (Nat.le_of_eq ((Nat.zero_add _).trans (Eq.trans (Flat.len _) (Eq.symm (Flat.len _))))) (Flat.cell _) (splice_all (Eq.trans (Flat.len _) (Eq.symm (Flat.len _)))) ?_; intro w a hM hE
    refine c_fin ?_
    have hr := Option.some.inj hF9
    subst hr
    have hq22 : ResIs Try.prog _ _ (.cell 2 101) _ := res_cell hE rfl ty101 rfl (hM.rawAt (pre := [])) (Flat.len _) rfl
    have hM := M.fst (l := []) hM
    exact wp_ret (k_ret1 hE rfl hq22 ⟨_, rfl, rfl, hM.kept⟩)
noncomputable def L3_impl_newMixer (s8 : (Vector (Vector (Vector UInt8 256) 4) 4) × Int) (s19 : (Vector (Vector (Vector UInt8 256) 4) 4) × Int) (s30 : (Vector (Vector (Vector UInt8 256) 4) 4) × Int) (r35 : UInt8) (s40 : (Vector (Vector (Vector UInt8 256) 4) 4) × Int) : Option (Fl ((Vector (Vector (Vector UInt8 256) 4) 4) × Int) (Vector (Vector (Vector UInt8 256) 4) 4)) :=
  if (decide (s40.2 < s30.2)) = true then ((vidx s40.1 s8.2).bind fun (x47 : (Vector (Vector UInt8 256) 4)) => (vidx x47 s19.2).bind fun (x50 : (Vector UInt8 256)) => (vidx x50 s40.2).bind fun (x53 : UInt8) => (vidx s40.1 s8.2).bind fun (x56 : (Vector (Vector UInt8 256) 4)) => (vidx x56 s19.2).bind fun (x59 : (Vector UInt8 256)) => (vidx x59 (orI s30.2 s40.2)).bind fun (x62 : UInt8) => some (Fl.nx ((s40.1.setIfInBounds (s8.2).toNat (x56.setIfInBounds (s19.2).toNat (x59.setIfInBounds ((orI s30.2 s40.2)).toNat (r35 ^^^ x53)))), wr (s40.2 + 1)))) else (some (Fl.ex s40.1))
noncomputable def L2_impl_newMixer (p0 : Int) (s8 : (Vector (Vector (Vector UInt8 256) 4) 4) × Int) (s19 : (Vector (Vector (Vector UInt8 256) 4) 4) × Int) (x24 : UInt8) (s30 : (Vector (Vector (Vector UInt8 256) 4) 4) × Int) : Option (Fl ((Vector (Vector (Vector UInt8 256) 4) 4) × Int) (Vector (Vector (Vector UInt8 256) 4) 4)) :=
  if (decide (s30.2 < 256)) = true then ((F_impl_field_times p0 x24 (byteI s30.2)).bind fun (r35 : UInt8) => (iter (L3_impl_newMixer s8 s19 s30 r35) (s30.1, 0) : Option ((Vector (Vector (Vector UInt8 256) 4) 4))).bind fun (j37 : (Vector (Vector (Vector UInt8 256) 4) 4)) => some (Fl.nx (j37, wr (s30.2 * 2)))) else (some (Fl.ex s30.1))
noncomputable def L1_impl_newMixer (p0 : Int) (s8 : (Vector (Vector (Vector UInt8 256) 4) 4) × Int) (x14 : (Vector UInt8 4)) (s19 : (Vector (Vector (Vector UInt8 256) 4) 4) × Int) : Option (Fl ((Vector (Vector (Vector UInt8 256) 4) 4) × Int) (Vector (Vector (Vector UInt8 256) 4) 4)) :=
  if (decide (s19.2 < 4)) = true then ((vidx x14 s19.2).bind fun (x24 : UInt8) => (iter (L2_impl_newMixer p0 s8 s19 x24) (s19.1, 1) : Option ((Vector (Vector (Vector UInt8 256) 4) 4))).bind fun (j27 : (Vector (Vector (Vector UInt8 256) 4) 4)) => some (Fl.nx (j27, wr (s19.2 + 1)))) else (some (Fl.ex s19.1))
noncomputable def L0_impl_newMixer (p0 : Int) (p1 : (Vector (Vector UInt8 4) 4)) (s8 : (Vector (Vector (Vector UInt8 256) 4) 4) × Int) : Option (Fl ((Vector (Vector (Vector UInt8 256) 4) 4) × Int) (Vector (Vector (Vector UInt8 256) 4) 4)) :=
  if (decide (s8.2 < 4)) = true then ((vidx p1 s8.2).bind fun (x14 : (Vector UInt8 4)) => (iter (L1_impl_newMixer p0 s8 x14) (s8.1, 0) : Option ((Vector (Vector (Vector UInt8 256) 4) 4))).bind fun (j16 : (Vector (Vector (Vector UInt8 256) 4) 4)) => some (Fl.nx (j16, wr (s8.2 + 1)))) else (some (Fl.ex s8.1))
noncomputable def F_impl_newMixer (p0 : Int) (p1 : (Vector (Vector UInt8 4) 4)) : Option ((Ref (Vector (Vector (Vector UInt8 256) 4) 4))) :=
  (iter (L0_impl_newMixer p0 p1) ((Vector.replicate 4 (Vector.replicate 4 (Vector.replicate 256 (0 : UInt8)))), 0) : Option ((Vector (Vector (Vector UInt8 256) 4) 4))).bind fun (j5 : (Vector (Vector (Vector UInt8 256) 4) 4)) => some (⟨j5⟩ : (Ref (Vector (Vector (Vector UInt8 256) 4) 4)))
set_option maxRecDepth 20000 in
set_option maxHeartbeats 400000 in
theorem c_impl_newMixer (w0 : World) (p0 : Int) (p1 : (Vector (Vector UInt8 4) 4)) (r : (Ref (Vector (Vector (Vector UInt8 256) 4) 4))) (hF : F_impl_newMixer p0 p1 = some r) :
    Calls Try.prog 110 [(vI p0), (Value.agg (Flat.enc p1).toArray)].toArray w0 (fun en w' => ∃ v, en = .returned v ∧ (∃ (y1 : Value), v = y1 ∧ Fr w0 w' [own NoB (r : (Ref (Vector (Vector (Vector UInt8 256) 4) 4))) [y1]] ∧ Kept (Old w0) w0 w')) := by
  refine c_enter (n := 62) Try.func110 rfl rfl (Nat.le_of_ble_eq_true rfl) rfl ?_
  intro a hE
  have hM := M.start w0
  unfold F_impl_newMixer at hF
  refine c_region ?_
  refine s_box (cs := Flat.enc p1) hE hM goes_none (by decide) rfl rfl ?_; intro b1 w a hM hE
  refine s_assign hE goes_none (by decide) rfl ?_; intro a hE
  refine c_fin ?_
  refine c_region ?_
  refine s_buildA (parts := []) (vs := []) (cs := Flat.enc (Vector.replicate 4 (Vector.replicate 4 (Vector.replicate 256 (0 : UInt8))))) hE goes_none (by decide) rfl rfl ty168 rfl ty166 filla_nil ?_; intro a hE
  refine s_box (cs := Flat.enc (Vector.replicate 4 (Vector.replicate 4 (Vector.replicate 256 (0 : UInt8))))) hE hM goes_none (by decide) rfl rfl ?_; intro b3 w a hM hE
  refine s_assign hE goes_none (by decide) rfl ?_; intro a hE
  refine c_fin ?_
  refine wp_seq ?_
  refine c_region ?_
  refine s_move hE goes_none (by decide) rfl ?_; intro a hE
  refine c_fin ?_
  obtain ⟨j5, hl6, hF7⟩ := bind_some hF
  refine c_cut (fun a w => Env 62 a [(5, (ptr b3 0))] ∧ M (Old w0) w0 w [raw b3 (Flat.enc j5)]) ?_ ?_
  · skip
    refine wp_block ?_
    refine c_loop (fun (s8 : (Vector (Vector (Vector UInt8 256) 4) 4) × Int) a w => Env 62 a [(0, (vI p0)), (3, (ptr b1 0)), (5, (ptr b3 0)), (14, (vI s8.2))] ∧ M (Old w0) w0 w [raw b3 (Flat.enc s8.1), raw b1 (Flat.enc p1)]) hl6 ⟨hE.sub ⟨rfl, rfl, rfl, rfl, trivial⟩, hM⟩ ?_
    rintro s8 a w ⟨hE, hM⟩ o11 hs9 hx10
    unfold L0_impl_newMixer at hs9
    refine c_region ?_
    refine s_int hE goes_none (by decide) rfl rfl rfl ?_; intro a hE
    refine c_fin ?_
    refine wp_seq ?_
    refine c_cond hE rfl ?_ ?_
    · intro hb12
      have hs9 := ite_t hs9 hb12
      refine wp_skip ?_
      refine c_nx ?_
      refine wp_seq ?_
      refine wp_block ?_
      refine c_region ?_
      refine s_move hE goes_none (by decide) rfl ?_; intro a hE
      refine s_assign hE goes_none (by decide) rfl ?_; intro a hE
      refine c_fin ?_
      refine c_region ?_
      refine s_move hE goes_none (by decide) rfl ?_; intro a hE
      obtain ⟨x14, e15, hs9⟩ := bind_some hs9
      have hi13 := vidx_some e15
      refine s_indexA hE goes_none (by decide) rfl rfl Try.underlying100 ty98 hi13.1 ?_; intro a hE
      refine s_loadA (cs := Flat.enc x14) hE goes_none (by decide) rfl ty98 rfl (At.vec (hM.rawAt (pre := [_])) hi13.2) (Flat.len _) ?_; intro a hE
      refine s_move hE goes_none (by decide) rfl ?_; intro a hE
      refine c_fin ?_
      obtain ⟨j16, hl17, hF18⟩ := bind_some hs9
      refine c_cut (fun a w => Env 62 a [(0, (vI p0)), (3, (ptr b1 0)), (5, (ptr b3 0)), (14, (vI s8.2))] ∧ M (Old w0) w0 w [raw b3 (Flat.enc j16), raw b1 (Flat.enc p1)]) ?_ ?_
      · skip
        refine wp_block ?_
        refine c_loop (fun (s19 : (Vector (Vector (Vector UInt8 256) 4) 4) × Int) a w => Env 62 a [(0, (vI p0)), (3, (ptr b1 0)), (5, (ptr b3 0)), (6, (vI s8.2)), (14, (vI s8.2)), (19, (Value.agg (Flat.enc x14).toArray)), (20, (vI s19.2))] ∧ M (Old w0) w0 w [raw b3 (Flat.enc s19.1), raw b1 (Flat.enc p1)]) hl17 ⟨hE.sub ⟨rfl, rfl, rfl, rfl, rfl, rfl, rfl, trivial⟩, hM⟩ ?_
        rintro s19 a w ⟨hE, hM⟩ o22 hs20 hx21
        unfold L1_impl_newMixer at hs20
        refine c_region ?_
        refine s_int hE goes_none (by decide) rfl rfl rfl ?_; intro a hE
        refine c_fin ?_
        refine wp_seq ?_
        refine c_cond hE rfl ?_ ?_
        · intro hb23
          have hs20 := ite_t hs20 hb23
          refine wp_skip ?_
          refine c_nx ?_
          refine wp_seq ?_
          refine wp_block ?_
          refine c_region ?_
          refine s_move hE goes_none (by decide) rfl ?_; intro a hE
          obtain ⟨x24, e25, hs20⟩ := bind_some hs20
          have hi26 := vidx_some e25
          refine s_indexV hE goes_none (by decide) rfl rfl Try.underlying98 ty5 rfl rfl hi26 rfl ?_; intro a hE
          refine s_assign hE goes_none (by decide) rfl ?_; intro a hE
          refine s_assign hE goes_none (by decide) rfl ?_; intro a hE
          refine c_fin ?_
          refine c_region ?_
          refine s_assign hE goes_none (by decide) rfl ?_; intro a hE
          refine c_fin ?_
          obtain ⟨j27, hl28, hF29⟩ := bind_some hs20
          refine c_cut (fun a w => Env 62 a [(0, (vI p0)), (3, (ptr b1 0)), (5, (ptr b3 0)), (6, (vI s8.2)), (14, (vI s8.2)), (19, (Value.agg (Flat.enc x14).toArray)), (20, (vI s19.2))] ∧ M (Old w0) w0 w [raw b3 (Flat.enc j27), raw b1 (Flat.enc p1)]) ?_ ?_
          · skip
            refine wp_block ?_
            refine c_loop (fun (s30 : (Vector (Vector (Vector UInt8 256) 4) 4) × Int) a w => Env 62 a [(0, (vI p0)), (3, (ptr b1 0)), (5, (ptr b3 0)), (6, (vI s8.2)), (7, (vI s19.2)), (8, (vB x24)), (9, (vI s30.2)), (14, (vI s8.2)), (19, (Value.agg (Flat.enc x14).toArray)), (20, (vI s19.2))] ∧ M (Old w0) w0 w [raw b3 (Flat.enc s30.1), raw b1 (Flat.enc p1)]) hl28 ⟨hE.sub ⟨rfl, rfl, rfl, rfl, rfl, rfl, rfl, rfl, rfl, rfl, trivial⟩, hM⟩ ?_
            rintro s30 a w ⟨hE, hM⟩ o33 hs31 hx32
            unfold L2_impl_newMixer at hs31
            refine wp_seq ?_
            refine c_region ?_
            refine s_move hE goes_none (by decide) rfl ?_; intro a hE
            refine s_int hE goes_none (by decide) rfl rfl rfl ?_; intro a hE
            refine c_fin ?_
            refine c_cond hE rfl ?_ ?_
            · intro hb34
              have hs31 := ite_t hs31 hb34
              refine wp_skip ?_
              refine c_nx ?_
              refine wp_seq ?_
              refine wp_block ?_
              refine c_region ?_
              refine s_move hE goes_none (by decide) rfl ?_; intro a hE
              refine s_move hE goes_none (by decide) rfl ?_; intro a hE
              refine s_move hE goes_none (by decide) rfl ?_; intro a hE
              refine s_conv hE goes_none (by decide) rfl Try.underlying3 Try.underlying5 ?_; intro a hE
              rw [byteI_val] at hE
              obtain ⟨r35, e36, hs31⟩ := bind_some hs31
              refine s_call (vs := [(vI p0), (vB x24), (vB (byteI s30.2))]) hE goes_none (by decide) rfl cb127 (c_impl_field_times _ p0 x24 (byteI s30.2) r35 e36) ?_
              rintro v w a ⟨rfl, hK⟩ hE
              have hM := hM.keep hK
              refine s_assign hE goes_none (by decide) rfl ?_; intro a hE
              refine c_fin ?_
              refine c_region ?_
              refine s_move hE goes_none (by decide) rfl ?_; intro a hE
              refine s_move hE goes_none (by decide) rfl ?_; intro a hE
              refine c_fin ?_
              obtain ⟨j37, hl38, hF39⟩ := bind_some hs31
              refine c_cut (fun a w => Env 62 a [(0, (vI p0)), (3, (ptr b1 0)), (5, (ptr b3 0)), (6, (vI s8.2)), (7, (vI s19.2)), (8, (vB x24)), (9, (vI s30.2)), (14, (vI s8.2)), (19, (Value.agg (Flat.enc x14).toArray)), (20, (vI s19.2))] ∧ M (Old w0) w0 w [raw b3 (Flat.enc j37), raw b1 (Flat.enc p1)]) ?_ ?_
              · skip
                refine wp_block ?_
                refine c_loop (fun (s40 : (Vector (Vector (Vector UInt8 256) 4) 4) × Int) a w => Env 62 a [(0, (vI p0)), (3, (ptr b1 0)), (5, (ptr b3 0)), (6, (vI s8.2)), (7, (vI s19.2)), (8, (vB x24)), (9, (vI s30.2)), (10, (vB r35)), (14, (vI s8.2)), (19, (Value.agg (Flat.enc x14).toArray)), (20, (vI s19.2)), (33, (vI s30.2)), (34, (vI s40.2))] ∧ M (Old w0) w0 w [raw b3 (Flat.enc s40.1), raw b1 (Flat.enc p1)]) hl38 ⟨hE.sub ⟨rfl, rfl, rfl, rfl, rfl, rfl, rfl, rfl, rfl, rfl, rfl, rfl, rfl, trivial⟩, hM⟩ ?_
                rintro s40 a w ⟨hE, hM⟩ o43 hs41 hx42
                unfold L3_impl_newMixer at hs41
                refine c_region ?_
                refine s_int hE goes_none (by decide) rfl rfl rfl ?_; intro a hE
                refine c_fin ?_
                refine wp_seq ?_
                refine c_cond hE rfl ?_ ?_
                · intro hb44
                  have hs41 := ite_t hs41 hb44
                  refine wp_skip ?_
                  refine c_nx ?_
                  refine wp_seq ?_
                  refine wp_block ?_
                  refine c_region ?_
                  refine s_move hE goes_none (by decide) rfl ?_; intro a hE
                  refine s_assign hE goes_none (by decide) rfl ?_; intro a hE
                  refine c_fin ?_
                  obtain ⟨x47, e48, hs41⟩ := bind_some hs41
                  have hi46 := vidx_some e48
                  obtain ⟨x50, e51, hs41⟩ := bind_some hs41
                  have hi49 := vidx_some e51
                  obtain ⟨x53, e54, hs41⟩ := bind_some hs41
                  have hi52 := vidx_some e54
                  obtain ⟨x56, e57, hs41⟩ := bind_some hs41
                  have hi55 := vidx_some e57
                  obtain ⟨x59, e60, hs41⟩ := bind_some hs41
                  have hi58 := vidx_some e60
                  obtain ⟨x62, e63, hs41⟩ := bind_some hs41
                  have hi61 := vidx_some e63
                  refine c_draw (n := 62) (hd := [_, _, _, _, _, _, _, _, _, _, _, _, _, _, _, _, _, _, _, _, _]) (tl := [_]) hmix rfl rfl [37, 38, 39, 40, 41, 42, 43, 44, 45, 46, 47, 48, 49, 50, 51, 52, 53, 54, 55, 56, 57] (by decide) (fun w => M (Old w0) w0 w [raw b3 (Flat.enc s40.1), raw b1 (Flat.enc p1)]) (fun j => ([fun v _ => v = (ptr b3 0), fun v _ => v = (vI s8.2), fun v _ => v = (vI s19.2), fun v _ => v = (vI s30.2), fun v _ => v = (vI s40.2), fun v _ => v = (vI (orI s30.2 s40.2)), fun v _ => v = (vB r35), fun v _ => v = (ptr b3 0), fun v _ => v = (vI s8.2), fun v _ => v = (vI s19.2), fun v _ => v = (vI s40.2), fun v _ => v = (ptr b3 0), fun v _ => v = (ptr b3 (0 + (s8.2).toNat * 1024)), fun v _ => v = (ptr b3 (0 + (s8.2).toNat * 1024 + (s19.2).toNat * 256)), fun v _ => v = (ptr b3 (0 + (s8.2).toNat * 1024 + (s19.2).toNat * 256 + (s40.2).toNat * 1)), fun v _ => v = (vB x53), fun v _ => v = (vB (r35 ^^^ x53)), fun v _ => v = (ptr b3 0), fun v _ => v = (ptr b3 (0 + (s8.2).toNat * 1024)), fun v _ => v = (ptr b3 (0 + (s8.2).toNat * 1024 + (s19.2).toNat * 256)), fun v _ => v = (ptr b3 (0 + (s8.2).toNat * 1024 + (s19.2).toNat * 256 + ((orI s30.2 s40.2)).toNat * 1))] : List (Value → World → Prop)).getD j (fun _ _ => True)) (fun _ _ h hk => h.keep hk) (gup (gupE (gupE (gupE (gupE (gupE (gupE (gupE (gupE (gupE (gupE (gupE (gupE (gupE (gupE (gupE (gupE (gupE (gupE (gupE (gupE (gupE gupN)))))))))))))))))))))) hE hM.drew (steps_of (steps_cons ?_ (steps_cons ?_ (steps_cons ?_ (steps_cons ?_ (steps_cons ?_ (steps_cons ?_ (steps_cons ?_ (steps_cons ?_ (steps_cons ?_ (steps_cons ?_ (steps_cons ?_ (steps_cons ?_ (steps_cons ?_ (steps_cons ?_ (steps_cons ?_ (steps_cons ?_ (steps_cons ?_ (steps_cons ?_ (steps_cons ?_ (steps_cons ?_ (steps_cons ?_ steps_nil)))))))))))))))))))))) ?_
                  · intro a w ux45 hE hM hp
                    refine s_move hE goes_none (by decide) rfl ?_; intro a hE
                    exact ⟨Kept.refl _ _, _, _, rfl, hE, rfl⟩
                  · intro a w ux45 hE hM hp
                    refine s_move hE goes_none (by decide) rfl ?_; intro a hE
                    exact ⟨Kept.refl _ _, _, _, rfl, hE, rfl⟩
                  · intro a w ux45 hE hM hp
                    refine s_move hE goes_none (by decide) rfl ?_; intro a hE
                    exact ⟨Kept.refl _ _, _, _, rfl, hE, rfl⟩
                  · intro a w ux45 hE hM hp
                    refine s_move hE goes_none (by decide) rfl ?_; intro a hE
                    exact ⟨Kept.refl _ _, _, _, rfl, hE, rfl⟩
                  · intro a w ux45 hE hM hp
                    refine s_move hE goes_none (by decide) rfl ?_; intro a hE
                    exact ⟨Kept.refl _ _, _, _, rfl, hE, rfl⟩
                  · intro a w ux45 hE hM hp
                    have f3 : ux45 3 = (vI s30.2) := hp 0 _ rfl rfl
                    have f4 : ux45 4 = (vI s40.2) := hp 1 _ rfl rfl
                    refine s_int hE goes_none (by decide) (lk rfl f3) (lk rfl f4) rfl ?_; intro a hE
                    exact ⟨Kept.refl _ _, _, _, rfl, hE, rfl⟩
                  · intro a w ux45 hE hM hp
                    refine s_move hE goes_none (by decide) rfl ?_; intro a hE
                    exact ⟨Kept.refl _ _, _, _, rfl, hE, rfl⟩
                  · intro a w ux45 hE hM hp
                    refine s_move hE goes_none (by decide) rfl ?_; intro a hE
                    exact ⟨Kept.refl _ _, _, _, rfl, hE, rfl⟩
                  · intro a w ux45 hE hM hp
                    refine s_move hE goes_none (by decide) rfl ?_; intro a hE
                    exact ⟨Kept.refl _ _, _, _, rfl, hE, rfl⟩
                  · intro a w ux45 hE hM hp
                    refine s_move hE goes_none (by decide) rfl ?_; intro a hE
                    exact ⟨Kept.refl _ _, _, _, rfl, hE, rfl⟩
                  · intro a w ux45 hE hM hp
                    refine s_move hE goes_none (by decide) rfl ?_; intro a hE
                    exact ⟨Kept.refl _ _, _, _, rfl, hE, rfl⟩
                  · intro a w ux45 hE hM hp
                    have f7 : ux45 7 = (ptr b3 0) := hp 0 _ rfl rfl
                    refine s_nilCheck hE goes_none (by decide) (lk rfl f7) ?_; intro a hE
                    exact ⟨Kept.refl _ _, _, _, rfl, hE, rfl⟩
                  · intro a w ux45 hE hM hp
                    have f8 : ux45 8 = (vI s8.2) := hp 1 _ rfl rfl
                    have f11 : ux45 11 = (ptr b3 0) := hp 0 _ rfl rfl
                    refine s_indexA hE goes_none (by decide) (lk rfl f11) (lk rfl f8) Try.underlying168 ty166 hi46.1 ?_; intro a hE
                    exact ⟨Kept.refl _ _, _, _, rfl, hE, rfl⟩
                  · intro a w ux45 hE hM hp
                    have f9 : ux45 9 = (vI s19.2) := hp 1 _ rfl rfl
                    have f12 : ux45 12 = (ptr b3 (0 + (s8.2).toNat * 1024)) := hp 0 _ rfl rfl
                    refine s_indexA hE goes_none (by decide) (lk rfl f12) (lk rfl f9) Try.underlying166 ty96 hi49.1 ?_; intro a hE
                    exact ⟨Kept.refl _ _, _, _, rfl, hE, rfl⟩
                  · intro a w ux45 hE hM hp
                    have f10 : ux45 10 = (vI s40.2) := hp 1 _ rfl rfl
                    have f13 : ux45 13 = (ptr b3 (0 + (s8.2).toNat * 1024 + (s19.2).toNat * 256)) := hp 0 _ rfl rfl
                    refine s_indexA hE goes_none (by decide) (lk rfl f13) (lk rfl f10) Try.underlying96 ty5 hi52.1 ?_; intro a hE
                    exact ⟨Kept.refl _ _, _, _, rfl, hE, rfl⟩
                  · intro a w ux45 hE hM hp
                    have f14 : ux45 14 = (ptr b3 (0 + (s8.2).toNat * 1024 + (s19.2).toNat * 256 + (s40.2).toNat * 1)) := hp 0 _ rfl rfl
                    refine s_load (v := (vB x53)) hE goes_none (by decide) (lk rfl f14) ty5 rfl (At.vec (At.vec (At.vec (hM.rawAt (pre := [])) hi46.2) hi49.2) hi52.2) ?_; intro a hE
                    exact ⟨Kept.refl _ _, _, _, rfl, hE, rfl⟩
                  · intro a w ux45 hE hM hp
                    have f6 : ux45 6 = (vB r35) := hp 0 _ rfl rfl
                    have f15 : ux45 15 = (vB x53) := hp 1 _ rfl rfl
                    refine s_int hE goes_none (by decide) (lk rfl f6) (lk rfl f15) (bB_xor r35 x53) ?_; intro a hE
                    exact ⟨Kept.refl _ _, _, _, rfl, hE, rfl⟩
                  · intro a w ux45 hE hM hp
                    have f0 : ux45 0 = (ptr b3 0) := hp 0 _ rfl rfl
                    refine s_nilCheck hE goes_none (by decide) (lk rfl f0) ?_; intro a hE
                    exact ⟨Kept.refl _ _, _, _, rfl, hE, rfl⟩
                  · intro a w ux45 hE hM hp
                    have f1 : ux45 1 = (vI s8.2) := hp 1 _ rfl rfl
                    have f17 : ux45 17 = (ptr b3 0) := hp 0 _ rfl rfl
                    refine s_indexA hE goes_none (by decide) (lk rfl f17) (lk rfl f1) Try.underlying168 ty166 hi55.1 ?_; intro a hE
                    exact ⟨Kept.refl _ _, _, _, rfl, hE, rfl⟩
                  · intro a w ux45 hE hM hp
                    have f2 : ux45 2 = (vI s19.2) := hp 1 _ rfl rfl
                    have f18 : ux45 18 = (ptr b3 (0 + (s8.2).toNat * 1024)) := hp 0 _ rfl rfl
                    refine s_indexA hE goes_none (by decide) (lk rfl f18) (lk rfl f2) Try.underlying166 ty96 hi58.1 ?_; intro a hE
                    exact ⟨Kept.refl _ _, _, _, rfl, hE, rfl⟩
                  · intro a w ux45 hE hM hp
                    have f5 : ux45 5 = (vI (orI s30.2 s40.2)) := hp 1 _ rfl rfl
                    have f19 : ux45 19 = (ptr b3 (0 + (s8.2).toNat * 1024 + (s19.2).toNat * 256)) := hp 0 _ rfl rfl
                    refine s_indexA hE goes_none (by decide) (lk rfl f19) (lk rfl f5) Try.underlying96 ty5 hi61.1 ?_; intro a hE
                    exact ⟨Kept.refl _ _, _, _, rfl, hE, rfl⟩
                  · intro a w ux45 hE hM hg
                    have f0 : ux45 0 = (ptr b3 0) := hg 0 (by decide)
                    have f1 : ux45 1 = (vI s8.2) := hg 1 (by decide)
                    have f2 : ux45 2 = (vI s19.2) := hg 2 (by decide)
                    have f3 : ux45 3 = (vI s30.2) := hg 3 (by decide)
                    have f4 : ux45 4 = (vI s40.2) := hg 4 (by decide)
                    have f5 : ux45 5 = (vI (orI s30.2 s40.2)) := hg 5 (by decide)
                    have f6 : ux45 6 = (vB r35) := hg 6 (by decide)
                    have f7 : ux45 7 = (ptr b3 0) := hg 7 (by decide)
                    have f8 : ux45 8 = (vI s8.2) := hg 8 (by decide)
                    have f9 : ux45 9 = (vI s19.2) := hg 9 (by decide)
                    have f10 : ux45 10 = (vI s40.2) := hg 10 (by decide)
                    have f11 : ux45 11 = (ptr b3 0) := hg 11 (by decide)
                    have f12 : ux45 12 = (ptr b3 (0 + (s8.2).toNat * 1024)) := hg 12 (by decide)
                    have f13 : ux45 13 = (ptr b3 (0 + (s8.2).toNat * 1024 + (s19.2).toNat * 256)) := hg 13 (by decide)
                    have f14 : ux45 14 = (ptr b3 (0 + (s8.2).toNat * 1024 + (s19.2).toNat * 256 + (s40.2).toNat * 1)) := hg 14 (by decide)
                    have f15 : ux45 15 = (vB x53) := hg 15 (by decide)
                    have f16 : ux45 16 = (vB (r35 ^^^ x53)) := hg 16 (by decide)
                    have f17 : ux45 17 = (ptr b3 0) := hg 17 (by decide)
                    have f18 : ux45 18 = (ptr b3 (0 + (s8.2).toNat * 1024)) := hg 18 (by decide)
                    have f19 : ux45 19 = (ptr b3 (0 + (s8.2).toNat * 1024 + (s19.2).toNat * 256)) := hg 19 (by decide)
                    have f20 : ux45 20 = (ptr b3 (0 + (s8.2).toNat * 1024 + (s19.2).toNat * 256 + ((orI s30.2 s40.2)).toNat * 1)) := hg 20 (by decide)
                    have hE := hE.sub (e' := [(37, (ptr b3 0)), (38, (vI s8.2)), (39, (vI s19.2)), (40, (vI s30.2)), (41, (vI s40.2)), (42, (vI (orI s30.2 s40.2))), (43, (vB r35)), (44, (ptr b3 0)), (45, (vI s8.2)), (46, (vI s19.2)), (47, (vI s40.2)), (48, (ptr b3 0)), (49, (ptr b3 (0 + (s8.2).toNat * 1024))), (50, (ptr b3 (0 + (s8.2).toNat * 1024 + (s19.2).toNat * 256))), (51, (ptr b3 (0 + (s8.2).toNat * 1024 + (s19.2).toNat * 256 + (s40.2).toNat * 1))), (52, (vB x53)), (53, (vB (r35 ^^^ x53))), (54, (ptr b3 0)), (55, (ptr b3 (0 + (s8.2).toNat * 1024))), (56, (ptr b3 (0 + (s8.2).toNat * 1024 + (s19.2).toNat * 256))), (57, (ptr b3 (0 + (s8.2).toNat * 1024 + (s19.2).toNat * 256 + ((orI s30.2 s40.2)).toNat * 1))), (0, (vI p0)), (3, (ptr b1 0)), (5, (ptr b3 0)), (6, (vI s8.2)), (7, (vI s19.2)), (8, (vB x24)), (9, (vI s30.2)), (10, (vB r35)), (11, (vI s40.2)), (14, (vI s8.2)), (19, (Value.agg (Flat.enc x14).toArray)), (20, (vI s19.2)), (33, (vI s30.2)), (34, (vI s40.2)), (35, (vT (decide (s40.2 < s30.2)))), (36, (vI s40.2))]) ⟨lk rfl f0, lk rfl f1, lk rfl f2, lk rfl f3, lk rfl f4, lk rfl f5, lk rfl f6, lk rfl f7, lk rfl f8, lk rfl f9, lk rfl f10, lk rfl f11, lk rfl f12, lk rfl f13, lk rfl f14, lk rfl f15, lk rfl f16, lk rfl f17, lk rfl f18, lk rfl f19, lk rfl f20, rfl, rfl, rfl, rfl, rfl, rfl, rfl, rfl, rfl, rfl, rfl, rfl, rfl, rfl, rfl, rfl, trivial⟩
                    refine s_store (seg := [(vB (r35 ^^^ x53))]) (cs' := Flat.enc (s40.1.setIfInBounds (s8.2).toNat (x56.setIfInBounds (s19.2).toNat (x59.setIfInBounds ((orI s30.2 s40.2)).toNat (r35 ^^^ x53))))) hE hM goes_none rfl rfl rfl ty5 rfl (fit_vecI (o' := (s19.2).toNat * 256 + (0 + ((orI s30.2 s40.2)).toNat * 1)) hi55 (fit_vecI (o' := 0 + ((orI s30.2 s40.2)).toNat * 1) hi58 (fit_vec (v := x59) (x := r35 ^^^ x53) hi61.1) (by first | omega | (simp only [Flat.n] <;> omega))) (by first | omega | (simp only [Flat.n] <;> omega))) (Flat.cell (r35 ^^^ x53 : UInt8)) (splice_vecI (o' := (s19.2).toNat * 256 + (0 + ((orI s30.2 s40.2)).toNat * 1)) hi55 (fit_vecI (o' := 0 + ((orI s30.2 s40.2)).toNat * 1) hi58 (fit_vec (v := x59) (x := r35 ^^^ x53) hi61.1) (by first | omega | (simp only [Flat.n] <;> omega))) (splice_vecI (o' := 0 + ((orI s30.2 s40.2)).toNat * 1) hi58 (fit_vec (v := x59) (x := r35 ^^^ x53) hi61.1) (splice_vec0 (v := x59) (x := r35 ^^^ x53) hi61.1) (by first | omega | (simp only [Flat.n] <;> omega))) (by first | omega | (simp only [Flat.n] <;> omega))) ?_; intro w a hM hE
                    refine c_fin0 ?_
                    refine c_nb ?_
                    refine c_nx ?_
                    refine wp_region_lit ?_
                    refine s_int hE goes_none (by decide) rfl rfl rfl ?_; intro a hE
                    refine s_move hE goes_none (by decide) rfl ?_; intro a hE
                    refine c_fin0 ?_
                    refine c_mid ?_
                    exact ⟨_, (Option.some.inj hs41).symm, hE.sub ⟨rfl, rfl, rfl, rfl, rfl, rfl, rfl, rfl, rfl, rfl, rfl, rfl, rfl, trivial⟩, hM⟩
                · intro hb44
                  have hs41 := ite_f hs41 hb44
                  refine wp_exit (e_then (e_then (e_eq ?_)))
                  have ht64 := hx42 _ (Option.some.inj hs41).symm
                  subst ht64
                  refine c_mid ?_
                  exact ⟨hE.sub ⟨rfl, rfl, rfl, rfl, rfl, rfl, rfl, rfl, rfl, rfl, trivial⟩, hM⟩
              · skip
                rintro a w ⟨hE, hM⟩
                refine c_nb ?_
                refine c_nx ?_
                refine wp_region_lit ?_
                refine s_move hE goes_none (by decide) rfl ?_; intro a hE
                refine s_int hE goes_none (by decide) rfl rfl rfl ?_; intro a hE
                refine s_assign hE goes_none (by decide) rfl ?_; intro a hE
                refine c_fin0 ?_
                refine c_mid ?_
                exact ⟨_, (Option.some.inj hF39).symm, hE.sub ⟨rfl, rfl, rfl, rfl, rfl, rfl, rfl, rfl, rfl, rfl, trivial⟩, hM⟩
            · intro hb34
              have hs31 := ite_f hs31 hb34
              refine wp_exit (e_then (e_then (e_eq ?_)))
              have ht65 := hx32 _ (Option.some.inj hs31).symm
              subst ht65
              refine c_mid ?_
              exact ⟨hE.sub ⟨rfl, rfl, rfl, rfl, rfl, rfl, rfl, trivial⟩, hM⟩
          · skip
            rintro a w ⟨hE, hM⟩
            refine c_nb ?_
            refine c_nx ?_
            refine wp_region_lit ?_
            refine s_int hE goes_none (by decide) rfl rfl rfl ?_; intro a hE
            refine s_move hE goes_none (by decide) rfl ?_; intro a hE
            refine c_fin0 ?_
            refine c_mid ?_
            exact ⟨_, (Option.some.inj hF29).symm, hE.sub ⟨rfl, rfl, rfl, rfl, rfl, rfl, rfl, trivial⟩, hM⟩
        · intro hb23
          have hs20 := ite_f hs20 hb23
          refine wp_exit (e_then (e_then (e_eq ?_)))
          have ht66 := hx21 _ (Option.some.inj hs20).symm
          subst ht66
          refine c_mid ?_
          exact ⟨hE.sub ⟨rfl, rfl, rfl, rfl, trivial⟩, hM⟩
      · skip
        rintro a w ⟨hE, hM⟩
        refine c_nb ?_
        refine c_nx ?_
        refine wp_region_lit ?_
        refine s_int hE goes_none (by decide) rfl rfl rfl ?_; intro a hE
        refine s_move hE goes_none (by decide) rfl ?_; intro a hE
        refine c_fin0 ?_
        refine c_mid ?_
        exact ⟨_, (Option.some.inj hF18).symm, hE.sub ⟨rfl, rfl, rfl, rfl, trivial⟩, hM⟩
    · intro hb12
      have hs9 := ite_f hs9 hb12
      refine wp_exit (e_then (e_then (e_eq ?_)))
      have ht67 := hx10 _ (Option.some.inj hs9).symm
      subst ht67
      refine c_mid ?_
      have hM := M.fst (l := [_]) hM
      exact ⟨hE.sub ⟨rfl, trivial⟩, hM⟩
  · skip
    rintro a w ⟨hE, hM⟩
    refine c_nx ?_
    refine c_region ?_
    refine s_move hE goes_none (by decide) rfl ?_; intro a hE
    refine s_assign hE goes_none (by decide) rfl ?_; intro a hE
    refine c_fin ?_
    have hM := M.toRefF (x := j5) hM
    have hr := Option.some.inj hF7
    subst hr
    exact wp_ret (k_ret1 hE rfl (res_tmp hE rfl) ⟨_, rfl, (ptr b3 0), rfl, hM.outF (locNO locN0), hM.kept⟩)
noncomputable def F_impl_newEngine (p0 : GCipher) : Option ((Ref Gengine)) :=
  (F_impl_field_invert p0.Field p0.Mix).bind fun (r3 : UInt8 × (Vector (Vector UInt8 4) 4)) => (F_impl_Box_inverse p0.Box).bind fun (r8 : (Vector UInt8 256)) => (F_impl_Places_inverse p0.Places).bind fun (r10 : (Vector UInt8 16)) => (F_impl_newMixer p0.Field p0.Mix).bind fun (r12 : (Ref (Vector (Vector (Vector UInt8 256) 4) 4))) => (F_impl_newMixer p0.Field r3.2).bind fun (r15 : (Ref (Vector (Vector (Vector UInt8 256) 4) 4))) => some (⟨(⟨p0.Box, r8, p0.Places, r10, r12, r15, p0.Rounds⟩ : Gengine)⟩ : (Ref Gengine))
set_option maxRecDepth 20000 in
set_option maxHeartbeats 400000 in
theorem c_impl_newEngine (w0 : World) (p0 : GCipher) (r : (Ref Gengine)) (hF : F_impl_newEngine p0 = some r) :
    Calls Try.prog 89 [(Value.agg (Flat.enc p0).toArray)].toArray w0 (fun en w' => ∃ v, en = .returned v ∧ (∃ (y1 : Value), v = y1 ∧ Fr w0 w' [own NoB (r : (Ref Gengine)) [y1]] ∧ Kept (Old w0) w0 w')) := by
  refine c_enter (n := 36) Try.func89 rfl rfl (Nat.le_of_ble_eq_true rfl) rfl ?_
  intro a hE
  have hM := M.start w0
  unfold F_impl_newEngine at hF
  refine c_region ?_
  refine s_box (cs := cat [[(vI p0.Field)], Flat.enc p0.Box, Flat.enc p0.Mix, Flat.enc p0.Places, [(vI p0.Rounds)]]) hE hM goes_none (by decide) rfl rfl ?_; intro b1 w a hM hE
  refine s_assign hE goes_none (by decide) rfl ?_; intro a hE
  refine c_fin ?_
  refine c_region ?_
  refine s_fieldAddr hE goes_none (by decide) rfl (fd103_0) ?_; intro a hE
  refine s_load (v := (vI p0.Field)) hE goes_none (by decide) rfl ty2 rfl (At.cat (pre := []) (seg := [(vI p0.Field)]) (post := [Flat.enc p0.Box, Flat.enc p0.Mix, Flat.enc p0.Places, [(vI p0.Rounds)]]) (hM.rawAt (pre := [])) cl0) ?_; intro a hE
  refine s_fieldAddr hE goes_none (by decide) rfl (fd103_2) ?_; intro a hE
  refine s_loadA (cs := Flat.enc p0.Mix) hE goes_none (by decide) rfl ty100 rfl (At.cat (pre := [[(vI p0.Field)], Flat.enc p0.Box]) (seg := Flat.enc p0.Mix) (post := [Flat.enc p0.Places, [(vI p0.Rounds)]]) (hM.rawAt (pre := [])) (cl1 (n := 1) (m := 256) rfl (cl1 (n := 256) (m := 0) (Flat.len _) cl0))) (Flat.len _) ?_; intro a hE
  obtain ⟨r3, e4, hF⟩ := bind_some hF
  refine s_call (vs := [(vI p0.Field), (Value.agg (Flat.enc p0.Mix).toArray)]) hE goes_none (by decide) rfl cb107 (c_impl_field_invert _ p0.Field p0.Mix r3 e4) ?_
  rintro v w a ⟨rfl, hK⟩ hE
  have hM := hM.keep hK
  refine s_move hE goes_none (by decide) rfl ?_; intro a hE
  refine s_extract hE goes_none (by decide) rfl rfl ?_; intro a hE
  refine s_extract hE goes_none (by decide) rfl rfl ?_; intro a hE
  refine s_alloc hE hM goes_none (by decide) ty100 ?_; intro b5 w a hM hE
  refine s_assign hE goes_none (by decide) rfl ?_; intro a hE
  refine s_store (seg := Flat.enc r3.2) (cs' := Flat.enc r3.2) hE hM goes_none rfl rfl rfl ty100 (Flat.len _) (Nat.le_of_eq ((Nat.zero_add _).trans (Eq.trans (Flat.len _) (Eq.symm (Flat.len _))))) (Flat.cell _) (splice_all (Eq.trans (Flat.len _) (Eq.symm (Flat.len _)))) ?_; intro w a hM hE
  refine c_fin ?_
  refine wp_seq ?_
  obtain ⟨r8, e9, hF⟩ := bind_some hF
  obtain ⟨r10, e11, hF⟩ := bind_some hF
  obtain ⟨r12, e13, hF⟩ := bind_some hF
  obtain ⟨r15, e16, hF⟩ := bind_some hF
  refine c_draw2 (n := 36) (hd := [_, _, _, _, _, _, _, _, _, _, _, _, _, _, _, _, _, _, _, _, _]) (tl := [_, _, _]) (its := [raw b5 (Flat.enc r3.2), raw b1 (cat [[(vI p0.Field)], Flat.enc p0.Box, Flat.enc p0.Mix, Flat.enc p0.Places, [(vI p0.Rounds)]])]) hmix rfl rfl [13, 14, 15, 16, 17, 18, 19, 20, 21, 22, 23, 24, 25, 26, 27, 28, 29, 30, 31, 32, 33] (by decide) [(14, fun v => own NoB (r12 : (Ref (Vector (Vector (Vector UInt8 256) 4) 4))) [v]), (18, fun v => own NoB (r15 : (Ref (Vector (Vector (Vector UInt8 256) 4) 4))) [v])] rfl (fun j => ([fun v => v = (ptr b1 (0 + 1)), fun v => v = (Value.agg (Flat.enc p0.Box).toArray), fun v => v = (ptr b1 (0 + 1)), fun v => v = (Value.agg (Flat.enc p0.Box).toArray), fun v => v = (Value.agg (Flat.enc r8).toArray), fun v => v = (ptr b1 (0 + 273)), fun v => v = (Value.agg (Flat.enc p0.Places).toArray), fun v => v = (ptr b1 (0 + 273)), fun v => v = (Value.agg (Flat.enc p0.Places).toArray), fun v => v = (Value.agg (Flat.enc r10).toArray), fun v => v = (ptr b1 (0 + 0)), fun v => v = (vI p0.Field), fun v => v = (ptr b1 (0 + 257)), fun v => v = (Value.agg (Flat.enc p0.Mix).toArray), fun v => True, fun v => v = (ptr b1 (0 + 0)), fun v => v = (vI p0.Field), fun v => v = (Value.agg (Flat.enc r3.2).toArray), fun v => True, fun v => v = (ptr b1 (0 + 289)), fun v => v = (vI p0.Rounds)] : List (Value → Prop)).getD j (fun _ => True)) hE hM.drew (steps_of (steps_cons ?_ (steps_cons ?_ (steps_cons ?_ (steps_cons ?_ (steps_cons ?_ (steps_cons ?_ (steps_cons ?_ (steps_cons ?_ (steps_cons ?_ (steps_cons ?_ (steps_cons ?_ (steps_cons ?_ (steps_cons ?_ (steps_cons ?_ (steps_cons ?_ (steps_cons ?_ (steps_cons ?_ (steps_cons ?_ (steps_cons ?_ (steps_cons ?_ (steps_cons ?_ steps_nil)))))))))))))))))))))) ?_
  · intro a w ux7 D hE hM hD hp
    have hM0 := hM
    refine s_fieldAddr hE goes_none (by decide) rfl (fd103_1) ?_; intro a hE
    exact ⟨_, _, rfl, hE, rfl, hM0.optKeep rfl⟩
  · intro a w ux7 D hE hM hD hp
    have f0 : ux7 0 = (ptr b1 (0 + 1)) := (hp 0 _ rfl rfl).2
    have hM0 := hM
    have hM : M (Old w0) w0 w [raw b5 (Flat.enc r3.2), raw b1 (cat [[(vI p0.Field)], Flat.enc p0.Box, Flat.enc p0.Mix, Flat.enc p0.Places, [(vI p0.Rounds)]]), opt (D 14) (own NoB (r12 : (Ref (Vector (Vector (Vector UInt8 256) 4) 4))) [(ux7 14)]), opt (D 18) (own NoB (r15 : (Ref (Vector (Vector (Vector UInt8 256) 4) 4))) [(ux7 18)])] := hM
    refine s_loadA (cs := Flat.enc p0.Box) hE goes_none (by decide) (lk rfl f0) ty97 rfl (At.cat (pre := [[(vI p0.Field)]]) (seg := Flat.enc p0.Box) (post := [Flat.enc p0.Mix, Flat.enc p0.Places, [(vI p0.Rounds)]]) (hM.rawAt (pre := [_])) (cl1 (n := 1) (m := 0) rfl cl0)) (Flat.len _) ?_; intro a hE
    exact ⟨_, _, rfl, hE, rfl, hM0.optKeep rfl⟩
  · intro a w ux7 D hE hM hD hp
    have hM0 := hM
    refine s_fieldAddr hE goes_none (by decide) rfl (fd103_1) ?_; intro a hE
    exact ⟨_, _, rfl, hE, rfl, hM0.optKeep rfl⟩
  · intro a w ux7 D hE hM hD hp
    have f2 : ux7 2 = (ptr b1 (0 + 1)) := (hp 0 _ rfl rfl).2
    have hM0 := hM
    have hM : M (Old w0) w0 w [raw b5 (Flat.enc r3.2), raw b1 (cat [[(vI p0.Field)], Flat.enc p0.Box, Flat.enc p0.Mix, Flat.enc p0.Places, [(vI p0.Rounds)]]), opt (D 14) (own NoB (r12 : (Ref (Vector (Vector (Vector UInt8 256) 4) 4))) [(ux7 14)]), opt (D 18) (own NoB (r15 : (Ref (Vector (Vector (Vector UInt8 256) 4) 4))) [(ux7 18)])] := hM
    refine s_loadA (cs := Flat.enc p0.Box) hE goes_none (by decide) (lk rfl f2) ty97 rfl (At.cat (pre := [[(vI p0.Field)]]) (seg := Flat.enc p0.Box) (post := [Flat.enc p0.Mix, Flat.enc p0.Places, [(vI p0.Rounds)]]) (hM.rawAt (pre := [_])) (cl1 (n := 1) (m := 0) rfl cl0)) (Flat.len _) ?_; intro a hE
    exact ⟨_, _, rfl, hE, rfl, hM0.optKeep rfl⟩
  · intro a w ux7 D hE hM hD hp
    have f3 : ux7 3 = (Value.agg (Flat.enc p0.Box).toArray) := (hp 0 _ rfl rfl).2
    have hM0 := hM
    refine s_call (vs := [(Value.agg (Flat.enc p0.Box).toArray)]) hE goes_none (by decide) (evs_of (evsC (lk rfl f3) evsN)) cb108 (c_impl_Box_inverse _ p0.Box r8 e9) ?_
    rintro v w a ⟨rfl, hK⟩ hE
    exact ⟨_, _, rfl, hE, rfl, (hM0.keep hK).optKeep rfl⟩
  · intro a w ux7 D hE hM hD hp
    have hM0 := hM
    refine s_fieldAddr hE goes_none (by decide) rfl (fd103_3) ?_; intro a hE
    exact ⟨_, _, rfl, hE, rfl, hM0.optKeep rfl⟩
  · intro a w ux7 D hE hM hD hp
    have f5 : ux7 5 = (ptr b1 (0 + 273)) := (hp 0 _ rfl rfl).2
    have hM0 := hM
    have hM : M (Old w0) w0 w [raw b5 (Flat.enc r3.2), raw b1 (cat [[(vI p0.Field)], Flat.enc p0.Box, Flat.enc p0.Mix, Flat.enc p0.Places, [(vI p0.Rounds)]]), opt (D 14) (own NoB (r12 : (Ref (Vector (Vector (Vector UInt8 256) 4) 4))) [(ux7 14)]), opt (D 18) (own NoB (r15 : (Ref (Vector (Vector (Vector UInt8 256) 4) 4))) [(ux7 18)])] := hM
    refine s_loadA (cs := Flat.enc p0.Places) hE goes_none (by decide) (lk rfl f5) ty101 rfl (At.cat (pre := [[(vI p0.Field)], Flat.enc p0.Box, Flat.enc p0.Mix]) (seg := Flat.enc p0.Places) (post := [[(vI p0.Rounds)]]) (hM.rawAt (pre := [_])) (cl1 (n := 1) (m := 272) rfl (cl1 (n := 256) (m := 16) (Flat.len _) (cl1 (n := 16) (m := 0) (Flat.len _) cl0)))) (Flat.len _) ?_; intro a hE
    exact ⟨_, _, rfl, hE, rfl, hM0.optKeep rfl⟩
  · intro a w ux7 D hE hM hD hp
    have hM0 := hM
    refine s_fieldAddr hE goes_none (by decide) rfl (fd103_3) ?_; intro a hE
    exact ⟨_, _, rfl, hE, rfl, hM0.optKeep rfl⟩
  · intro a w ux7 D hE hM hD hp
    have f7 : ux7 7 = (ptr b1 (0 + 273)) := (hp 0 _ rfl rfl).2
    have hM0 := hM
    have hM : M (Old w0) w0 w [raw b5 (Flat.enc r3.2), raw b1 (cat [[(vI p0.Field)], Flat.enc p0.Box, Flat.enc p0.Mix, Flat.enc p0.Places, [(vI p0.Rounds)]]), opt (D 14) (own NoB (r12 : (Ref (Vector (Vector (Vector UInt8 256) 4) 4))) [(ux7 14)]), opt (D 18) (own NoB (r15 : (Ref (Vector (Vector (Vector UInt8 256) 4) 4))) [(ux7 18)])] := hM
    refine s_loadA (cs := Flat.enc p0.Places) hE goes_none (by decide) (lk rfl f7) ty101 rfl (At.cat (pre := [[(vI p0.Field)], Flat.enc p0.Box, Flat.enc p0.Mix]) (seg := Flat.enc p0.Places) (post := [[(vI p0.Rounds)]]) (hM.rawAt (pre := [_])) (cl1 (n := 1) (m := 272) rfl (cl1 (n := 256) (m := 16) (Flat.len _) (cl1 (n := 16) (m := 0) (Flat.len _) cl0)))) (Flat.len _) ?_; intro a hE
    exact ⟨_, _, rfl, hE, rfl, hM0.optKeep rfl⟩
  · intro a w ux7 D hE hM hD hp
    have f8 : ux7 8 = (Value.agg (Flat.enc p0.Places).toArray) := (hp 0 _ rfl rfl).2
    have hM0 := hM
    refine s_call (vs := [(Value.agg (Flat.enc p0.Places).toArray)]) hE goes_none (by decide) (evs_of (evsC (lk rfl f8) evsN)) cb109 (c_impl_Places_inverse _ p0.Places r10 e11) ?_
    rintro v w a ⟨rfl, hK⟩ hE
    exact ⟨_, _, rfl, hE, rfl, (hM0.keep hK).optKeep rfl⟩
  · intro a w ux7 D hE hM hD hp
    have hM0 := hM
    refine s_fieldAddr hE goes_none (by decide) rfl (fd103_0) ?_; intro a hE
    exact ⟨_, _, rfl, hE, rfl, hM0.optKeep rfl⟩
  · intro a w ux7 D hE hM hD hp
    have f10 : ux7 10 = (ptr b1 (0 + 0)) := (hp 0 _ rfl rfl).2
    have hM0 := hM
    have hM : M (Old w0) w0 w [raw b5 (Flat.enc r3.2), raw b1 (cat [[(vI p0.Field)], Flat.enc p0.Box, Flat.enc p0.Mix, Flat.enc p0.Places, [(vI p0.Rounds)]]), opt (D 14) (own NoB (r12 : (Ref (Vector (Vector (Vector UInt8 256) 4) 4))) [(ux7 14)]), opt (D 18) (own NoB (r15 : (Ref (Vector (Vector (Vector UInt8 256) 4) 4))) [(ux7 18)])] := hM
    refine s_load (v := (vI p0.Field)) hE goes_none (by decide) (lk rfl f10) ty2 rfl (At.cat (pre := []) (seg := [(vI p0.Field)]) (post := [Flat.enc p0.Box, Flat.enc p0.Mix, Flat.enc p0.Places, [(vI p0.Rounds)]]) (hM.rawAt (pre := [_])) cl0) ?_; intro a hE
    exact ⟨_, _, rfl, hE, rfl, hM0.optKeep rfl⟩
  · intro a w ux7 D hE hM hD hp
    have hM0 := hM
    refine s_fieldAddr hE goes_none (by decide) rfl (fd103_2) ?_; intro a hE
    exact ⟨_, _, rfl, hE, rfl, hM0.optKeep rfl⟩
  · intro a w ux7 D hE hM hD hp
    have f12 : ux7 12 = (ptr b1 (0 + 257)) := (hp 0 _ rfl rfl).2
    have hM0 := hM
    have hM : M (Old w0) w0 w [raw b5 (Flat.enc r3.2), raw b1 (cat [[(vI p0.Field)], Flat.enc p0.Box, Flat.enc p0.Mix, Flat.enc p0.Places, [(vI p0.Rounds)]]), opt (D 14) (own NoB (r12 : (Ref (Vector (Vector (Vector UInt8 256) 4) 4))) [(ux7 14)]), opt (D 18) (own NoB (r15 : (Ref (Vector (Vector (Vector UInt8 256) 4) 4))) [(ux7 18)])] := hM
    refine s_loadA (cs := Flat.enc p0.Mix) hE goes_none (by decide) (lk rfl f12) ty100 rfl (At.cat (pre := [[(vI p0.Field)], Flat.enc p0.Box]) (seg := Flat.enc p0.Mix) (post := [Flat.enc p0.Places, [(vI p0.Rounds)]]) (hM.rawAt (pre := [_])) (cl1 (n := 1) (m := 256) rfl (cl1 (n := 256) (m := 0) (Flat.len _) cl0))) (Flat.len _) ?_; intro a hE
    exact ⟨_, _, rfl, hE, rfl, hM0.optKeep rfl⟩
  · intro a w ux7 D hE hM hD hp
    have f11 : ux7 11 = (vI p0.Field) := (hp 0 _ rfl rfl).2
    have f13 : ux7 13 = (Value.agg (Flat.enc p0.Mix).toArray) := (hp 1 _ rfl rfl).2
    have hM0 := hM
    have hM : M (Old w0) w0 w [raw b5 (Flat.enc r3.2), raw b1 (cat [[(vI p0.Field)], Flat.enc p0.Box, Flat.enc p0.Mix, Flat.enc p0.Places, [(vI p0.Rounds)]]), opt (D 14) (own NoB (r12 : (Ref (Vector (Vector (Vector UInt8 256) 4) 4))) [(ux7 14)]), opt (D 18) (own NoB (r15 : (Ref (Vector (Vector (Vector UInt8 256) 4) 4))) [(ux7 18)])] := hM
    refine s_call (vs := [(vI p0.Field), (Value.agg (Flat.enc p0.Mix).toArray)]) hE goes_none (by decide) (evs_of (evsC (lk rfl f11) (evsC (lk rfl f13) evsN))) cb110 (c_impl_newMixer _ p0.Field p0.Mix r12 e13) ?_
    rintro _ w a ⟨_, rfl, hFr, hK⟩ hE
    have hM := hM0.add hK hFr
    exact ⟨_, _, rfl, hE, trivial, M.optFill (mk1 := []) (mk2 := [_]) (f := (fun v => own NoB (r12 : (Ref (Vector (Vector (Vector UInt8 256) 4) 4))) [v])) hM rfl hD⟩
  · intro a w ux7 D hE hM hD hp
    have hM0 := hM
    refine s_fieldAddr hE goes_none (by decide) rfl (fd103_0) ?_; intro a hE
    exact ⟨_, _, rfl, hE, rfl, hM0.optKeep rfl⟩
  · intro a w ux7 D hE hM hD hp
    have f15 : ux7 15 = (ptr b1 (0 + 0)) := (hp 0 _ rfl rfl).2
    have hM0 := hM
    have hM : M (Old w0) w0 w [raw b5 (Flat.enc r3.2), raw b1 (cat [[(vI p0.Field)], Flat.enc p0.Box, Flat.enc p0.Mix, Flat.enc p0.Places, [(vI p0.Rounds)]]), opt (D 14) (own NoB (r12 : (Ref (Vector (Vector (Vector UInt8 256) 4) 4))) [(ux7 14)]), opt (D 18) (own NoB (r15 : (Ref (Vector (Vector (Vector UInt8 256) 4) 4))) [(ux7 18)])] := hM
    refine s_load (v := (vI p0.Field)) hE goes_none (by decide) (lk rfl f15) ty2 rfl (At.cat (pre := []) (seg := [(vI p0.Field)]) (post := [Flat.enc p0.Box, Flat.enc p0.Mix, Flat.enc p0.Places, [(vI p0.Rounds)]]) (hM.rawAt (pre := [_])) cl0) ?_; intro a hE
    exact ⟨_, _, rfl, hE, rfl, hM0.optKeep rfl⟩
  · intro a w ux7 D hE hM hD hp
    have hM0 := hM
    have hM : M (Old w0) w0 w [raw b5 (Flat.enc r3.2), raw b1 (cat [[(vI p0.Field)], Flat.enc p0.Box, Flat.enc p0.Mix, Flat.enc p0.Places, [(vI p0.Rounds)]]), opt (D 14) (own NoB (r12 : (Ref (Vector (Vector (Vector UInt8 256) 4) 4))) [(ux7 14)]), opt (D 18) (own NoB (r15 : (Ref (Vector (Vector (Vector UInt8 256) 4) 4))) [(ux7 18)])] := hM
    refine s_loadA (cs := Flat.enc r3.2) hE goes_none (by decide) rfl ty100 rfl (hM.rawAt (pre := [])) (Flat.len _) ?_; intro a hE
    exact ⟨_, _, rfl, hE, rfl, hM0.optKeep rfl⟩
  · intro a w ux7 D hE hM hD hp
    have f16 : ux7 16 = (vI p0.Field) := (hp 0 _ rfl rfl).2
    have f17 : ux7 17 = (Value.agg (Flat.enc r3.2).toArray) := (hp 1 _ rfl rfl).2
    have hM0 := hM
    have hM : M (Old w0) w0 w [raw b5 (Flat.enc r3.2), raw b1 (cat [[(vI p0.Field)], Flat.enc p0.Box, Flat.enc p0.Mix, Flat.enc p0.Places, [(vI p0.Rounds)]]), opt (D 14) (own NoB (r12 : (Ref (Vector (Vector (Vector UInt8 256) 4) 4))) [(ux7 14)]), opt (D 18) (own NoB (r15 : (Ref (Vector (Vector (Vector UInt8 256) 4) 4))) [(ux7 18)])] := hM
    refine s_call (vs := [(vI p0.Field), (Value.agg (Flat.enc r3.2).toArray)]) hE goes_none (by decide) (evs_of (evsC (lk rfl f16) (evsC (lk rfl f17) evsN))) cb110 (c_impl_newMixer _ p0.Field r3.2 r15 e16) ?_
    rintro _ w a ⟨_, rfl, hFr, hK⟩ hE
    have hM := hM0.add hK hFr
    exact ⟨_, _, rfl, hE, trivial, M.optFill (mk1 := [_]) (mk2 := []) (f := (fun v => own NoB (r15 : (Ref (Vector (Vector (Vector UInt8 256) 4) 4))) [v])) hM rfl hD⟩
  · intro a w ux7 D hE hM hD hp
    have hM0 := hM
    refine s_fieldAddr hE goes_none (by decide) rfl (fd103_4) ?_; intro a hE
    exact ⟨_, _, rfl, hE, rfl, hM0.optKeep rfl⟩
  · intro a w ux7 D hE hM hD hp
    have f19 : ux7 19 = (ptr b1 (0 + 289)) := (hp 0 _ rfl rfl).2
    have hM0 := hM
    have hM : M (Old w0) w0 w [raw b5 (Flat.enc r3.2), raw b1 (cat [[(vI p0.Field)], Flat.enc p0.Box, Flat.enc p0.Mix, Flat.enc p0.Places, [(vI p0.Rounds)]]), opt (D 14) (own NoB (r12 : (Ref (Vector (Vector (Vector UInt8 256) 4) 4))) [(ux7 14)]), opt (D 18) (own NoB (r15 : (Ref (Vector (Vector (Vector UInt8 256) 4) 4))) [(ux7 18)])] := hM
    refine s_load (v := (vI p0.Rounds)) hE goes_none (by decide) (lk rfl f19) ty2 rfl (At.cat (pre := [[(vI p0.Field)], Flat.enc p0.Box, Flat.enc p0.Mix, Flat.enc p0.Places]) (seg := [(vI p0.Rounds)]) (post := []) (hM.rawAt (pre := [_])) (cl1 (n := 1) (m := 288) rfl (cl1 (n := 256) (m := 32) (Flat.len _) (cl1 (n := 16) (m := 16) (Flat.len _) (cl1 (n := 16) (m := 0) (Flat.len _) cl0))))) ?_; intro a hE
    exact ⟨_, _, rfl, hE, rfl, hM0.optKeep rfl⟩
  · intro a w ux7 hE hM hg
    have f0 : ux7 0 = (ptr b1 (0 + 1)) := hg 0 (by decide)
    have f1 : ux7 1 = (Value.agg (Flat.enc p0.Box).toArray) := hg 1 (by decide)
    have f2 : ux7 2 = (ptr b1 (0 + 1)) := hg 2 (by decide)
    have f3 : ux7 3 = (Value.agg (Flat.enc p0.Box).toArray) := hg 3 (by decide)
    have f4 : ux7 4 = (Value.agg (Flat.enc r8).toArray) := hg 4 (by decide)
    have f5 : ux7 5 = (ptr b1 (0 + 273)) := hg 5 (by decide)
    have f6 : ux7 6 = (Value.agg (Flat.enc p0.Places).toArray) := hg 6 (by decide)
    have f7 : ux7 7 = (ptr b1 (0 + 273)) := hg 7 (by decide)
    have f8 : ux7 8 = (Value.agg (Flat.enc p0.Places).toArray) := hg 8 (by decide)
    have f9 : ux7 9 = (Value.agg (Flat.enc r10).toArray) := hg 9 (by decide)
    have f10 : ux7 10 = (ptr b1 (0 + 0)) := hg 10 (by decide)
    have f11 : ux7 11 = (vI p0.Field) := hg 11 (by decide)
    have f12 : ux7 12 = (ptr b1 (0 + 257)) := hg 12 (by decide)
    have f13 : ux7 13 = (Value.agg (Flat.enc p0.Mix).toArray) := hg 13 (by decide)
    have f15 : ux7 15 = (ptr b1 (0 + 0)) := hg 15 (by decide)
    have f16 : ux7 16 = (vI p0.Field) := hg 16 (by decide)
    have f17 : ux7 17 = (Value.agg (Flat.enc r3.2).toArray) := hg 17 (by decide)
    have f19 : ux7 19 = (ptr b1 (0 + 289)) := hg 19 (by decide)
    have f20 : ux7 20 = (vI p0.Rounds) := hg 20 (by decide)
    have hM : M (Old w0) w0 w [raw b5 (Flat.enc r3.2), raw b1 (cat [[(vI p0.Field)], Flat.enc p0.Box, Flat.enc p0.Mix, Flat.enc p0.Places, [(vI p0.Rounds)]]), own NoB (r12 : (Ref (Vector (Vector (Vector UInt8 256) 4) 4))) [(ux7 14)], own NoB (r15 : (Ref (Vector (Vector (Vector UInt8 256) 4) 4))) [(ux7 18)]] := hM
    have hE := hE.sub (e' := [(13, (ptr b1 (0 + 1))), (14, (Value.agg (Flat.enc p0.Box).toArray)), (15, (ptr b1 (0 + 1))), (16, (Value.agg (Flat.enc p0.Box).toArray)), (17, (Value.agg (Flat.enc r8).toArray)), (18, (ptr b1 (0 + 273))), (19, (Value.agg (Flat.enc p0.Places).toArray)), (20, (ptr b1 (0 + 273))), (21, (Value.agg (Flat.enc p0.Places).toArray)), (22, (Value.agg (Flat.enc r10).toArray)), (23, (ptr b1 (0 + 0))), (24, (vI p0.Field)), (25, (ptr b1 (0 + 257))), (26, (Value.agg (Flat.enc p0.Mix).toArray)), (27, (ux7 14)), (28, (ptr b1 (0 + 0))), (29, (vI p0.Field)), (30, (Value.agg (Flat.enc r3.2).toArray)), (31, (ux7 18)), (32, (ptr b1 (0 + 289))), (33, (vI p0.Rounds)), (0, (Value.agg (Flat.enc p0).toArray)), (1, (ptr b1 0)), (2, (Value.pointer none)), (3, (vB r3.1)), (4, (ptr b5 0)), (5, (Value.tuple [(vB r3.1), (Value.agg (Flat.enc r3.2).toArray)].toArray)), (6, (ptr b1 (0 + 0))), (7, (vI p0.Field)), (8, (ptr b1 (0 + 257))), (9, (Value.agg (Flat.enc p0.Mix).toArray)), (10, (Value.tuple [(vB r3.1), (Value.agg (Flat.enc r3.2).toArray)].toArray)), (11, (vB r3.1)), (12, (Value.agg (Flat.enc r3.2).toArray))]) ⟨lk rfl f0, lk rfl f1, lk rfl f2, lk rfl f3, lk rfl f4, lk rfl f5, lk rfl f6, lk rfl f7, lk rfl f8, lk rfl f9, lk rfl f10, lk rfl f11, lk rfl f12, lk rfl f13, rfl, lk rfl f15, lk rfl f16, lk rfl f17, rfl, lk rfl f19, lk rfl f20, rfl, rfl, rfl, rfl, rfl, rfl, rfl, rfl, rfl, rfl, rfl, rfl, rfl, trivial⟩
    refine s_buildStr (parts := [(0, .tmp 14), (1, .tmp 17), (2, .tmp 19), (3, .tmp 22), (4, .tmp 27), (5, .tmp 31), (6, .tmp 33)]) (vs := [(0, (Value.agg (Flat.enc p0.Box).toArray)), (1, (Value.agg (Flat.enc r8).toArray)), (2, (Value.agg (Flat.enc p0.Places).toArray)), (3, (Value.agg (Flat.enc r10).toArray)), (4, (ux7 14)), (5, (ux7 18)), (6, (vI p0.Rounds))]) (cs := cat [Flat.enc p0.Box, Flat.enc r8, Flat.enc p0.Places, Flat.enc r10, [(ux7 14)], [(ux7 18)], [(vI p0.Rounds)]]) hE goes_none (by decide) rfl rfl ty152 pl152 (fill_step (pre := []) (seg := Flat.enc (Vector.replicate 256 (0 : UInt8))) (seg' := Flat.enc p0.Box) (post := [Flat.enc (Vector.replicate 256 (0 : UInt8)), Flat.enc (Vector.replicate 16 (0 : UInt8)), Flat.enc (Vector.replicate 16 (0 : UInt8)), [(Value.pointer none)], [(Value.pointer none)], [(vI 0)]]) rfl cl0 (Flat.len _) (Flat.len _) rfl (fill_step (pre := [Flat.enc p0.Box]) (seg := Flat.enc (Vector.replicate 256 (0 : UInt8))) (seg' := Flat.enc r8) (post := [Flat.enc (Vector.replicate 16 (0 : UInt8)), Flat.enc (Vector.replicate 16 (0 : UInt8)), [(Value.pointer none)], [(Value.pointer none)], [(vI 0)]]) rfl (cl1 (n := 256) (m := 0) (Flat.len _) cl0) (Flat.len _) (Flat.len _) rfl (fill_step (pre := [Flat.enc p0.Box, Flat.enc r8]) (seg := Flat.enc (Vector.replicate 16 (0 : UInt8))) (seg' := Flat.enc p0.Places) (post := [Flat.enc (Vector.replicate 16 (0 : UInt8)), [(Value.pointer none)], [(Value.pointer none)], [(vI 0)]]) rfl (cl1 (n := 256) (m := 256) (Flat.len _) (cl1 (n := 256) (m := 0) (Flat.len _) cl0)) (Flat.len _) (Flat.len _) rfl (fill_step (pre := [Flat.enc p0.Box, Flat.enc r8, Flat.enc p0.Places]) (seg := Flat.enc (Vector.replicate 16 (0 : UInt8))) (seg' := Flat.enc r10) (post := [[(Value.pointer none)], [(Value.pointer none)], [(vI 0)]]) rfl (cl1 (n := 256) (m := 272) (Flat.len _) (cl1 (n := 256) (m := 16) (Flat.len _) (cl1 (n := 16) (m := 0) (Flat.len _) cl0))) (Flat.len _) (Flat.len _) rfl (fill_step (pre := [Flat.enc p0.Box, Flat.enc r8, Flat.enc p0.Places, Flat.enc r10]) (seg := [(Value.pointer none)]) (seg' := [(ux7 14)]) (post := [[(Value.pointer none)], [(vI 0)]]) rfl (cl1 (n := 256) (m := 288) (Flat.len _) (cl1 (n := 256) (m := 32) (Flat.len _) (cl1 (n := 16) (m := 16) (Flat.len _) (cl1 (n := 16) (m := 0) (Flat.len _) cl0)))) rfl rfl (ref_cells (hM.ro (pre := [_, _]) noB)) (fill_step (pre := [Flat.enc p0.Box, Flat.enc r8, Flat.enc p0.Places, Flat.enc r10, [(ux7 14)]]) (seg := [(Value.pointer none)]) (seg' := [(ux7 18)]) (post := [[(vI 0)]]) rfl (cl1 (n := 256) (m := 289) (Flat.len _) (cl1 (n := 256) (m := 33) (Flat.len _) (cl1 (n := 16) (m := 17) (Flat.len _) (cl1 (n := 16) (m := 1) (Flat.len _) (cl1 (n := 1) (m := 0) rfl cl0))))) rfl rfl (ref_cells (hM.ro (pre := [_, _, _]) noB)) (fill_step (pre := [Flat.enc p0.Box, Flat.enc r8, Flat.enc p0.Places, Flat.enc r10, [(ux7 14)], [(ux7 18)]]) (seg := [(vI 0)]) (seg' := [(vI p0.Rounds)]) (post := []) rfl (cl1 (n := 256) (m := 290) (Flat.len _) (cl1 (n := 256) (m := 34) (Flat.len _) (cl1 (n := 16) (m := 18) (Flat.len _) (cl1 (n := 16) (m := 2) (Flat.len _) (cl1 (n := 1) (m := 1) rfl (cl1 (n := 1) (m := 0) rfl cl0)))))) rfl rfl rfl fill_nil))))))) ?_; intro a hE
    refine s_box (cs := cat [Flat.enc p0.Box, Flat.enc r8, Flat.enc p0.Places, Flat.enc r10, [(ux7 14)], [(ux7 18)], [(vI p0.Rounds)]]) hE hM goes_none (by decide) rfl rfl ?_; intro b18 w a hM hE
    refine s_assign hE goes_none (by decide) rfl ?_; intro a hE
    refine c_fin0 ?_
    refine c_nx ?_
    have hM := hM.pull (pre := [_, _, _, _])
    have hM := hM.pull (pre := [_, _, _, _])
    have hM := hM.pack2 (it := own NoB (⟨p0.Box, r8, p0.Places, r10, r12, r15, p0.Rounds⟩ : Gengine) (cat [Flat.enc p0.Box, Flat.enc r8, Flat.enc p0.Places, Flat.enc r10, [(ux7 14)], [(ux7 18)], [(vI p0.Rounds)]])) (own_loc noB) (fun f0 f1 q0 q1 => (pk_Gengine q0 q1 (by simp)))
    have hM := hM.pull (pre := [_])
    have hM := hM.pull (pre := [_])
    have hM := hM.pull (pre := [_])
    have hM := M.toRef hM noB
    have hr := Option.some.inj hF
    subst hr
    have hM := M.fst (l := [_]) hM
    exact wp_ret (k_ret1 hE rfl (res_tmp hE rfl) ⟨_, rfl, (ptr b18 0), rfl, hM.outF (locNO locN0), hM.kept⟩)
noncomputable def F_impl_house (p0 : Int) : Option ((Ref Gengine)) :=
  (F_impl_houseCipher p0).bind fun (r1 : GCipher) => (F_impl_newEngine r1).bind fun (r3 : (Ref Gengine)) => some r3
set_option maxRecDepth 20000 in
set_option maxHeartbeats 400000 in
theorem c_impl_house (w0 : World) (p0 : Int) (r : (Ref Gengine)) (hF : F_impl_house p0 = some r) :
    Calls Try.prog 69 [(vI p0)].toArray w0 (fun en w' => ∃ v, en = .returned v ∧ (∃ (y1 : Value), v = y1 ∧ Fr w0 w' [own NoB (r : (Ref Gengine)) [y1]] ∧ Kept (Old w0) w0 w')) := by
  refine c_enter (n := 6) Try.func69 rfl rfl (Nat.le_of_ble_eq_true rfl) rfl ?_
  intro a hE
  have hM := M.start w0
  unfold F_impl_house at hF
  refine c_region ?_
  refine s_assign hE goes_none (by decide) rfl ?_; intro a hE
  refine c_fin ?_
  refine c_region ?_
  refine s_move hE goes_none (by decide) rfl ?_; intro a hE
  obtain ⟨r1, e2, hF⟩ := bind_some hF
  refine s_call (vs := [(vI p0)]) hE goes_none (by decide) rfl cb90 (c_impl_houseCipher _ p0 r1 e2) ?_
  rintro v w a ⟨rfl, hK⟩ hE
  have hM := hM.keep hK
  obtain ⟨r3, e4, hF⟩ := bind_some hF
  refine s_call (vs := [(Value.agg (Flat.enc r1).toArray)]) hE goes_none (by decide) rfl cb89 (c_impl_newEngine _ r1 r3 e4) ?_
  rintro u5 w a ⟨_, rfl, hFr, hK⟩ hE
  have hM := hM.add hK hFr
  refine s_assign hE goes_none (by decide) rfl ?_; intro a hE
  refine c_fin ?_
  have hr := Option.some.inj hF
  subst hr
  exact wp_ret (k_ret1 hE rfl (res_tmp hE rfl) ⟨_, rfl, u5, rfl, hM.outF (locNO locN0), hM.kept⟩)
noncomputable def F_impl_vaultEngine : Option ((Ref Gengine)) :=
  (F_impl_house 4).bind fun (r1 : (Ref Gengine)) => some r1
set_option maxRecDepth 20000 in
set_option maxHeartbeats 400000 in
theorem c_impl_vaultEngine (w0 : World)  (r : (Ref Gengine)) (hF : F_impl_vaultEngine  = some r) :
    Calls Try.prog 34 [].toArray w0 (fun en w' => ∃ v, en = .returned v ∧ (∃ (y1 : Value), v = y1 ∧ Fr w0 w' [own NoB (r : (Ref Gengine)) [y1]] ∧ Kept (Old w0) w0 w')) := by
  refine c_enter (n := 2) Try.func34 rfl rfl (Nat.le_of_ble_eq_true rfl) rfl ?_
  intro a hE
  have hM := M.start w0
  unfold F_impl_vaultEngine at hF
  refine c_region ?_
  refine s_assign hE goes_none (by decide) rfl ?_; intro a hE
  refine c_fin ?_
  refine c_region ?_
  obtain ⟨r1, e2, hF⟩ := bind_some hF
  refine s_call (vs := [(vI 4)]) hE goes_none (by decide) rfl cb69 (c_impl_house _ 4 r1 e2) ?_
  rintro u3 w a ⟨_, rfl, hFr, hK⟩ hE
  have hM := hM.add hK hFr
  refine s_assign hE goes_none (by decide) rfl ?_; intro a hE
  refine c_fin ?_
  have hr := Option.some.inj hF
  subst hr
  exact wp_ret (k_ret1 hE rfl (res_tmp hE rfl) ⟨_, rfl, u3, rfl, hM.outF (locNO locN0), hM.kept⟩)
noncomputable def L0_impl_StartOfDigest (s8 : (Vector UInt8 32) × Int) : Option (Fl ((Vector UInt8 32) × Int) (Vector UInt8 32)) :=
  if (decide (s8.2 < 32)) = true then ((vidx s8.1 s8.2).bind fun (x14 : UInt8) => some (Fl.nx ((s8.1.setIfInBounds (s8.2).toNat (byteI (wr (17 * s8.2)))), wr (s8.2 + 1)))) else (some (Fl.ex s8.1))
noncomputable def F_impl_StartOfDigest : Option ((Vector UInt8 32)) :=
  (iter (L0_impl_StartOfDigest) ((Vector.replicate 32 (0 : UInt8)), 0) : Option ((Vector UInt8 32))).bind fun (j5 : (Vector UInt8 32)) => some j5
set_option maxRecDepth 20000 in
set_option maxHeartbeats 400000 in
theorem c_impl_StartOfDigest (w0 : World)  (r : (Vector UInt8 32)) (hF : F_impl_StartOfDigest  = some r) :
    Calls Try.prog 91 [].toArray w0 (fun en w' => ∃ v, en = .returned v ∧ (v = (Value.agg (Flat.enc r).toArray) ∧ Kept (Old w0) w0 w')) := by
  refine c_enter (n := 14) Try.func91 rfl rfl (Nat.le_of_ble_eq_true rfl) rfl ?_
  intro a hE
  have hM := M.start w0
  unfold F_impl_StartOfDigest at hF
  refine c_region ?_
  refine s_alloc hE hM goes_none (by decide) ty25 ?_; intro b1 w a hM hE
  refine c_fin ?_
  refine c_region ?_
  refine s_buildA (parts := []) (vs := []) (cs := Flat.enc (Vector.replicate 32 (0 : UInt8))) hE goes_none (by decide) rfl rfl ty25 rfl ty5 filla_nil ?_; intro a hE
  refine s_alloc hE hM goes_none (by decide) ty25 ?_; intro b3 w a hM hE
  refine s_store (seg := Flat.enc (Vector.replicate 32 (0 : UInt8))) (cs' := Flat.enc (Vector.replicate 32 (0 : UInt8))) hE hM goes_none rfl rfl rfl ty25 (Flat.len _) (Nat.le_of_eq ((Nat.zero_add _).trans (Eq.trans (Flat.len _) (Eq.symm (Flat.len _))))) (Flat.cell _) (splice_all (Eq.trans (Flat.len _) (Eq.symm (Flat.len _)))) ?_; intro w a hM hE
  refine c_fin ?_
  refine wp_seq ?_
  refine c_region ?_
  refine s_move hE goes_none (by decide) rfl ?_; intro a hE
  refine c_fin ?_
  obtain ⟨j5, hl6, hF7⟩ := bind_some hF
  refine c_cut (fun a w => Env 14 a [(0, (ptr b1 0)), (1, (ptr b3 0))] ∧ M (Old w0) w0 w [raw b3 (Flat.enc j5), raw b1 (Flat.enc (Vector.replicate 32 (0 : UInt8)))]) ?_ ?_
  · skip
    refine wp_block ?_
    refine c_loop (fun (s8 : (Vector UInt8 32) × Int) a w => Env 14 a [(0, (ptr b1 0)), (1, (ptr b3 0)), (4, (vI s8.2))] ∧ M (Old w0) w0 w [raw b3 (Flat.enc s8.1), raw b1 (Flat.enc (Vector.replicate 32 (0 : UInt8)))]) hl6 ⟨hE.sub ⟨rfl, rfl, rfl, trivial⟩, hM⟩ ?_
    rintro s8 a w ⟨hE, hM⟩ o11 hs9 hx10
    unfold L0_impl_StartOfDigest at hs9
    refine c_region ?_
    refine s_int hE goes_none (by decide) rfl rfl rfl ?_; intro a hE
    refine c_fin ?_
    refine wp_seq ?_
    refine c_cond hE rfl ?_ ?_
    · intro hb12
      have hs9 := ite_t hs9 hb12
      refine wp_skip ?_
      refine c_nx ?_
      refine wp_seq ?_
      refine wp_block ?_
      refine c_region ?_
      refine s_move hE goes_none (by decide) rfl ?_; intro a hE
      refine s_assign hE goes_none (by decide) rfl ?_; intro a hE
      refine c_fin ?_
      refine wp_region_lit ?_
      refine s_move hE goes_none (by decide) rfl ?_; intro a hE
      refine s_move hE goes_none (by decide) rfl ?_; intro a hE
      refine s_int hE goes_none (by decide) rfl rfl rfl ?_; intro a hE
      refine s_conv hE goes_none (by decide) rfl Try.underlying3 Try.underlying5 ?_; intro a hE
      rw [byteI_val] at hE
      obtain ⟨x14, e15, hs9⟩ := bind_some hs9
      have hi13 := vidx_some e15
      refine s_indexA hE goes_none (by decide) rfl rfl Try.underlying25 ty5 hi13.1 ?_; intro a hE
      refine s_store (seg := [(vB (byteI (wr (17 * s8.2))))]) (cs' := Flat.enc (s8.1.setIfInBounds (s8.2).toNat (byteI (wr (17 * s8.2))))) hE hM goes_none rfl rfl rfl ty5 rfl (fit_vec (v := s8.1) (x := byteI (wr (17 * s8.2))) hi13.1) (Flat.cell (byteI (wr (17 * s8.2)) : UInt8)) (splice_vec0 (v := s8.1) (x := byteI (wr (17 * s8.2))) hi13.1) ?_; intro w a hM hE
      refine c_fin0 ?_
      refine c_nb ?_
      refine c_nx ?_
      refine wp_region_lit ?_
      refine s_int hE goes_none (by decide) rfl rfl rfl ?_; intro a hE
      refine s_move hE goes_none (by decide) rfl ?_; intro a hE
      refine c_fin0 ?_
      refine c_mid ?_
      exact ⟨_, (Option.some.inj hs9).symm, hE.sub ⟨rfl, rfl, rfl, trivial⟩, hM⟩
    · intro hb12
      have hs9 := ite_f hs9 hb12
      refine wp_exit (e_then (e_then (e_eq ?_)))
      have ht16 := hx10 _ (Option.some.inj hs9).symm
      subst ht16
      refine c_mid ?_
      exact ⟨hE.sub ⟨rfl, rfl, trivial⟩, hM⟩
  · skip
    rintro a w ⟨hE, hM⟩
    refine c_nx ?_
    refine c_region ?_
    refine s_loadA (cs := Flat.enc j5) hE goes_none (by decide) rfl ty25 rfl (hM.rawAt (pre := [])) (Flat.len _) ?_; intro a hE
    have hM := hM.pull (pre := [_])
    refine s_store (seg := Flat.enc j5) (cs' := Flat.enc j5) hE hM goes_none rfl rfl rfl ty25 (Flat.len _) (Nat.le_of_eq ((Nat.zero_add _).trans (Eq.trans (Flat.len _) (Eq.symm (Flat.len _))))) (Flat.cell _) (splice_all (Eq.trans (Flat.len _) (Eq.symm (Flat.len _)))) ?_; intro w a hM hE
    refine c_fin ?_
    have hr := Option.some.inj hF7
    subst hr
    have hq17 : ResIs Try.prog _ _ (.cell 0 25) _ := res_cell hE rfl ty25 rfl (hM.rawAt (pre := [])) (Flat.len _) rfl
    have hM := M.fst (l := []) hM
    exact wp_ret (k_ret1 hE rfl hq17 ⟨_, rfl, rfl, hM.kept⟩)
noncomputable def F_slices_Grow_byte_byte_nil (p1 : Int) : Option ((List UInt8)) :=
  (if (decide (p1 < 0)) = true then (none) else (some ()) : Option (Unit)).bind fun (j1 : Unit) => (if (decide ((wr (p1 - (wr (0 - 0)))) > 0)) = true then ((mkS 1 (0 : UInt8) (wr (p1 - (wr (0 - 0))))).bind fun (l14 : (List UInt8)) => (slc l14 (0 : Int) (0 : Int)).bind fun (l16 : (List UInt8)) => some l16) else (some ([])) : Option ((List UInt8))).bind fun (j6 : (List UInt8)) => some j6
set_option maxRecDepth 20000 in
set_option maxHeartbeats 400000 in
theorem c_slices_Grow_byte_byte_nil (w0 : World) (p1 : Int) (r : (List UInt8)) (hF : F_slices_Grow_byte_byte_nil p1 = some r) :
    Calls Try.prog 113 [(Value.slice none 0 0), (vI p1)].toArray w0 (fun en w' => ∃ v, en = .returned v ∧ (∃ (y1 : Value), v = y1 ∧ Fr w0 w' [osl NoB (r : List UInt8) y1] ∧ Kept (Old w0) w0 w')) := by
  refine c_enter (n := 27) Try.func113 rfl rfl (Nat.le_of_ble_eq_true rfl) rfl ?_
  intro a hE
  have hM := M.start w0
  unfold F_slices_Grow_byte_byte_nil at hF
  refine c_region ?_
  refine s_assign hE goes_none (by decide) rfl ?_; intro a hE
  refine c_fin ?_
  obtain ⟨j1, hl2, hF3⟩ := bind_some hF
  refine c_join (fun a w => Env 27 a [(0, (Value.slice none 0 0)), (1, (vI p1))] ∧ M (Old w0) w0 w []) ?_ ?_
  · skip
    refine c_region ?_
    refine s_move hE goes_none (by decide) rfl ?_; intro a hE
    refine s_int hE goes_none (by decide) rfl rfl rfl ?_; intro a hE
    refine c_fin ?_
    refine c_cond hE rfl ?_ ?_
    · intro hb4
      have hl2 := ite_t hl2 hb4
      cases hl2
    · intro hb4
      have hl2 := ite_f hl2 hb4
      refine wp_skip ?_
      have ht5 := Option.some.inj hl2
      subst ht5
      refine c_mid ?_
      exact ⟨hE.sub ⟨rfl, rfl, trivial⟩, hM⟩
  · skip
    rintro a w ⟨hE, hM⟩
    obtain ⟨j6, hl7, hF8⟩ := bind_some hF3
    refine c_join (fun a w => ∃ (u9 : Value), Env 27 a [(0, u9)] ∧ M (Old w0) w0 w [osl NoB (j6 : List UInt8) u9]) ?_ ?_
    · skip
      refine c_region ?_
      refine s_move hE goes_none (by decide) rfl ?_; intro a hE
      refine s_move hE goes_none (by decide) rfl ?_; intro a hE
      refine s_capNil hE goes_none (by decide) rfl Try.underlying50 ?_; intro a hE
      refine s_move hE goes_none (by decide) rfl ?_; intro a hE
      refine s_lenNil hE goes_none (by decide) rfl Try.underlying50 ?_; intro a hE
      refine s_int hE goes_none (by decide) rfl rfl rfl ?_; intro a hE
      refine s_int hE goes_none (by decide) rfl rfl rfl ?_; intro a hE
      refine s_assign hE goes_none (by decide) rfl ?_; intro a hE
      refine c_fin ?_
      refine c_region ?_
      refine s_move hE goes_none (by decide) rfl ?_; intro a hE
      refine s_int hE goes_none (by decide) rfl rfl rfl ?_; intro a hE
      refine c_fin ?_
      refine c_cond hE rfl ?_ ?_
      · intro hb11
        have hl7 := ite_t hl7 hb11
        refine wp_region_lit ?_
        refine s_move hE goes_none (by decide) rfl ?_; intro a hE
        refine s_move hE goes_none (by decide) rfl ?_; intro a hE
        refine s_capNil hE goes_none (by decide) rfl Try.underlying50 ?_; intro a hE
        refine s_sliceNil hE goes_none (by decide) rfl rfl Try.underlying50 ty5 ?_; intro a hE
        refine s_move hE goes_none (by decide) rfl ?_; intro a hE
        obtain ⟨l14, e15, hl7⟩ := bind_some hl7
        refine s_appendZ hE hM goes_none (by decide) rfl rfl Try.underlying50 Try.underlying3 ty5 rfl (by decide) (by decide) (fun _ => sat_flat.2 ⟨rfl, rfl⟩) e15 ?_; intro u12 w a hM hE
        refine s_move hE goes_none (by decide) rfl ?_; intro a hE
        refine s_lenNil hE goes_none (by decide) rfl Try.underlying50 ?_; intro a hE
        obtain ⟨l16, e17, hl7⟩ := bind_some hl7
        refine s_slice hE goes_none (by decide) rfl rfl rfl rfl rfl Try.underlying50 ty5 (hM.sl (pre := []) noB) e17 ?_; intro a hE
        have hM := hM.cut noB e17
        refine s_assign hE goes_none (by decide) rfl ?_; intro a hE
        refine c_fin0 ?_
        have ht19 := Option.some.inj hl7
        subst ht19
        refine c_mid ?_
        exact ⟨(sliceV u12 ((0 : Int)).toNat ((0 : Int)).toNat 1), hE.sub ⟨rfl, trivial⟩, hM⟩
      · intro hb11
        have hl7 := ite_f hl7 hb11
        refine wp_skip ?_
        have ht20 := Option.some.inj hl7
        subst ht20
        refine c_mid ?_
        have hM := M.nilS (α := UInt8) NoB noB hM
        exact ⟨(Value.slice none 0 0), hE.sub ⟨rfl, trivial⟩, hM⟩
    · skip
      rintro a w ⟨u9, hE, hM⟩
      refine c_region ?_
      refine s_move hE goes_none (by decide) rfl ?_; intro a hE
      refine s_assign hE goes_none (by decide) rfl ?_; intro a hE
      refine c_fin ?_
      have hr := Option.some.inj hF8
      subst hr
      exact wp_ret (k_ret1 hE rfl (res_tmp hE rfl) ⟨_, rfl, u9, rfl, hM.outF (locN1 locN0), hM.kept⟩)
noncomputable def L0_slices_Concat_byte_byte (p0 : (List (List UInt8))) (s4 : Int × Int) : Option (Fl (Int × Int) Int) :=
  if (decide (s4.1 < (p0.length : Int))) = true then (((idx p0 s4.1).bind fun (x12 : (List UInt8)) => (if (decide ((wr (s4.2 + (x12.length : Int))) < 0)) = true then (none) else (some ()) : Option (Unit)).bind fun (j20 : Unit) => some (wr (s4.2 + (x12.length : Int))) : Option (Int)).bind fun (j9 : Int) => some (Fl.nx (wr (s4.1 + 1), j9))) else (some (Fl.ex s4.2))
noncomputable def L1_slices_Concat_byte_byte (p0 : (List (List UInt8))) (s35 : Int × (List UInt8)) : Option (Fl (Int × (List UInt8)) (List UInt8)) :=
  if (decide (s35.1 < (p0.length : Int))) = true then ((idx p0 s35.1).bind fun (x42 : (List UInt8)) => (app 1 s35.2 x42).bind fun (l50 : (List UInt8)) => some (Fl.nx (wr (s35.1 + 1), (s35.2 ++ x42)))) else (some (Fl.ex s35.2))
noncomputable def F_slices_Concat_byte_byte (p0 : (List (List UInt8))) : Option ((List UInt8)) :=
  (iter (L0_slices_Concat_byte_byte p0) (0, 0) : Option (Int)).bind fun (j1 : Int) => (F_slices_Grow_byte_byte_nil j1).bind fun (r27 : (List UInt8)) => (iter (L1_slices_Concat_byte_byte p0) (0, r27) : Option ((List UInt8))).bind fun (j30 : (List UInt8)) => some j30
set_option maxRecDepth 20000 in
set_option maxHeartbeats 400000 in
theorem c_slices_Concat_byte_byte (w0 : World) (p0 : (List (List UInt8))) (v0_1 : Value) (hv0_1 : Ro w0 p0 [v0_1]) (r : (List UInt8)) (hF : F_slices_Concat_byte_byte p0 = some r) :
    Calls Try.prog 94 [v0_1].toArray w0 (fun en w' => ∃ v, en = .returned v ∧ (∃ (y1 : Value), v = y1 ∧ Fr w0 w' [osl NoB (r : List UInt8) y1] ∧ Kept (Old w0) w0 w')) := by
  refine c_enter (n := 36) Try.func94 rfl rfl (Nat.le_of_ble_eq_true rfl) rfl ?_
  intro a hE
  have hM := M.start w0
  unfold F_slices_Concat_byte_byte at hF
  refine c_region ?_
  refine s_assign hE goes_none (by decide) rfl ?_; intro a hE
  refine c_fin ?_
  refine c_region ?_
  refine s_assign hE goes_none (by decide) rfl ?_; intro a hE
  refine c_fin ?_
  refine wp_seq ?_
  refine c_region ?_
  refine s_move hE goes_none (by decide) rfl ?_; intro a hE
  refine s_len hE goes_none (by decide) rfl Try.underlying45 (hM.rd hv0_1) ?_; intro a hE
  refine s_move hE goes_none (by decide) rfl ?_; intro a hE
  refine c_fin ?_
  obtain ⟨j1, hl2, hF3⟩ := bind_some hF
  refine c_cut (fun a w => Env 36 a [(0, v0_1), (3, (vI j1))] ∧ M (Old w0) w0 w []) ?_ ?_
  · skip
    refine wp_block ?_
    refine c_loop (fun (s4 : Int × Int) a w => Env 36 a [(0, v0_1), (3, (vI s4.2)), (9, v0_1), (10, (vI (p0.length : Int))), (11, (vI s4.1))] ∧ M (Old w0) w0 w []) hl2 ⟨hE.sub ⟨rfl, rfl, rfl, rfl, rfl, trivial⟩, hM⟩ ?_
    rintro s4 a w ⟨hE, hM⟩ o7 hs5 hx6
    unfold L0_slices_Concat_byte_byte at hs5
    refine c_region ?_
    refine s_int hE goes_none (by decide) rfl rfl rfl ?_; intro a hE
    refine c_fin ?_
    refine wp_seq ?_
    refine c_cond hE rfl ?_ ?_
    · intro hb8
      have hs5 := ite_t hs5 hb8
      refine wp_skip ?_
      refine c_nx ?_
      obtain ⟨j9, hl10, hF11⟩ := bind_some hs5
      refine c_join (fun a w => Env 36 a [(0, v0_1), (3, (vI j9)), (9, v0_1), (10, (vI (p0.length : Int))), (11, (vI s4.1))] ∧ M (Old w0) w0 w []) ?_ ?_
      · skip
        refine wp_block ?_
        refine c_region ?_
        obtain ⟨x12, e13, hl10⟩ := bind_some hl10
        have hi14 := idx_some e13
        refine s_indexS hE goes_none (by decide) rfl rfl Try.underlying45 ty50 (hM.rd hv0_1) hi14.1 ?_; intro a hE
        obtain ⟨cs15, hs16, hA17⟩ := sl_atRo hv0_1 hi14.2 -- ^
        obtain ⟨u18, rfl⟩ := sl_one hs16 -- ^
        have h19 := hs16 -- ^
        refine s_load (v := u18) hE goes_none (by decide) rfl ty50 rfl (hM.atk hA17 (sl_blk hv0_1 hi14.2)) ?_; intro a hE
        refine s_assign hE goes_none (by decide) rfl ?_; intro a hE
        refine c_fin ?_
        refine c_region ?_
        refine s_move hE goes_none (by decide) rfl ?_; intro a hE
        refine s_move hE goes_none (by decide) rfl ?_; intro a hE
        refine s_len hE goes_none (by decide) rfl Try.underlying50 (hM.rd h19) ?_; intro a hE
        refine s_int hE goes_none (by decide) rfl rfl rfl ?_; intro a hE
        refine s_assign hE goes_none (by decide) rfl ?_; intro a hE
        refine c_fin ?_
        refine c_region ?_
        refine s_move hE goes_none (by decide) rfl ?_; intro a hE
        refine s_int hE goes_none (by decide) rfl rfl rfl ?_; intro a hE
        refine c_fin ?_
        obtain ⟨j20, hl21, hF22⟩ := bind_some hl10
        refine c_cut (fun a w => Env 36 a [(0, v0_1), (3, (vI (wr (s4.2 + (x12.length : Int))))), (9, v0_1), (10, (vI (p0.length : Int))), (11, (vI s4.1))] ∧ M (Old w0) w0 w []) ?_ ?_
        · skip
          refine c_cond hE rfl ?_ ?_
          · intro hb23
            have hl21 := ite_t hl21 hb23
            cases hl21
          · intro hb23
            have hl21 := ite_f hl21 hb23
            refine wp_skip ?_
            have ht24 := Option.some.inj hl21
            subst ht24
            refine c_mid ?_
            exact ⟨hE.sub ⟨rfl, rfl, rfl, rfl, rfl, trivial⟩, hM⟩
        · skip
          rintro a w ⟨hE, hM⟩
          refine c_nb ?_
          have ht25 := Option.some.inj hF22
          subst ht25
          refine c_mid ?_
          exact ⟨hE.sub ⟨rfl, rfl, rfl, rfl, rfl, trivial⟩, hM⟩
      · skip
        rintro a w ⟨hE, hM⟩
        refine wp_region_lit ?_
        refine s_int hE goes_none (by decide) rfl rfl rfl ?_; intro a hE
        refine s_move hE goes_none (by decide) rfl ?_; intro a hE
        refine c_fin0 ?_
        refine c_mid ?_
        exact ⟨_, (Option.some.inj hF11).symm, hE.sub ⟨rfl, rfl, rfl, rfl, rfl, trivial⟩, hM⟩
    · intro hb8
      have hs5 := ite_f hs5 hb8
      refine wp_exit (e_then (e_then (e_eq ?_)))
      have ht26 := hx6 _ (Option.some.inj hs5).symm
      subst ht26
      refine c_mid ?_
      exact ⟨hE.sub ⟨rfl, rfl, trivial⟩, hM⟩
  · skip
    rintro a w ⟨hE, hM⟩
    refine c_nx ?_
    refine c_region ?_
    refine s_move hE goes_none (by decide) rfl ?_; intro a hE
    obtain ⟨r27, e28, hF3⟩ := bind_some hF3
    refine s_call (vs := [(Value.slice none 0 0), (vI j1)]) hE goes_none (by decide) rfl cb113 (c_slices_Grow_byte_byte_nil _ j1 r27 e28) ?_
    rintro u29 w a ⟨_, rfl, hFr, hK⟩ hE
    have hM := hM.add hK hFr
    refine s_assign hE goes_none (by decide) rfl ?_; intro a hE
    refine c_fin ?_
    refine wp_seq ?_
    refine c_region ?_
    refine s_move hE goes_none (by decide) rfl ?_; intro a hE
    refine s_len hE goes_none (by decide) rfl Try.underlying45 (hM.rd hv0_1) ?_; intro a hE
    refine s_move hE goes_none (by decide) rfl ?_; intro a hE
    refine c_fin ?_
    obtain ⟨j30, hl31, hF32⟩ := bind_some hF3
    refine c_cut (fun a w => ∃ (u33 : Value), Env 36 a [(6, u33)] ∧ M (Old w0) w0 w [osl NoB (j30 : List UInt8) u33]) ?_ ?_
    · skip
      refine wp_block ?_
      refine c_loop (fun (s35 : Int × (List UInt8)) a w => ∃ (u36 : Value), Env 36 a [(6, u36), (25, v0_1), (26, (vI (p0.length : Int))), (27, (vI s35.1))] ∧ M (Old w0) w0 w [osl NoB (s35.2 : List UInt8) u36]) hl31 ⟨u29, hE.sub ⟨rfl, rfl, rfl, rfl, trivial⟩, hM⟩ ?_
      rintro s35 a w ⟨u36, hE, hM⟩ o40 hs38 hx39
      unfold L1_slices_Concat_byte_byte at hs38
      refine c_region ?_
      refine s_int hE goes_none (by decide) rfl rfl rfl ?_; intro a hE
      refine c_fin ?_
      refine wp_seq ?_
      refine c_cond hE rfl ?_ ?_
      · intro hb41
        have hs38 := ite_t hs38 hb41
        refine wp_skip ?_
        refine c_nx ?_
        refine wp_seq ?_
        refine wp_block ?_
        refine c_region ?_
        obtain ⟨x42, e43, hs38⟩ := bind_some hs38
        have hi44 := idx_some e43
        refine s_indexS hE goes_none (by decide) rfl rfl Try.underlying45 ty50 (hM.rd hv0_1) hi44.1 ?_; intro a hE
        obtain ⟨cs45, hs46, hA47⟩ := sl_atRo hv0_1 hi44.2 -- ^
        obtain ⟨u48, rfl⟩ := sl_one hs46 -- ^
        have h49 := hs46 -- ^
        refine s_load (v := u48) hE goes_none (by decide) rfl ty50 rfl (hM.atk hA47 (sl_blk hv0_1 hi44.2)) ?_; intro a hE
        refine s_assign hE goes_none (by decide) rfl ?_; intro a hE
        refine c_fin ?_
        refine wp_region_lit ?_
        refine s_move hE goes_none (by decide) rfl ?_; intro a hE
        refine s_move hE goes_none (by decide) rfl ?_; intro a hE
        obtain ⟨l50, e51, hs38⟩ := bind_some hs38
        obtain ⟨e54, rfl⟩ := app_some e51
        refine s_appendF hE hM goes_none (by decide) rfl rfl (hM.rd h49) Try.underlying50 ty5 rfl (by decide) e54 ?_; intro u52 w a hM hE
        refine s_assign hE goes_none (by decide) rfl ?_; intro a hE
        refine c_fin0 ?_
        refine c_nb ?_
        refine c_nx ?_
        refine wp_region_lit ?_
        refine s_int hE goes_none (by decide) rfl rfl rfl ?_; intro a hE
        refine s_move hE goes_none (by decide) rfl ?_; intro a hE
        refine c_fin0 ?_
        refine c_mid ?_
        exact ⟨_, (Option.some.inj hs38).symm, u52, hE.sub ⟨rfl, rfl, rfl, rfl, trivial⟩, hM⟩
      · intro hb41
        have hs38 := ite_f hs38 hb41
        refine wp_exit (e_then (e_then (e_eq ?_)))
        have ht55 := hx39 _ (Option.some.inj hs38).symm
        subst ht55
        refine c_mid ?_
        exact ⟨u36, hE.sub ⟨rfl, trivial⟩, hM⟩
    · skip
      rintro a w ⟨u33, hE, hM⟩
      refine c_nx ?_
      refine c_region ?_
      refine s_move hE goes_none (by decide) rfl ?_; intro a hE
      refine s_assign hE goes_none (by decide) rfl ?_; intro a hE
      refine c_fin ?_
      have hr := Option.some.inj hF32
      subst hr
      exact wp_ret (k_ret1 hE rfl (res_tmp hE rfl) ⟨_, rfl, u33, rfl, hM.outF (locN1 locN0), hM.kept⟩)
noncomputable def F_slices_Clone_byte_byte (p0 : (List UInt8)) : Option ((List UInt8)) :=
  (app 1 ([] : List UInt8) p0).bind fun (l7 : (List UInt8)) => some (([] : List UInt8) ++ p0)
set_option maxRecDepth 20000 in
set_option maxHeartbeats 400000 in
theorem c_slices_Clone_byte_byte (w0 : World) (p0 : (List UInt8)) (v0_1 : Value) (hv0_1 : Ro w0 p0 [v0_1]) (r : (List UInt8)) (hF : F_slices_Clone_byte_byte p0 = some r) :
    Calls Try.prog 55 [v0_1].toArray w0 (fun en w' => ∃ v, en = .returned v ∧ (∃ (y1 : Value), v = y1 ∧ Fr w0 w' [osl NoB (r : List UInt8) y1] ∧ Kept (Old w0) w0 w')) := by
  refine c_enter (n := 8) Try.func55 rfl rfl (Nat.le_of_ble_eq_true rfl) rfl ?_
  intro a hE
  have hM := M.start w0
  unfold F_slices_Clone_byte_byte at hF
  refine c_region ?_
  refine s_assign hE goes_none (by decide) rfl ?_; intro a hE
  refine c_fin ?_
  refine wp_seq ?_
  refine c_region ?_
  refine s_move hE goes_none (by decide) rfl ?_; intro a hE
  refine s_eqNil hE goes_none (by decide) rfl rfl Try.underlying50 (hM.rd hv0_1) ?_; intro bn1 a hn2 hE
  refine c_fin ?_
  refine c_cond hE rfl ?_ ?_
  · intro hb3
    have h0 := hn2 hb3
    have hF : some ([]) = some r := by rw [h0] at hF; simpa [app] using hF
    refine c_region ?_
    refine s_assign hE goes_none (by decide) rfl ?_; intro a hE
    refine c_fin ?_
    have hM := M.nilS (α := UInt8) NoB noB hM
    have hr := Option.some.inj hF
    subst hr
    exact wp_ret (r_then (k_ret1 hE rfl (res_tmp hE rfl) ⟨_, rfl, (Value.slice none 0 0), rfl, hM.outF (locN1 locN0), hM.kept⟩))
  · intro hb3
    refine wp_skip ?_
    refine c_nx ?_
    refine c_region ?_
    refine s_buildF (xs := []) (l := ([] : List UInt8)) (vs := []) hE hM goes_none (by decide) rfl rfl Try.underlying50 ty5 rfl (by decide) rfl ?_; intro u5 w a hM hE
    refine s_move hE goes_none (by decide) rfl ?_; intro a hE
    obtain ⟨l7, e8, hF⟩ := bind_some hF
    obtain ⟨e11, rfl⟩ := app_some e8
    refine s_appendF hE hM goes_none (by decide) rfl rfl (hM.rd hv0_1) Try.underlying50 ty5 rfl (by decide) e11 ?_; intro u9 w a hM hE
    refine s_assign hE goes_none (by decide) rfl ?_; intro a hE
    refine c_fin ?_
    have hr := Option.some.inj hF
    subst hr
    exact wp_ret (k_ret1 hE rfl (res_tmp hE rfl) ⟨_, rfl, u9, rfl, hM.outF (locN1 locN0), hM.kept⟩)
noncomputable def L0_impl_bigEndian (p0 : Int) (s8 : (List UInt8) × Int) : Option (Fl ((List UInt8) × Int) (List UInt8)) :=
  if (decide (s8.2 ≥ 0)) = true then ((nonneg (wr (8 * s8.2))).bind fun _ => (app 1 s8.1 ([byteI (shrI p0 (wr (8 * s8.2)))] : List UInt8)).bind fun (l18 : (List UInt8)) => some (Fl.nx ((s8.1 ++ ([byteI (shrI p0 (wr (8 * s8.2)))] : List UInt8)), wr (s8.2 - 1)))) else (some (Fl.ex s8.1))
noncomputable def F_impl_bigEndian (p0 : Int) (p1 : Int) : Option ((List UInt8)) :=
  (iter (L0_impl_bigEndian p0) (([] : List UInt8), wr (p1 - 1)) : Option ((List UInt8))).bind fun (j3 : (List UInt8)) => some j3
set_option maxRecDepth 20000 in
set_option maxHeartbeats 400000 in
theorem c_impl_bigEndian (w0 : World) (p0 : Int) (p1 : Int) (r : (List UInt8)) (hF : F_impl_bigEndian p0 p1 = some r) :
    Calls Try.prog 71 [(vI p0), (vI p1)].toArray w0 (fun en w' => ∃ v, en = .returned v ∧ (∃ (y1 : Value), v = y1 ∧ Fr w0 w' [osl NoB (r : List UInt8) y1] ∧ Kept (Old w0) w0 w')) := by
  refine c_enter (n := 23) Try.func71 rfl rfl (Nat.le_of_ble_eq_true rfl) rfl ?_
  intro a hE
  have hM := M.start w0
  unfold F_impl_bigEndian at hF
  refine c_region ?_
  refine s_assign hE goes_none (by decide) rfl ?_; intro a hE
  refine c_fin ?_
  refine c_region ?_
  refine s_buildF (xs := []) (l := ([] : List UInt8)) (vs := []) hE hM goes_none (by decide) rfl rfl Try.underlying50 ty5 rfl (by decide) rfl ?_; intro u1 w a hM hE
  refine s_assign hE goes_none (by decide) rfl ?_; intro a hE
  refine c_fin ?_
  refine wp_seq ?_
  refine c_region ?_
  refine s_move hE goes_none (by decide) rfl ?_; intro a hE
  refine s_int hE goes_none (by decide) rfl rfl rfl ?_; intro a hE
  refine s_assign hE goes_none (by decide) rfl ?_; intro a hE
  refine c_fin ?_
  obtain ⟨j3, hl4, hF5⟩ := bind_some hF
  refine c_cut (fun a w => ∃ (u6 : Value), Env 23 a [(5, u6)] ∧ M (Old w0) w0 w [osl NoB (j3 : List UInt8) u6]) ?_ ?_
  · skip
    refine wp_block ?_
    refine c_loop (fun (s8 : (List UInt8) × Int) a w => ∃ (u9 : Value), Env 23 a [(0, (vI p0)), (5, u9), (6, (vI s8.2))] ∧ M (Old w0) w0 w [osl NoB (s8.1 : List UInt8) u9]) hl4 ⟨u1, hE.sub ⟨rfl, rfl, rfl, trivial⟩, hM⟩ ?_
    rintro s8 a w ⟨u9, hE, hM⟩ o13 hs11 hx12
    unfold L0_impl_bigEndian at hs11
    refine wp_seq ?_
    refine c_region ?_
    refine s_move hE goes_none (by decide) rfl ?_; intro a hE
    refine s_int hE goes_none (by decide) rfl rfl rfl ?_; intro a hE
    refine c_fin ?_
    refine c_cond hE rfl ?_ ?_
    · intro hb14
      have hs11 := ite_t hs11 hb14
      refine wp_skip ?_
      refine c_nx ?_
      refine wp_seq ?_
      refine wp_block ?_
      refine wp_region_lit ?_
      refine s_move hE goes_none (by decide) rfl ?_; intro a hE
      refine s_move hE goes_none (by decide) rfl ?_; intro a hE
      refine s_move hE goes_none (by decide) rfl ?_; intro a hE
      refine s_int hE goes_none (by decide) rfl rfl rfl ?_; intro a hE
      obtain ⟨_, e15, hs11⟩ := bind_some hs11
      have e15 := nonneg_some e15
      refine s_sh hE goes_none (by decide) rfl rfl (bI_shr _ _ e15) ?_; intro a hE
      refine s_conv hE goes_none (by decide) rfl Try.underlying2 Try.underlying5 ?_; intro a hE
      rw [byteI_val] at hE
      refine s_buildF (xs := [.tmp 19]) (l := ([byteI (shrI p0 (wr (8 * s8.2)))] : List UInt8)) (vs := [(vB (byteI (shrI p0 (wr (8 * s8.2)))))]) hE hM goes_none (by decide) rfl rfl Try.underlying50 ty5 rfl (by decide) rfl ?_; intro u16 w a hM hE
      obtain ⟨l18, e19, hs11⟩ := bind_some hs11
      obtain ⟨e22, rfl⟩ := app_some e19
      have hM := hM.pull (pre := [_])
      refine s_appendF hE hM goes_none (by decide) rfl rfl (hM.sl (pre := [_]) noB) Try.underlying50 ty5 rfl (by decide) e22 ?_; intro u20 w a hM hE
      refine s_assign hE goes_none (by decide) rfl ?_; intro a hE
      refine c_fin0 ?_
      refine c_nb ?_
      refine c_nx ?_
      refine wp_region_lit ?_
      refine s_move hE goes_none (by decide) rfl ?_; intro a hE
      refine s_int hE goes_none (by decide) rfl rfl rfl ?_; intro a hE
      refine s_assign hE goes_none (by decide) rfl ?_; intro a hE
      refine c_fin0 ?_
      refine c_mid ?_
      have hM := M.fst (l := [_]) hM
      exact ⟨_, (Option.some.inj hs11).symm, u20, hE.sub ⟨rfl, rfl, rfl, trivial⟩, hM⟩
    · intro hb14
      have hs11 := ite_f hs11 hb14
      refine wp_exit (e_then (e_then (e_eq ?_)))
      have ht23 := hx12 _ (Option.some.inj hs11).symm
      subst ht23
      refine c_mid ?_
      exact ⟨u9, hE.sub ⟨rfl, trivial⟩, hM⟩
  · skip
    rintro a w ⟨u6, hE, hM⟩
    refine c_nx ?_
    refine c_region ?_
    refine s_move hE goes_none (by decide) rfl ?_; intro a hE
    refine s_assign hE goes_none (by decide) rfl ?_; intro a hE
    refine c_fin ?_
    have hr := Option.some.inj hF5
    subst hr
    exact wp_ret (k_ret1 hE rfl (res_tmp hE rfl) ⟨_, rfl, u6, rfl, hM.outF (locN1 locN0), hM.kept⟩)
noncomputable def L0_impl_padMessage (s16 : (List UInt8)) : Option (Fl (List UInt8) (List UInt8)) :=
  if ((Int.tmod (s16.length : Int) 16) != 8) = true then ((app 1 s16 ([0] : List UInt8)).bind fun (l25 : (List UInt8)) => some (Fl.nx (s16 ++ ([0] : List UInt8)))) else (some (Fl.ex s16))
noncomputable def F_impl_padMessage (p0 : (List UInt8)) : Option ((List UInt8)) :=
  (F_slices_Clone_byte_byte p0).bind fun (r1 : (List UInt8)) => (app 1 r1 ([128] : List UInt8)).bind fun (l6 : (List UInt8)) => (iter (L0_impl_padMessage) (r1 ++ ([128] : List UInt8)) : Option ((List UInt8))).bind fun (j11 : (List UInt8)) => (F_impl_bigEndian (p0.length : Int) 8).bind fun (r31 : (List UInt8)) => (app 1 j11 r31).bind fun (l34 : (List UInt8)) => some (j11 ++ r31)
set_option maxRecDepth 20000 in
set_option maxHeartbeats 400000 in
theorem c_impl_padMessage (w0 : World) (p0 : (List UInt8)) (v0_1 : Value) (hv0_1 : Ro w0 p0 [v0_1]) (r : (List UInt8)) (hF : F_impl_padMessage p0 = some r) :
    Calls Try.prog 93 [v0_1].toArray w0 (fun en w' => ∃ v, en = .returned v ∧ (∃ (y1 : Value), v = y1 ∧ Fr w0 w' [osl NoB (r : List UInt8) y1] ∧ Kept (Old w0) w0 w')) := by
  refine c_enter (n := 20) Try.func93 rfl rfl (Nat.le_of_ble_eq_true rfl) rfl ?_
  intro a hE
  have hM := M.start w0
  unfold F_impl_padMessage at hF
  refine c_region ?_
  refine s_assign hE goes_none (by decide) rfl ?_; intro a hE
  refine c_fin ?_
  refine c_region ?_
  refine s_move hE goes_none (by decide) rfl ?_; intro a hE
  obtain ⟨r1, e2, hF⟩ := bind_some hF
  refine s_call (vs := [v0_1]) hE goes_none (by decide) rfl cb55 (c_slices_Clone_byte_byte _ p0 v0_1 (hM.rdo hv0_1) r1 e2) ?_
  rintro u3 w a ⟨_, rfl, hFr, hK⟩ hE
  have hM := hM.add hK hFr
  refine s_buildF (xs := [.const (vB 128)]) (l := ([128] : List UInt8)) (vs := [(vB 128)]) hE hM goes_none (by decide) rfl rfl Try.underlying50 ty5 rfl (by decide) rfl ?_; intro u4 w a hM hE
  obtain ⟨l6, e7, hF⟩ := bind_some hF
  obtain ⟨e10, rfl⟩ := app_some e7
  have hM := hM.pull (pre := [_])
  refine s_appendF hE hM goes_none (by decide) rfl rfl (hM.sl (pre := [_]) noB) Try.underlying50 ty5 rfl (by decide) e10 ?_; intro u8 w a hM hE
  refine s_assign hE goes_none (by decide) rfl ?_; intro a hE
  refine c_fin ?_
  obtain ⟨j11, hl12, hF13⟩ := bind_some hF
  refine c_join (fun a w => ∃ (u14 : Value), Env 20 a [(0, v0_1), (3, u14)] ∧ M (Old w0) w0 w [osl NoB (j11 : List UInt8) u14]) ?_ ?_
  · skip
    refine wp_block ?_
    have hM := M.fst (l := [_]) hM
    refine c_loop (fun (s16 : (List UInt8)) a w => ∃ (u17 : Value), Env 20 a [(0, v0_1), (3, u17)] ∧ M (Old w0) w0 w [osl NoB (s16 : List UInt8) u17]) hl12 ⟨u8, hE.sub ⟨rfl, rfl, trivial⟩, hM⟩ ?_
    rintro s16 a w ⟨u17, hE, hM⟩ o21 hs19 hx20
    unfold L0_impl_padMessage at hs19
    refine wp_seq ?_
    refine c_region ?_
    refine s_move hE goes_none (by decide) rfl ?_; intro a hE
    refine s_len hE goes_none (by decide) rfl Try.underlying50 (hM.sl (pre := []) noB) ?_; intro a hE
    refine s_int hE goes_none (by decide) rfl rfl (bI_rem _ _ (by decide)) ?_; intro a hE
    refine s_int hE goes_none (by decide) rfl rfl rfl ?_; intro a hE
    refine c_fin ?_
    refine c_cond hE rfl ?_ ?_
    · intro hb22
      have hs19 := ite_t hs19 hb22
      refine wp_skip ?_
      refine c_nx ?_
      refine wp_block ?_
      refine wp_region_lit ?_
      refine s_move hE goes_none (by decide) rfl ?_; intro a hE
      refine s_buildF (xs := [.const (vB 0)]) (l := ([0] : List UInt8)) (vs := [(vB 0)]) hE hM goes_none (by decide) rfl rfl Try.underlying50 ty5 rfl (by decide) rfl ?_; intro u23 w a hM hE
      obtain ⟨l25, e26, hs19⟩ := bind_some hs19
      obtain ⟨e29, rfl⟩ := app_some e26
      have hM := hM.pull (pre := [_])
      refine s_appendF hE hM goes_none (by decide) rfl rfl (hM.sl (pre := [_]) noB) Try.underlying50 ty5 rfl (by decide) e29 ?_; intro u27 w a hM hE
      refine s_assign hE goes_none (by decide) rfl ?_; intro a hE
      refine c_fin0 ?_
      refine c_nb ?_
      refine c_mid ?_
      have hM := M.fst (l := [_]) hM
      exact ⟨_, (Option.some.inj hs19).symm, u27, hE.sub ⟨rfl, rfl, trivial⟩, hM⟩
    · intro hb22
      have hs19 := ite_f hs19 hb22
      refine wp_exit (e_then (e_then (e_eq ?_)))
      have ht30 := hx20 _ (Option.some.inj hs19).symm
      subst ht30
      refine c_mid ?_
      exact ⟨u17, hE.sub ⟨rfl, rfl, trivial⟩, hM⟩
  · skip
    rintro a w ⟨u14, hE, hM⟩
    refine c_region ?_
    refine s_move hE goes_none (by decide) rfl ?_; intro a hE
    refine s_move hE goes_none (by decide) rfl ?_; intro a hE
    refine s_len hE goes_none (by decide) rfl Try.underlying50 (hM.rd hv0_1) ?_; intro a hE
    obtain ⟨r31, e32, hF13⟩ := bind_some hF13
    refine s_call (vs := [(vI (p0.length : Int)), (vI 8)]) hE goes_none (by decide) rfl cb71 (c_impl_bigEndian _ (p0.length : Int) 8 r31 e32) ?_
    rintro u33 w a ⟨_, rfl, hFr, hK⟩ hE
    have hM := hM.add hK hFr
    obtain ⟨l34, e35, hF13⟩ := bind_some hF13
    obtain ⟨e38, rfl⟩ := app_some e35
    have hM := hM.pull (pre := [_])
    refine s_appendF hE hM goes_none (by decide) rfl rfl (hM.sl (pre := [_]) noB) Try.underlying50 ty5 rfl (by decide) e38 ?_; intro u36 w a hM hE
    refine s_assign hE goes_none (by decide) rfl ?_; intro a hE
    refine c_fin ?_
    have hr := Option.some.inj hF13
    subst hr
    have hM := M.fst (l := [_]) hM
    exact wp_ret (k_ret1 hE rfl (res_tmp hE rfl) ⟨_, rfl, u36, rfl, hM.outF (locN1 locN0), hM.kept⟩)
noncomputable def L0_impl_blocksOf (p0 : (List UInt8)) (s8 : (List (Vector UInt8 16)) × Int) : Option (Fl ((List (Vector UInt8 16)) × Int) (List (Vector UInt8 16))) :=
  if (decide (s8.2 < (p0.length : Int))) = true then ((slc p0 s8.2 (wr (s8.2 + 16))).bind fun (l15 : (List UInt8)) => (toArr 16 l15).bind fun (x18 : (Vector UInt8 16)) => (app 16 s8.1 ([x18] : List (Vector UInt8 16))).bind fun (l22 : (List (Vector UInt8 16))) => some (Fl.nx ((s8.1 ++ ([x18] : List (Vector UInt8 16))), wr (s8.2 + 16)))) else (some (Fl.ex s8.1))
noncomputable def F_impl_blocksOf (p0 : (List UInt8)) : Option ((List (Vector UInt8 16))) :=
  (iter (L0_impl_blocksOf p0) (([] : List (Vector UInt8 16)), 0) : Option ((List (Vector UInt8 16)))).bind fun (j3 : (List (Vector UInt8 16))) => some j3
set_option maxRecDepth 20000 in
set_option maxHeartbeats 400000 in
theorem c_impl_blocksOf (w0 : World) (p0 : (List UInt8)) (v0_1 : Value) (hv0_1 : Ro w0 p0 [v0_1]) (r : (List (Vector UInt8 16))) (hF : F_impl_blocksOf p0 = some r) :
    Calls Try.prog 92 [v0_1].toArray w0 (fun en w' => ∃ v, en = .returned v ∧ (∃ (y1 : Value), v = y1 ∧ Fr w0 w' [osl NoB (r : List (Vector UInt8 16)) y1] ∧ Kept (Old w0) w0 w')) := by
  refine c_enter (n := 23) Try.func92 rfl rfl (Nat.le_of_ble_eq_true rfl) rfl ?_
  intro a hE
  have hM := M.start w0
  unfold F_impl_blocksOf at hF
  refine c_region ?_
  refine s_assign hE goes_none (by decide) rfl ?_; intro a hE
  refine c_fin ?_
  refine c_region ?_
  refine s_buildF (xs := []) (l := ([] : List (Vector UInt8 16))) (vs := []) hE hM goes_none (by decide) rfl rfl Try.underlying34 ty39 rfl (by decide) rfl ?_; intro u1 w a hM hE
  refine s_assign hE goes_none (by decide) rfl ?_; intro a hE
  refine c_fin ?_
  refine wp_seq ?_
  refine c_region ?_
  refine s_assign hE goes_none (by decide) rfl ?_; intro a hE
  refine c_fin ?_
  obtain ⟨j3, hl4, hF5⟩ := bind_some hF
  refine c_cut (fun a w => ∃ (u6 : Value), Env 23 a [(3, u6)] ∧ M (Old w0) w0 w [osl NoB (j3 : List (Vector UInt8 16)) u6]) ?_ ?_
  · skip
    refine wp_block ?_
    refine c_loop (fun (s8 : (List (Vector UInt8 16)) × Int) a w => ∃ (u9 : Value), Env 23 a [(0, v0_1), (3, u9), (4, (vI s8.2))] ∧ M (Old w0) w0 w [osl NoB (s8.1 : List (Vector UInt8 16)) u9]) hl4 ⟨u1, hE.sub ⟨rfl, rfl, rfl, trivial⟩, hM⟩ ?_
    rintro s8 a w ⟨u9, hE, hM⟩ o13 hs11 hx12
    unfold L0_impl_blocksOf at hs11
    refine wp_seq ?_
    refine c_region ?_
    refine s_move hE goes_none (by decide) rfl ?_; intro a hE
    refine s_move hE goes_none (by decide) rfl ?_; intro a hE
    refine s_len hE goes_none (by decide) rfl Try.underlying50 (hM.rd hv0_1) ?_; intro a hE
    refine s_int hE goes_none (by decide) rfl rfl rfl ?_; intro a hE
    refine c_fin ?_
    refine c_cond hE rfl ?_ ?_
    · intro hb14
      have hs11 := ite_t hs11 hb14
      refine wp_skip ?_
      refine c_nx ?_
      refine wp_seq ?_
      refine wp_block ?_
      refine wp_region_lit ?_
      refine s_move hE goes_none (by decide) rfl ?_; intro a hE
      refine s_move hE goes_none (by decide) rfl ?_; intro a hE
      refine s_move hE goes_none (by decide) rfl ?_; intro a hE
      refine s_move hE goes_none (by decide) rfl ?_; intro a hE
      refine s_int hE goes_none (by decide) rfl rfl rfl ?_; intro a hE
      obtain ⟨l15, e16, hs11⟩ := bind_some hs11
      refine s_slice hE goes_none (by decide) rfl rfl rfl rfl rfl Try.underlying50 ty5 (hM.rd hv0_1) e16 ?_; intro a hE
      have h17 : Rep.sat (Old w0) w0 l15 [(sliceV v0_1 (s8.2).toNat ((wr (s8.2 + 16))).toNat 1)] [] := ro_slice hv0_1 e16 -- ^
      obtain ⟨x18, e19, hs11⟩ := bind_some hs11
      refine s_toArr hE goes_none (by decide) rfl Try.underlying39 (hM.rd h17) (toArr_some e19).1 (by decide) ?_; intro a hE
      refine s_loadA (cs := Flat.enc x18) hE goes_none (by decide) rfl ty39 rfl (sl_arr (hM.rd h17) e19 (by decide)) (Flat.len _) ?_; intro a hE
      refine s_buildF (xs := [.tmp 19]) (l := ([x18] : List (Vector UInt8 16))) (vs := [(Value.agg (Flat.enc x18).toArray)]) hE hM goes_none (by decide) rfl rfl Try.underlying34 ty39 rfl (by decide) rfl ?_; intro u20 w a hM hE
      obtain ⟨l22, e23, hs11⟩ := bind_some hs11
      obtain ⟨e26, rfl⟩ := app_some e23
      have hM := hM.pull (pre := [_])
      refine s_appendF hE hM goes_none (by decide) rfl rfl (hM.sl (pre := [_]) noB) Try.underlying34 ty39 rfl (by decide) e26 ?_; intro u24 w a hM hE
      refine s_assign hE goes_none (by decide) rfl ?_; intro a hE
      refine c_fin0 ?_
      refine c_nb ?_
      refine c_nx ?_
      refine wp_region_lit ?_
      refine s_move hE goes_none (by decide) rfl ?_; intro a hE
      refine s_int hE goes_none (by decide) rfl rfl rfl ?_; intro a hE
      refine s_assign hE goes_none (by decide) rfl ?_; intro a hE
      refine c_fin0 ?_
      refine c_mid ?_
      have hM := M.fst (l := [_]) hM
      exact ⟨_, (Option.some.inj hs11).symm, u24, hE.sub ⟨rfl, rfl, rfl, trivial⟩, hM⟩
    · intro hb14
      have hs11 := ite_f hs11 hb14
      refine wp_exit (e_then (e_then (e_eq ?_)))
      have ht27 := hx12 _ (Option.some.inj hs11).symm
      subst ht27
      refine c_mid ?_
      exact ⟨u9, hE.sub ⟨rfl, trivial⟩, hM⟩
  · skip
    rintro a w ⟨u6, hE, hM⟩
    refine c_nx ?_
    refine c_region ?_
    refine s_move hE goes_none (by decide) rfl ?_; intro a hE
    refine s_assign hE goes_none (by decide) rfl ?_; intro a hE
    refine c_fin ?_
    have hr := Option.some.inj hF5
    subst hr
    exact wp_ret (k_ret1 hE rfl (res_tmp hE rfl) ⟨_, rfl, u6, rfl, hM.outF (locN1 locN0), hM.kept⟩)
noncomputable def L0_impl_XorBlocks (p1 : (Vector UInt8 16)) (s10 : (Vector UInt8 16) × Int) : Option (Fl ((Vector UInt8 16) × Int) (Vector UInt8 16)) :=
  if (decide (s10.2 < 16)) = true then ((vidx s10.1 s10.2).bind fun (x17 : UInt8) => (vidx p1 s10.2).bind fun (x20 : UInt8) => (vidx s10.1 s10.2).bind fun (x23 : UInt8) => some (Fl.nx ((s10.1.setIfInBounds (s10.2).toNat (x17 ^^^ x20)), wr (s10.2 + 1)))) else (some (Fl.ex s10.1))
noncomputable def F_impl_XorBlocks (p0 : (Vector UInt8 16)) (p1 : (Vector UInt8 16)) : Option ((Vector UInt8 16)) :=
  (iter (L0_impl_XorBlocks p1) (p0, 0) : Option ((Vector UInt8 16))).bind fun (j7 : (Vector UInt8 16)) => some j7
set_option maxRecDepth 20000 in
set_option maxHeartbeats 400000 in
theorem c_impl_XorBlocks (w0 : World) (p0 : (Vector UInt8 16)) (p1 : (Vector UInt8 16)) (r : (Vector UInt8 16)) (hF : F_impl_XorBlocks p0 p1 = some r) :
    Calls Try.prog 114 [(Value.agg (Flat.enc p0).toArray), (Value.agg (Flat.enc p1).toArray)].toArray w0 (fun en w' => ∃ v, en = .returned v ∧ (v = (Value.agg (Flat.enc r).toArray) ∧ Kept (Old w0) w0 w')) := by
  refine c_enter (n := 19) Try.func114 rfl rfl (Nat.le_of_ble_eq_true rfl) rfl ?_
  intro a hE
  have hM := M.start w0
  unfold F_impl_XorBlocks at hF
  refine c_region ?_
  refine s_box (cs := Flat.enc p0) hE hM goes_none (by decide) rfl rfl ?_; intro b1 w a hM hE
  refine s_box (cs := Flat.enc p1) hE hM goes_none (by decide) rfl rfl ?_; intro b3 w a hM hE
  refine s_alloc hE hM goes_none (by decide) ty39 ?_; intro b5 w a hM hE
  refine c_fin ?_
  refine wp_seq ?_
  refine c_region ?_
  refine s_move hE goes_none (by decide) rfl ?_; intro a hE
  refine c_fin ?_
  obtain ⟨j7, hl8, hF9⟩ := bind_some hF
  refine c_cut (fun a w => Env 19 a [(2, (ptr b1 0)), (4, (ptr b5 0))] ∧ M (Old w0) w0 w [raw b5 (Flat.enc (Vector.replicate 16 (0 : UInt8))), raw b1 (Flat.enc j7)]) ?_ ?_
  · skip
    refine wp_block ?_
    refine c_loop (fun (s10 : (Vector UInt8 16) × Int) a w => Env 19 a [(2, (ptr b1 0)), (3, (ptr b3 0)), (4, (ptr b5 0)), (6, (vI s10.2))] ∧ M (Old w0) w0 w [raw b5 (Flat.enc (Vector.replicate 16 (0 : UInt8))), raw b3 (Flat.enc p1), raw b1 (Flat.enc s10.1)]) hl8 ⟨hE.sub ⟨rfl, rfl, rfl, rfl, trivial⟩, hM⟩ ?_
    rintro s10 a w ⟨hE, hM⟩ o13 hs11 hx12
    unfold L0_impl_XorBlocks at hs11
    refine c_region ?_
    refine s_int hE goes_none (by decide) rfl rfl rfl ?_; intro a hE
    refine c_fin ?_
    refine wp_seq ?_
    refine c_cond hE rfl ?_ ?_
    · intro hb14
      have hs11 := ite_t hs11 hb14
      refine wp_skip ?_
      refine c_nx ?_
      refine wp_seq ?_
      refine wp_block ?_
      refine c_region ?_
      refine s_move hE goes_none (by decide) rfl ?_; intro a hE
      refine s_assign hE goes_none (by decide) rfl ?_; intro a hE
      refine c_fin ?_
      obtain ⟨x17, e18, hs11⟩ := bind_some hs11
      have hi16 := vidx_some e18
      obtain ⟨x20, e21, hs11⟩ := bind_some hs11
      have hi19 := vidx_some e21
      obtain ⟨x23, e24, hs11⟩ := bind_some hs11
      have hi22 := vidx_some e24
      refine c_draw (n := 19) (hd := [_, _, _, _, _, _, _, _]) (tl := [_]) hmix rfl rfl [9, 10, 11, 12, 13, 14, 15, 16] (by decide) (fun w => M (Old w0) w0 w [raw b5 (Flat.enc (Vector.replicate 16 (0 : UInt8))), raw b3 (Flat.enc p1), raw b1 (Flat.enc s10.1)]) (fun j => ([fun v _ => v = (vI s10.2), fun v _ => v = (ptr b1 (0 + (s10.2).toNat * 1)), fun v _ => v = (vB x17), fun v _ => v = (vI s10.2), fun v _ => v = (ptr b3 (0 + (s10.2).toNat * 1)), fun v _ => v = (vB x20), fun v _ => v = (vB (x17 ^^^ x20)), fun v _ => v = (ptr b1 (0 + (s10.2).toNat * 1))] : List (Value → World → Prop)).getD j (fun _ _ => True)) (fun _ _ h hk => h.keep hk) (gup (gupE (gupE (gupE (gupE (gupE (gupE (gupE (gupE gupN))))))))) hE hM.drew (steps_of (steps_cons ?_ (steps_cons ?_ (steps_cons ?_ (steps_cons ?_ (steps_cons ?_ (steps_cons ?_ (steps_cons ?_ (steps_cons ?_ steps_nil))))))))) ?_
      · intro a w ux15 hE hM hp
        refine s_move hE goes_none (by decide) rfl ?_; intro a hE
        exact ⟨Kept.refl _ _, _, _, rfl, hE, rfl⟩
      · intro a w ux15 hE hM hp
        have f0 : ux15 0 = (vI s10.2) := hp 0 _ rfl rfl
        refine s_indexA hE goes_none (by decide) rfl (lk rfl f0) Try.underlying39 ty5 hi16.1 ?_; intro a hE
        exact ⟨Kept.refl _ _, _, _, rfl, hE, rfl⟩
      · intro a w ux15 hE hM hp
        have f1 : ux15 1 = (ptr b1 (0 + (s10.2).toNat * 1)) := hp 0 _ rfl rfl
        refine s_load (v := (vB x17)) hE goes_none (by decide) (lk rfl f1) ty5 rfl (At.vec (hM.rawAt (pre := [_, _])) hi16.2) ?_; intro a hE
        exact ⟨Kept.refl _ _, _, _, rfl, hE, rfl⟩
      · intro a w ux15 hE hM hp
        refine s_move hE goes_none (by decide) rfl ?_; intro a hE
        exact ⟨Kept.refl _ _, _, _, rfl, hE, rfl⟩
      · intro a w ux15 hE hM hp
        have f3 : ux15 3 = (vI s10.2) := hp 0 _ rfl rfl
        refine s_indexA hE goes_none (by decide) rfl (lk rfl f3) Try.underlying39 ty5 hi19.1 ?_; intro a hE
        exact ⟨Kept.refl _ _, _, _, rfl, hE, rfl⟩
      · intro a w ux15 hE hM hp
        have f4 : ux15 4 = (ptr b3 (0 + (s10.2).toNat * 1)) := hp 0 _ rfl rfl
        refine s_load (v := (vB x20)) hE goes_none (by decide) (lk rfl f4) ty5 rfl (At.vec (hM.rawAt (pre := [_])) hi19.2) ?_; intro a hE
        exact ⟨Kept.refl _ _, _, _, rfl, hE, rfl⟩
      · intro a w ux15 hE hM hp
        have f2 : ux15 2 = (vB x17) := hp 0 _ rfl rfl
        have f5 : ux15 5 = (vB x20) := hp 1 _ rfl rfl
        refine s_int hE goes_none (by decide) (lk rfl f2) (lk rfl f5) (bB_xor x17 x20) ?_; intro a hE
        exact ⟨Kept.refl _ _, _, _, rfl, hE, rfl⟩
      · intro a w ux15 hE hM hp
        have f0 : ux15 0 = (vI s10.2) := hp 0 _ rfl rfl
        refine s_indexA hE goes_none (by decide) rfl (lk rfl f0) Try.underlying39 ty5 hi22.1 ?_; intro a hE
        exact ⟨Kept.refl _ _, _, _, rfl, hE, rfl⟩
      · intro a w ux15 hE hM hg
        have f0 : ux15 0 = (vI s10.2) := hg 0 (by decide)
        have f1 : ux15 1 = (ptr b1 (0 + (s10.2).toNat * 1)) := hg 1 (by decide)
        have f2 : ux15 2 = (vB x17) := hg 2 (by decide)
        have f3 : ux15 3 = (vI s10.2) := hg 3 (by decide)
        have f4 : ux15 4 = (ptr b3 (0 + (s10.2).toNat * 1)) := hg 4 (by decide)
        have f5 : ux15 5 = (vB x20) := hg 5 (by decide)
        have f6 : ux15 6 = (vB (x17 ^^^ x20)) := hg 6 (by decide)
        have f7 : ux15 7 = (ptr b1 (0 + (s10.2).toNat * 1)) := hg 7 (by decide)
        have hE := hE.sub (e' := [(9, (vI s10.2)), (10, (ptr b1 (0 + (s10.2).toNat * 1))), (11, (vB x17)), (12, (vI s10.2)), (13, (ptr b3 (0 + (s10.2).toNat * 1))), (14, (vB x20)), (15, (vB (x17 ^^^ x20))), (16, (ptr b1 (0 + (s10.2).toNat * 1))), (2, (ptr b1 0)), (3, (ptr b3 0)), (4, (ptr b5 0)), (5, (vI s10.2)), (6, (vI s10.2)), (7, (vT (decide (s10.2 < 16)))), (8, (vI s10.2))]) ⟨lk rfl f0, lk rfl f1, lk rfl f2, lk rfl f3, lk rfl f4, lk rfl f5, lk rfl f6, lk rfl f7, rfl, rfl, rfl, rfl, rfl, rfl, rfl, trivial⟩
        have hM := hM.pull (pre := [_, _])
        refine s_store (seg := [(vB (x17 ^^^ x20))]) (cs' := Flat.enc (s10.1.setIfInBounds (s10.2).toNat (x17 ^^^ x20))) hE hM goes_none rfl rfl rfl ty5 rfl (fit_vec (v := s10.1) (x := x17 ^^^ x20) hi22.1) (Flat.cell (x17 ^^^ x20 : UInt8)) (splice_vec0 (v := s10.1) (x := x17 ^^^ x20) hi22.1) ?_; intro w a hM hE
        refine c_fin0 ?_
        refine c_nb ?_
        refine c_nx ?_
        refine wp_region_lit ?_
        refine s_int hE goes_none (by decide) rfl rfl rfl ?_; intro a hE
        refine s_move hE goes_none (by decide) rfl ?_; intro a hE
        refine c_fin0 ?_
        refine c_mid ?_
        have hM := hM.pull (pre := [_, _])
        have hM := hM.pull (pre := [_, _])
        exact ⟨_, (Option.some.inj hs11).symm, hE.sub ⟨rfl, rfl, rfl, rfl, trivial⟩, hM⟩
    · intro hb14
      have hs11 := ite_f hs11 hb14
      refine wp_exit (e_then (e_then (e_eq ?_)))
      have ht25 := hx12 _ (Option.some.inj hs11).symm
      subst ht25
      refine c_mid ?_
      have hM := hM.pull (pre := [_, _])
      have hM := hM.pull (pre := [_])
      have hM := M.fst (l := [_, _]) hM
      exact ⟨hE.sub ⟨rfl, rfl, trivial⟩, hM⟩
  · skip
    rintro a w ⟨hE, hM⟩
    refine c_nx ?_
    refine c_region ?_
    refine s_loadA (cs := Flat.enc j7) hE goes_none (by decide) rfl ty39 rfl (hM.rawAt (pre := [_])) (Flat.len _) ?_; intro a hE
    refine s_store (seg := Flat.enc j7) (cs' := Flat.enc j7) hE hM goes_none rfl rfl rfl ty39 (Flat.len _) (Nat.le_of_eq ((Nat.zero_add _).trans (Eq.trans (Flat.len _) (Eq.symm (Flat.len _))))) (Flat.cell _) (splice_all (Eq.trans (Flat.len _) (Eq.symm (Flat.len _)))) ?_; intro w a hM hE
    refine c_fin ?_
    have hr := Option.some.inj hF9
    subst hr
    have hq26 : ResIs Try.prog _ _ (.cell 4 39) _ := res_cell hE rfl ty39 rfl (hM.rawAt (pre := [])) (Flat.len _) rfl
    have hM := M.fst (l := []) hM
    exact wp_ret (k_ret1 hE rfl hq26 ⟨_, rfl, rfl, hM.kept⟩)
noncomputable def L0_impl_engine_nextKey (p0 : (Ref Gengine)) (s35 : (Vector UInt8 16) × Int) : Option (Fl ((Vector UInt8 16) × Int) (Vector UInt8 16)) :=
  if (decide (s35.2 < 16)) = true then ((vidx s35.1 s35.2).bind fun (x42 : UInt8) => (vidx s35.1 (wr (s35.2 - 1))).bind fun (x45 : UInt8) => (vidx p0.v.box (bI x45)).bind fun (x58 : UInt8) => (vidx s35.1 s35.2).bind fun (x61 : UInt8) => some (Fl.nx ((s35.1.setIfInBounds (s35.2).toNat (x42 ^^^ x58)), wr (s35.2 + 1)))) else (some (Fl.ex s35.1))
noncomputable def F_impl_engine_nextKey (p0 : (Ref Gengine)) (p1 : (Vector UInt8 16)) (p2 : Int) : Option ((Vector UInt8 16)) :=
  ((vidx p1 (0 : Int)).bind fun (x10 : UInt8) => (vidx p1 (15 : Int)).bind fun (x13 : UInt8) => (vidx p0.v.box (bI (x13 ^^^ (byteI p2)))).bind fun (x26 : UInt8) => (vidx p1 (0 : Int)).bind fun (x29 : UInt8) => some (p1.setIfInBounds ((0 : Int)).toNat (x10 ^^^ x26)) : Option ((Vector UInt8 16))).bind fun (j5 : (Vector UInt8 16)) => (iter (L0_impl_engine_nextKey p0) (j5, 1) : Option ((Vector UInt8 16))).bind fun (j32 : (Vector UInt8 16)) => some j32
set_option maxRecDepth 20000 in
set_option maxHeartbeats 400000 in
theorem c_impl_engine_nextKey (w0 : World) (p0 : (Ref Gengine)) (v0_1 : Value) (hv0_1 : Ro w0 p0 [v0_1]) (p1 : (Vector UInt8 16)) (p2 : Int) (r : (Vector UInt8 16)) (hF : F_impl_engine_nextKey p0 p1 p2 = some r) :
    Calls Try.prog 135 [v0_1, (Value.agg (Flat.enc p1).toArray), (vI p2)].toArray w0 (fun en w' => ∃ v, en = .returned v ∧ (v = (Value.agg (Flat.enc r).toArray) ∧ Kept (Old w0) w0 w')) := by
  refine c_enter (n := 41) Try.func135 rfl rfl (Nat.le_of_ble_eq_true rfl) rfl ?_
  intro a hE
  have hM := M.start w0
  unfold F_impl_engine_nextKey at hF
  refine c_region ?_
  refine s_box (cs := Flat.enc p1) hE hM goes_none (by decide) rfl rfl ?_; intro b1 w a hM hE
  refine s_alloc hE hM goes_none (by decide) ty39 ?_; intro b3 w a hM hE
  refine c_fin ?_
  obtain ⟨j5, hl6, hF7⟩ := bind_some hF
  refine c_join (fun a w => Env 41 a [(0, v0_1), (4, (ptr b1 0)), (6, (ptr b3 0))] ∧ M (Old w0) w0 w [raw b3 (Flat.enc (Vector.replicate 16 (0 : UInt8))), raw b1 (Flat.enc j5)]) ?_ ?_
  · skip
    obtain ⟨x10, e11, hl6⟩ := bind_some hl6
    have hi9 := vidx_some e11
    obtain ⟨x13, e14, hl6⟩ := bind_some hl6
    have hi12 := vidx_some e14
    obtain ⟨pb15, ds16, hv17, hx18, hA19, hB20⟩ := ref_open hv0_1 -- ^
    obtain ⟨u21, u23, rfl, h22, h24⟩ := un_Gengine hx18 -- ^
    obtain ⟨x26, e27, hl6⟩ := bind_some hl6
    have hi25 := vidx_some e27
    obtain ⟨x29, e30, hl6⟩ := bind_some hl6
    have hi28 := vidx_some e30
    refine c_draw (n := 41) (hd := [_, _, _, _, _, _, _, _, _, _, _, _, _, _]) (tl := [_]) hmix rfl rfl [8, 9, 10, 11, 12, 13, 14, 15, 16, 17, 18, 19, 20, 21] (by decide) (fun w => M (Old w0) w0 w [raw b3 (Flat.enc (Vector.replicate 16 (0 : UInt8))), raw b1 (Flat.enc p1)]) (fun j => ([fun v _ => v = (ptr b1 (0 + ((0 : Int)).toNat * 1)), fun v _ => v = (vB x10), fun v _ => v = v0_1, fun v _ => v = (ptr b1 (0 + ((15 : Int)).toNat * 1)), fun v _ => v = (vB x13), fun v _ => v = (vI p2), fun v _ => v = (vB (byteI p2)), fun v _ => v = (vB (x13 ^^^ (byteI p2))), fun v _ => v = (ptr pb15 0), fun v _ => v = (ptr pb15 (0 + 0)), fun v _ => v = (ptr pb15 (0 + 0 + ((bI (x13 ^^^ (byteI p2)))).toNat * 1)), fun v _ => v = (vB x26), fun v _ => v = (vB (x10 ^^^ x26)), fun v _ => v = (ptr b1 (0 + ((0 : Int)).toNat * 1))] : List (Value → World → Prop)).getD j (fun _ _ => True)) (fun _ _ h hk => h.keep hk) (gup (gupE (gupE (gupE (gupE (gupE (gupE (gupE (gupE (gupE (gupE (gupE (gupE (gupE (gupE gupN))))))))))))))) hE hM.drew (steps_of (steps_cons ?_ (steps_cons ?_ (steps_cons ?_ (steps_cons ?_ (steps_cons ?_ (steps_cons ?_ (steps_cons ?_ (steps_cons ?_ (steps_cons ?_ (steps_cons ?_ (steps_cons ?_ (steps_cons ?_ (steps_cons ?_ (steps_cons ?_ steps_nil))))))))))))))) ?_
    · intro a w ux8 hE hM hp
      refine s_indexA hE goes_none (by decide) rfl rfl Try.underlying39 ty5 hi9.1 ?_; intro a hE
      exact ⟨Kept.refl _ _, _, _, rfl, hE, rfl⟩
    · intro a w ux8 hE hM hp
      have f0 : ux8 0 = (ptr b1 (0 + ((0 : Int)).toNat * 1)) := hp 0 _ rfl rfl
      refine s_load (v := (vB x10)) hE goes_none (by decide) (lk rfl f0) ty5 rfl (At.vec (hM.rawAt (pre := [_])) hi9.2) ?_; intro a hE
      exact ⟨Kept.refl _ _, _, _, rfl, hE, rfl⟩
    · intro a w ux8 hE hM hp
      refine s_move hE goes_none (by decide) rfl ?_; intro a hE
      exact ⟨Kept.refl _ _, _, _, rfl, hE, rfl⟩
    · intro a w ux8 hE hM hp
      refine s_indexA hE goes_none (by decide) rfl rfl Try.underlying39 ty5 hi12.1 ?_; intro a hE
      exact ⟨Kept.refl _ _, _, _, rfl, hE, rfl⟩
    · intro a w ux8 hE hM hp
      have f3 : ux8 3 = (ptr b1 (0 + ((15 : Int)).toNat * 1)) := hp 0 _ rfl rfl
      refine s_load (v := (vB x13)) hE goes_none (by decide) (lk rfl f3) ty5 rfl (At.vec (hM.rawAt (pre := [_])) hi12.2) ?_; intro a hE
      exact ⟨Kept.refl _ _, _, _, rfl, hE, rfl⟩
    · intro a w ux8 hE hM hp
      refine s_move hE goes_none (by decide) rfl ?_; intro a hE
      exact ⟨Kept.refl _ _, _, _, rfl, hE, rfl⟩
    · intro a w ux8 hE hM hp
      have f5 : ux8 5 = (vI p2) := hp 0 _ rfl rfl
      refine s_conv hE goes_none (by decide) (lk rfl f5) Try.underlying2 Try.underlying5 ?_; intro a hE
      rw [byteI_val] at hE
      exact ⟨Kept.refl _ _, _, _, rfl, hE, rfl⟩
    · intro a w ux8 hE hM hp
      have f4 : ux8 4 = (vB x13) := hp 0 _ rfl rfl
      have f6 : ux8 6 = (vB (byteI p2)) := hp 1 _ rfl rfl
      refine s_int hE goes_none (by decide) (lk rfl f4) (lk rfl f6) (bB_xor x13 (byteI p2)) ?_; intro a hE
      exact ⟨Kept.refl _ _, _, _, rfl, hE, rfl⟩
    · intro a w ux8 hE hM hp
      have f2 : ux8 2 = v0_1 := hp 0 _ rfl rfl
      refine s_nilCheck hE goes_none (by decide) (lk (lk rfl f2) hv17) ?_; intro a hE
      exact ⟨Kept.refl _ _, _, _, rfl, hE, rfl⟩
    · intro a w ux8 hE hM hp
      have f8 : ux8 8 = (ptr pb15 0) := hp 0 _ rfl rfl
      refine s_fieldAddr hE goes_none (by decide) (lk rfl f8) (fd152_0) ?_; intro a hE
      exact ⟨Kept.refl _ _, _, _, rfl, hE, rfl⟩
    · intro a w ux8 hE hM hp
      have f7 : ux8 7 = (vB (x13 ^^^ (byteI p2))) := hp 1 _ rfl rfl
      have f9 : ux8 9 = (ptr pb15 (0 + 0)) := hp 0 _ rfl rfl
      refine s_indexA hE goes_none (by decide) (lk rfl f9) (lk rfl f7) Try.underlying97 ty5 hi25.1 ?_; intro a hE
      exact ⟨Kept.refl _ _, _, _, rfl, hE, rfl⟩
    · intro a w ux8 hE hM hp
      have f10 : ux8 10 = (ptr pb15 (0 + 0 + ((bI (x13 ^^^ (byteI p2)))).toNat * 1)) := hp 0 _ rfl rfl
      refine s_load (v := (vB x26)) hE goes_none (by decide) (lk rfl f10) ty5 rfl (At.vec (At.cat (pre := []) (seg := Flat.enc p0.v.box) (post := [Flat.enc p0.v.backBox, Flat.enc p0.v.places, Flat.enc p0.v.backPlaces, [u21], [u23], [(vI p0.v.rounds)]]) (hM.atk hA19 hB20) cl0) hi25.2) ?_; intro a hE
      exact ⟨Kept.refl _ _, _, _, rfl, hE, rfl⟩
    · intro a w ux8 hE hM hp
      have f1 : ux8 1 = (vB x10) := hp 0 _ rfl rfl
      have f11 : ux8 11 = (vB x26) := hp 1 _ rfl rfl
      refine s_int hE goes_none (by decide) (lk rfl f1) (lk rfl f11) (bB_xor x10 x26) ?_; intro a hE
      exact ⟨Kept.refl _ _, _, _, rfl, hE, rfl⟩
    · intro a w ux8 hE hM hp
      refine s_indexA hE goes_none (by decide) rfl rfl Try.underlying39 ty5 hi28.1 ?_; intro a hE
      exact ⟨Kept.refl _ _, _, _, rfl, hE, rfl⟩
    · intro a w ux8 hE hM hg
      have f0 : ux8 0 = (ptr b1 (0 + ((0 : Int)).toNat * 1)) := hg 0 (by decide)
      have f1 : ux8 1 = (vB x10) := hg 1 (by decide)
      have f2 : ux8 2 = v0_1 := hg 2 (by decide)
      have f3 : ux8 3 = (ptr b1 (0 + ((15 : Int)).toNat * 1)) := hg 3 (by decide)
      have f4 : ux8 4 = (vB x13) := hg 4 (by decide)
      have f5 : ux8 5 = (vI p2) := hg 5 (by decide)
      have f6 : ux8 6 = (vB (byteI p2)) := hg 6 (by decide)
      have f7 : ux8 7 = (vB (x13 ^^^ (byteI p2))) := hg 7 (by decide)
      have f8 : ux8 8 = (ptr pb15 0) := hg 8 (by decide)
      have f9 : ux8 9 = (ptr pb15 (0 + 0)) := hg 9 (by decide)
      have f10 : ux8 10 = (ptr pb15 (0 + 0 + ((bI (x13 ^^^ (byteI p2)))).toNat * 1)) := hg 10 (by decide)
      have f11 : ux8 11 = (vB x26) := hg 11 (by decide)
      have f12 : ux8 12 = (vB (x10 ^^^ x26)) := hg 12 (by decide)
      have f13 : ux8 13 = (ptr b1 (0 + ((0 : Int)).toNat * 1)) := hg 13 (by decide)
      have hE := hE.sub (e' := [(8, (ptr b1 (0 + ((0 : Int)).toNat * 1))), (9, (vB x10)), (10, v0_1), (11, (ptr b1 (0 + ((15 : Int)).toNat * 1))), (12, (vB x13)), (13, (vI p2)), (14, (vB (byteI p2))), (15, (vB (x13 ^^^ (byteI p2)))), (16, (ptr pb15 0)), (17, (ptr pb15 (0 + 0))), (18, (ptr pb15 (0 + 0 + ((bI (x13 ^^^ (byteI p2)))).toNat * 1))), (19, (vB x26)), (20, (vB (x10 ^^^ x26))), (21, (ptr b1 (0 + ((0 : Int)).toNat * 1))), (0, v0_1), (1, (Value.agg (Flat.enc p1).toArray)), (2, (vI p2)), (4, (ptr b1 0)), (6, (ptr b3 0))]) ⟨lk rfl f0, lk rfl f1, lk rfl f2, lk rfl f3, lk rfl f4, lk rfl f5, lk rfl f6, lk rfl f7, lk rfl f8, lk rfl f9, lk rfl f10, lk rfl f11, lk rfl f12, lk rfl f13, rfl, rfl, rfl, rfl, rfl, trivial⟩
      have hM := hM.pull (pre := [_])
      refine s_store (seg := [(vB (x10 ^^^ x26))]) (cs' := Flat.enc (p1.setIfInBounds ((0 : Int)).toNat (x10 ^^^ x26))) hE hM goes_none rfl rfl rfl ty5 rfl (fit_vec (v := p1) (x := x10 ^^^ x26) hi28.1) (Flat.cell (x10 ^^^ x26 : UInt8)) (splice_vec0 (v := p1) (x := x10 ^^^ x26) hi28.1) ?_; intro w a hM hE
      refine c_fin0 ?_
      have ht31 := Option.some.inj hl6
      subst ht31
      refine c_mid ?_
      have hM := hM.pull (pre := [_])
      exact ⟨hE.sub ⟨rfl, rfl, rfl, trivial⟩, hM⟩
  · skip
    rintro a w ⟨hE, hM⟩
    refine wp_seq ?_
    refine c_region ?_
    refine s_assign hE goes_none (by decide) rfl ?_; intro a hE
    refine c_fin ?_
    obtain ⟨j32, hl33, hF34⟩ := bind_some hF7
    refine c_cut (fun a w => Env 41 a [(4, (ptr b1 0)), (6, (ptr b3 0))] ∧ M (Old w0) w0 w [raw b3 (Flat.enc (Vector.replicate 16 (0 : UInt8))), raw b1 (Flat.enc j32)]) ?_ ?_
    · skip
      refine wp_block ?_
      refine c_loop (fun (s35 : (Vector UInt8 16) × Int) a w => Env 41 a [(0, v0_1), (4, (ptr b1 0)), (6, (ptr b3 0)), (7, (vI s35.2))] ∧ M (Old w0) w0 w [raw b3 (Flat.enc (Vector.replicate 16 (0 : UInt8))), raw b1 (Flat.enc s35.1)]) hl33 ⟨hE.sub ⟨rfl, rfl, rfl, rfl, trivial⟩, hM⟩ ?_
      rintro s35 a w ⟨hE, hM⟩ o38 hs36 hx37
      unfold L0_impl_engine_nextKey at hs36
      refine wp_seq ?_
      refine c_region ?_
      refine s_move hE goes_none (by decide) rfl ?_; intro a hE
      refine s_int hE goes_none (by decide) rfl rfl rfl ?_; intro a hE
      refine c_fin ?_
      refine c_cond hE rfl ?_ ?_
      · intro hb39
        have hs36 := ite_t hs36 hb39
        refine wp_skip ?_
        refine c_nx ?_
        refine wp_seq ?_
        refine wp_block ?_
        obtain ⟨x42, e43, hs36⟩ := bind_some hs36
        have hi41 := vidx_some e43
        obtain ⟨x45, e46, hs36⟩ := bind_some hs36
        have hi44 := vidx_some e46
        obtain ⟨pb47, ds48, hv49, hx50, hA51, hB52⟩ := ref_open hv0_1 -- ^
        obtain ⟨u53, u55, rfl, h54, h56⟩ := un_Gengine hx50 -- ^
        obtain ⟨x58, e59, hs36⟩ := bind_some hs36
        have hi57 := vidx_some e59
        obtain ⟨x61, e62, hs36⟩ := bind_some hs36
        have hi60 := vidx_some e62
        refine c_draw (n := 41) (hd := [_, _, _, _, _, _, _, _, _, _, _, _, _, _]) (tl := [_]) hmix rfl rfl [26, 27, 28, 29, 30, 31, 32, 33, 34, 35, 36, 37, 38, 39] (by decide) (fun w => M (Old w0) w0 w [raw b3 (Flat.enc (Vector.replicate 16 (0 : UInt8))), raw b1 (Flat.enc s35.1)]) (fun j => ([fun v _ => v = (vI s35.2), fun v _ => v = (ptr b1 (0 + (s35.2).toNat * 1)), fun v _ => v = (vB x42), fun v _ => v = v0_1, fun v _ => v = (vI s35.2), fun v _ => v = (vI (wr (s35.2 - 1))), fun v _ => v = (ptr b1 (0 + ((wr (s35.2 - 1))).toNat * 1)), fun v _ => v = (vB x45), fun v _ => v = (ptr pb47 0), fun v _ => v = (ptr pb47 (0 + 0)), fun v _ => v = (ptr pb47 (0 + 0 + ((bI x45)).toNat * 1)), fun v _ => v = (vB x58), fun v _ => v = (vB (x42 ^^^ x58)), fun v _ => v = (ptr b1 (0 + (s35.2).toNat * 1))] : List (Value → World → Prop)).getD j (fun _ _ => True)) (fun _ _ h hk => h.keep hk) (gup (gupE (gupE (gupE (gupE (gupE (gupE (gupE (gupE (gupE (gupE (gupE (gupE (gupE (gupE gupN))))))))))))))) hE hM.drew (steps_of (steps_cons ?_ (steps_cons ?_ (steps_cons ?_ (steps_cons ?_ (steps_cons ?_ (steps_cons ?_ (steps_cons ?_ (steps_cons ?_ (steps_cons ?_ (steps_cons ?_ (steps_cons ?_ (steps_cons ?_ (steps_cons ?_ (steps_cons ?_ steps_nil))))))))))))))) ?_
        · intro a w ux40 hE hM hp
          refine s_move hE goes_none (by decide) rfl ?_; intro a hE
          exact ⟨Kept.refl _ _, _, _, rfl, hE, rfl⟩
        · intro a w ux40 hE hM hp
          have f0 : ux40 0 = (vI s35.2) := hp 0 _ rfl rfl
          refine s_indexA hE goes_none (by decide) rfl (lk rfl f0) Try.underlying39 ty5 hi41.1 ?_; intro a hE
          exact ⟨Kept.refl _ _, _, _, rfl, hE, rfl⟩
        · intro a w ux40 hE hM hp
          have f1 : ux40 1 = (ptr b1 (0 + (s35.2).toNat * 1)) := hp 0 _ rfl rfl
          refine s_load (v := (vB x42)) hE goes_none (by decide) (lk rfl f1) ty5 rfl (At.vec (hM.rawAt (pre := [_])) hi41.2) ?_; intro a hE
          exact ⟨Kept.refl _ _, _, _, rfl, hE, rfl⟩
        · intro a w ux40 hE hM hp
          refine s_move hE goes_none (by decide) rfl ?_; intro a hE
          exact ⟨Kept.refl _ _, _, _, rfl, hE, rfl⟩
        · intro a w ux40 hE hM hp
          refine s_move hE goes_none (by decide) rfl ?_; intro a hE
          exact ⟨Kept.refl _ _, _, _, rfl, hE, rfl⟩
        · intro a w ux40 hE hM hp
          have f4 : ux40 4 = (vI s35.2) := hp 0 _ rfl rfl
          refine s_int hE goes_none (by decide) (lk rfl f4) rfl rfl ?_; intro a hE
          exact ⟨Kept.refl _ _, _, _, rfl, hE, rfl⟩
        · intro a w ux40 hE hM hp
          have f5 : ux40 5 = (vI (wr (s35.2 - 1))) := hp 0 _ rfl rfl
          refine s_indexA hE goes_none (by decide) rfl (lk rfl f5) Try.underlying39 ty5 hi44.1 ?_; intro a hE
          exact ⟨Kept.refl _ _, _, _, rfl, hE, rfl⟩
        · intro a w ux40 hE hM hp
          have f6 : ux40 6 = (ptr b1 (0 + ((wr (s35.2 - 1))).toNat * 1)) := hp 0 _ rfl rfl
          refine s_load (v := (vB x45)) hE goes_none (by decide) (lk rfl f6) ty5 rfl (At.vec (hM.rawAt (pre := [_])) hi44.2) ?_; intro a hE
          exact ⟨Kept.refl _ _, _, _, rfl, hE, rfl⟩
        · intro a w ux40 hE hM hp
          have f3 : ux40 3 = v0_1 := hp 0 _ rfl rfl
          refine s_nilCheck hE goes_none (by decide) (lk (lk rfl f3) hv49) ?_; intro a hE
          exact ⟨Kept.refl _ _, _, _, rfl, hE, rfl⟩
        · intro a w ux40 hE hM hp
          have f8 : ux40 8 = (ptr pb47 0) := hp 0 _ rfl rfl
          refine s_fieldAddr hE goes_none (by decide) (lk rfl f8) (fd152_0) ?_; intro a hE
          exact ⟨Kept.refl _ _, _, _, rfl, hE, rfl⟩
        · intro a w ux40 hE hM hp
          have f7 : ux40 7 = (vB x45) := hp 1 _ rfl rfl
          have f9 : ux40 9 = (ptr pb47 (0 + 0)) := hp 0 _ rfl rfl
          refine s_indexA hE goes_none (by decide) (lk rfl f9) (lk rfl f7) Try.underlying97 ty5 hi57.1 ?_; intro a hE
          exact ⟨Kept.refl _ _, _, _, rfl, hE, rfl⟩
        · intro a w ux40 hE hM hp
          have f10 : ux40 10 = (ptr pb47 (0 + 0 + ((bI x45)).toNat * 1)) := hp 0 _ rfl rfl
          refine s_load (v := (vB x58)) hE goes_none (by decide) (lk rfl f10) ty5 rfl (At.vec (At.cat (pre := []) (seg := Flat.enc p0.v.box) (post := [Flat.enc p0.v.backBox, Flat.enc p0.v.places, Flat.enc p0.v.backPlaces, [u53], [u55], [(vI p0.v.rounds)]]) (hM.atk hA51 hB52) cl0) hi57.2) ?_; intro a hE
          exact ⟨Kept.refl _ _, _, _, rfl, hE, rfl⟩
        · intro a w ux40 hE hM hp
          have f2 : ux40 2 = (vB x42) := hp 0 _ rfl rfl
          have f11 : ux40 11 = (vB x58) := hp 1 _ rfl rfl
          refine s_int hE goes_none (by decide) (lk rfl f2) (lk rfl f11) (bB_xor x42 x58) ?_; intro a hE
          exact ⟨Kept.refl _ _, _, _, rfl, hE, rfl⟩
        · intro a w ux40 hE hM hp
          have f0 : ux40 0 = (vI s35.2) := hp 0 _ rfl rfl
          refine s_indexA hE goes_none (by decide) rfl (lk rfl f0) Try.underlying39 ty5 hi60.1 ?_; intro a hE
          exact ⟨Kept.refl _ _, _, _, rfl, hE, rfl⟩
        · intro a w ux40 hE hM hg
          have f0 : ux40 0 = (vI s35.2) := hg 0 (by decide)
          have f1 : ux40 1 = (ptr b1 (0 + (s35.2).toNat * 1)) := hg 1 (by decide)
          have f2 : ux40 2 = (vB x42) := hg 2 (by decide)
          have f3 : ux40 3 = v0_1 := hg 3 (by decide)
          have f4 : ux40 4 = (vI s35.2) := hg 4 (by decide)
          have f5 : ux40 5 = (vI (wr (s35.2 - 1))) := hg 5 (by decide)
          have f6 : ux40 6 = (ptr b1 (0 + ((wr (s35.2 - 1))).toNat * 1)) := hg 6 (by decide)
          have f7 : ux40 7 = (vB x45) := hg 7 (by decide)
          have f8 : ux40 8 = (ptr pb47 0) := hg 8 (by decide)
          have f9 : ux40 9 = (ptr pb47 (0 + 0)) := hg 9 (by decide)
          have f10 : ux40 10 = (ptr pb47 (0 + 0 + ((bI x45)).toNat * 1)) := hg 10 (by decide)
          have f11 : ux40 11 = (vB x58) := hg 11 (by decide)
          have f12 : ux40 12 = (vB (x42 ^^^ x58)) := hg 12 (by decide)
          have f13 : ux40 13 = (ptr b1 (0 + (s35.2).toNat * 1)) := hg 13 (by decide)
          have hE := hE.sub (e' := [(26, (vI s35.2)), (27, (ptr b1 (0 + (s35.2).toNat * 1))), (28, (vB x42)), (29, v0_1), (30, (vI s35.2)), (31, (vI (wr (s35.2 - 1)))), (32, (ptr b1 (0 + ((wr (s35.2 - 1))).toNat * 1))), (33, (vB x45)), (34, (ptr pb47 0)), (35, (ptr pb47 (0 + 0))), (36, (ptr pb47 (0 + 0 + ((bI x45)).toNat * 1))), (37, (vB x58)), (38, (vB (x42 ^^^ x58))), (39, (ptr b1 (0 + (s35.2).toNat * 1))), (0, v0_1), (4, (ptr b1 0)), (6, (ptr b3 0)), (7, (vI s35.2)), (22, (vI s35.2)), (23, (vT (decide (s35.2 < 16))))]) ⟨lk rfl f0, lk rfl f1, lk rfl f2, lk rfl f3, lk rfl f4, lk rfl f5, lk rfl f6, lk rfl f7, lk rfl f8, lk rfl f9, lk rfl f10, lk rfl f11, lk rfl f12, lk rfl f13, rfl, rfl, rfl, rfl, rfl, rfl, trivial⟩
          have hM := hM.pull (pre := [_])
          refine s_store (seg := [(vB (x42 ^^^ x58))]) (cs' := Flat.enc (s35.1.setIfInBounds (s35.2).toNat (x42 ^^^ x58))) hE hM goes_none rfl rfl rfl ty5 rfl (fit_vec (v := s35.1) (x := x42 ^^^ x58) hi60.1) (Flat.cell (x42 ^^^ x58 : UInt8)) (splice_vec0 (v := s35.1) (x := x42 ^^^ x58) hi60.1) ?_; intro w a hM hE
          refine c_fin0 ?_
          refine c_nb ?_
          refine c_nx ?_
          refine wp_region_lit ?_
          refine s_move hE goes_none (by decide) rfl ?_; intro a hE
          refine s_int hE goes_none (by decide) rfl rfl rfl ?_; intro a hE
          refine s_assign hE goes_none (by decide) rfl ?_; intro a hE
          refine c_fin0 ?_
          refine c_mid ?_
          have hM := hM.pull (pre := [_])
          exact ⟨_, (Option.some.inj hs36).symm, hE.sub ⟨rfl, rfl, rfl, rfl, trivial⟩, hM⟩
      · intro hb39
        have hs36 := ite_f hs36 hb39
        refine wp_exit (e_then (e_then (e_eq ?_)))
        have ht63 := hx37 _ (Option.some.inj hs36).symm
        subst ht63
        refine c_mid ?_
        exact ⟨hE.sub ⟨rfl, rfl, trivial⟩, hM⟩
    · skip
      rintro a w ⟨hE, hM⟩
      refine c_nx ?_
      refine c_region ?_
      refine s_loadA (cs := Flat.enc j32) hE goes_none (by decide) rfl ty39 rfl (hM.rawAt (pre := [_])) (Flat.len _) ?_; intro a hE
      refine s_store (seg := Flat.enc j32) (cs' := Flat.enc j32) hE hM goes_none rfl rfl rfl ty39 (Flat.len _) (Nat.le_of_eq ((Nat.zero_add _).trans (Eq.trans (Flat.len _) (Eq.symm (Flat.len _))))) (Flat.cell _) (splice_all (Eq.trans (Flat.len _) (Eq.symm (Flat.len _)))) ?_; intro w a hM hE
      refine c_fin ?_
      have hr := Option.some.inj hF34
      subst hr
      have hq64 : ResIs Try.prog _ _ (.cell 6 39) _ := res_cell hE rfl ty39 rfl (hM.rawAt (pre := [])) (Flat.len _) rfl
      have hM := M.fst (l := []) hM
      exact wp_ret (k_ret1 hE rfl hq64 ⟨_, rfl, rfl, hM.kept⟩)
noncomputable def L0_impl_engine_keys (p0 : (Ref Gengine)) (p2 : Int) (s10 : (Vector UInt8 16) × (List (Vector UInt8 16)) × Int) : Option (Fl ((Vector UInt8 16) × (List (Vector UInt8 16)) × Int) (List (Vector UInt8 16))) :=
  if (decide (s10.2.2 ≤ p2)) = true then ((F_impl_engine_nextKey p0 s10.1 s10.2.2).bind fun (r17 : (Vector UInt8 16)) => (app 16 s10.2.1 ([r17] : List (Vector UInt8 16))).bind fun (l21 : (List (Vector UInt8 16))) => some (Fl.nx (r17, (s10.2.1 ++ ([r17] : List (Vector UInt8 16))), wr (s10.2.2 + 1)))) else (some (Fl.ex s10.2.1))
noncomputable def F_impl_engine_keys (p0 : (Ref Gengine)) (p1 : (Vector UInt8 16)) (p2 : Int) : Option ((List (Vector UInt8 16))) :=
  (iter (L0_impl_engine_keys p0 p2) (p1, ([p1] : List (Vector UInt8 16)), 1) : Option ((List (Vector UInt8 16)))).bind fun (j5 : (List (Vector UInt8 16))) => some j5
set_option maxRecDepth 20000 in
set_option maxHeartbeats 400000 in
theorem c_impl_engine_keys (w0 : World) (p0 : (Ref Gengine)) (v0_1 : Value) (hv0_1 : Ro w0 p0 [v0_1]) (p1 : (Vector UInt8 16)) (p2 : Int) (r : (List (Vector UInt8 16))) (hF : F_impl_engine_keys p0 p1 p2 = some r) :
    Calls Try.prog 130 [v0_1, (Value.agg (Flat.enc p1).toArray), (vI p2)].toArray w0 (fun en w' => ∃ v, en = .returned v ∧ (∃ (y1 : Value), v = y1 ∧ Fr w0 w' [osl NoB (r : List (Vector UInt8 16)) y1] ∧ Kept (Old w0) w0 w')) := by
  refine c_enter (n := 25) Try.func130 rfl rfl (Nat.le_of_ble_eq_true rfl) rfl ?_
  intro a hE
  have hM := M.start w0
  unfold F_impl_engine_keys at hF
  refine c_region ?_
  refine s_box (cs := Flat.enc p1) hE hM goes_none (by decide) rfl rfl ?_; intro b1 w a hM hE
  refine s_assign hE goes_none (by decide) rfl ?_; intro a hE
  refine c_fin ?_
  refine c_region ?_
  refine s_loadA (cs := Flat.enc p1) hE goes_none (by decide) rfl ty39 rfl (hM.rawAt (pre := [])) (Flat.len _) ?_; intro a hE
  refine s_buildF (xs := [.tmp 9]) (l := ([p1] : List (Vector UInt8 16))) (vs := [(Value.agg (Flat.enc p1).toArray)]) hE hM goes_none (by decide) rfl rfl Try.underlying34 ty39 rfl (by decide) rfl ?_; intro u3 w a hM hE
  refine s_assign hE goes_none (by decide) rfl ?_; intro a hE
  refine c_fin ?_
  refine wp_seq ?_
  refine c_region ?_
  refine s_assign hE goes_none (by decide) rfl ?_; intro a hE
  refine c_fin ?_
  obtain ⟨j5, hl6, hF7⟩ := bind_some hF
  refine c_cut (fun a w => ∃ (u8 : Value), Env 25 a [(7, u8)] ∧ M (Old w0) w0 w [osl NoB (j5 : List (Vector UInt8 16)) u8]) ?_ ?_
  · skip
    refine wp_block ?_
    have hM := hM.pull (pre := [_])
    refine c_loop (fun (s10 : (Vector UInt8 16) × (List (Vector UInt8 16)) × Int) a w => ∃ (u11 : Value), Env 25 a [(0, v0_1), (2, (vI p2)), (4, (ptr b1 0)), (7, u11), (8, (vI s10.2.2))] ∧ M (Old w0) w0 w [raw b1 (Flat.enc s10.1), osl NoB (s10.2.1 : List (Vector UInt8 16)) u11]) hl6 ⟨u3, hE.sub ⟨rfl, rfl, rfl, rfl, rfl, trivial⟩, hM⟩ ?_
    rintro s10 a w ⟨u11, hE, hM⟩ o15 hs13 hx14
    unfold L0_impl_engine_keys at hs13
    refine wp_seq ?_
    refine c_region ?_
    refine s_move hE goes_none (by decide) rfl ?_; intro a hE
    refine s_move hE goes_none (by decide) rfl ?_; intro a hE
    refine s_int hE goes_none (by decide) rfl rfl rfl ?_; intro a hE
    refine c_fin ?_
    refine c_cond hE rfl ?_ ?_
    · intro hb16
      have hs13 := ite_t hs13 hb16
      refine wp_skip ?_
      refine c_nx ?_
      refine wp_seq ?_
      refine wp_block ?_
      refine c_region ?_
      refine s_move hE goes_none (by decide) rfl ?_; intro a hE
      refine s_loadA (cs := Flat.enc s10.1) hE goes_none (by decide) rfl ty39 rfl (hM.rawAt (pre := [])) (Flat.len _) ?_; intro a hE
      refine s_move hE goes_none (by decide) rfl ?_; intro a hE
      obtain ⟨r17, e18, hs13⟩ := bind_some hs13
      refine s_call (vs := [v0_1, (Value.agg (Flat.enc s10.1).toArray), (vI s10.2.2)]) hE goes_none (by decide) rfl cb135 (c_impl_engine_nextKey _ p0 v0_1 (hM.rdo hv0_1) s10.1 s10.2.2 r17 e18) ?_
      rintro v w a ⟨rfl, hK⟩ hE
      have hM := hM.keep hK
      refine s_store (seg := Flat.enc r17) (cs' := Flat.enc r17) hE hM goes_none rfl rfl rfl ty39 (Flat.len _) (Nat.le_of_eq ((Nat.zero_add _).trans (Eq.trans (Flat.len _) (Eq.symm (Flat.len _))))) (Flat.cell _) (splice_all (Eq.trans (Flat.len _) (Eq.symm (Flat.len _)))) ?_; intro w a hM hE
      refine c_fin ?_
      refine wp_region_lit ?_
      refine s_move hE goes_none (by decide) rfl ?_; intro a hE
      refine s_loadA (cs := Flat.enc r17) hE goes_none (by decide) rfl ty39 rfl (hM.rawAt (pre := [])) (Flat.len _) ?_; intro a hE
      refine s_buildF (xs := [.tmp 21]) (l := ([r17] : List (Vector UInt8 16))) (vs := [(Value.agg (Flat.enc r17).toArray)]) hE hM goes_none (by decide) rfl rfl Try.underlying34 ty39 rfl (by decide) rfl ?_; intro u19 w a hM hE
      obtain ⟨l21, e22, hs13⟩ := bind_some hs13
      obtain ⟨e25, rfl⟩ := app_some e22
      have hM := hM.pull (pre := [_, _])
      refine s_appendF hE hM goes_none (by decide) rfl rfl (hM.sl (pre := [_]) noB) Try.underlying34 ty39 rfl (by decide) e25 ?_; intro u23 w a hM hE
      refine s_assign hE goes_none (by decide) rfl ?_; intro a hE
      refine c_fin0 ?_
      refine c_nb ?_
      refine c_nx ?_
      refine wp_region_lit ?_
      refine s_move hE goes_none (by decide) rfl ?_; intro a hE
      refine s_int hE goes_none (by decide) rfl rfl rfl ?_; intro a hE
      refine s_assign hE goes_none (by decide) rfl ?_; intro a hE
      refine c_fin0 ?_
      refine c_mid ?_
      have hM := hM.pull (pre := [_, _])
      have hM := M.fst (l := [_, _]) hM
      exact ⟨_, (Option.some.inj hs13).symm, u23, hE.sub ⟨rfl, rfl, rfl, rfl, rfl, trivial⟩, hM⟩
    · intro hb16
      have hs13 := ite_f hs13 hb16
      refine wp_exit (e_then (e_then (e_eq ?_)))
      have ht26 := hx14 _ (Option.some.inj hs13).symm
      subst ht26
      refine c_mid ?_
      have hM := hM.pull (pre := [_])
      have hM := M.fst (l := [_]) hM
      exact ⟨u11, hE.sub ⟨rfl, trivial⟩, hM⟩
  · skip
    rintro a w ⟨u8, hE, hM⟩
    refine c_nx ?_
    refine c_region ?_
    refine s_move hE goes_none (by decide) rfl ?_; intro a hE
    refine s_assign hE goes_none (by decide) rfl ?_; intro a hE
    refine c_fin ?_
    have hr := Option.some.inj hF7
    subst hr
    exact wp_ret (k_ret1 hE rfl (res_tmp hE rfl) ⟨_, rfl, u8, rfl, hM.outF (locN1 locN0), hM.kept⟩)
noncomputable def L0_impl_Places_move (p0 : (Vector UInt8 16)) (p1 : (Vector UInt8 16)) (s12 : (Vector UInt8 16) × Int) : Option (Fl ((Vector UInt8 16) × Int) (Vector UInt8 16)) :=
  if (decide (s12.2 < 16)) = true then ((vidx p0 s12.2).bind fun (x17 : UInt8) => (vidx p1 (bI x17)).bind fun (x21 : UInt8) => (vidx s12.1 s12.2).bind fun (x24 : UInt8) => some (Fl.nx ((s12.1.setIfInBounds (s12.2).toNat x21), wr (s12.2 + 1)))) else (some (Fl.ex s12.1))
noncomputable def F_impl_Places_move (p0 : (Vector UInt8 16)) (p1 : (Vector UInt8 16)) : Option ((Vector UInt8 16)) :=
  (iter (L0_impl_Places_move p0 p1) ((Vector.replicate 16 (0 : UInt8)), 0) : Option ((Vector UInt8 16))).bind fun (j9 : (Vector UInt8 16)) => some j9
set_option maxRecDepth 20000 in
set_option maxHeartbeats 400000 in
theorem c_impl_Places_move (w0 : World) (p0 : (Vector UInt8 16)) (p1 : (Vector UInt8 16)) (r : (Vector UInt8 16)) (hF : F_impl_Places_move p0 p1 = some r) :
    Calls Try.prog 133 [(Value.agg (Flat.enc p0).toArray), (Value.agg (Flat.enc p1).toArray)].toArray w0 (fun en w' => ∃ v, en = .returned v ∧ (v = (Value.agg (Flat.enc r).toArray) ∧ Kept (Old w0) w0 w')) := by
  refine c_enter (n := 21) Try.func133 rfl rfl (Nat.le_of_ble_eq_true rfl) rfl ?_
  intro a hE
  have hM := M.start w0
  unfold F_impl_Places_move at hF
  refine c_region ?_
  refine s_box (cs := Flat.enc p0) hE hM goes_none (by decide) rfl rfl ?_; intro b1 w a hM hE
  refine s_box (cs := Flat.enc p1) hE hM goes_none (by decide) rfl rfl ?_; intro b3 w a hM hE
  refine s_alloc hE hM goes_none (by decide) ty39 ?_; intro b5 w a hM hE
  refine c_fin ?_
  refine c_region ?_
  refine s_buildA (parts := []) (vs := []) (cs := Flat.enc (Vector.replicate 16 (0 : UInt8))) hE goes_none (by decide) rfl rfl ty39 rfl ty5 filla_nil ?_; intro a hE
  refine s_alloc hE hM goes_none (by decide) ty39 ?_; intro b7 w a hM hE
  refine s_store (seg := Flat.enc (Vector.replicate 16 (0 : UInt8))) (cs' := Flat.enc (Vector.replicate 16 (0 : UInt8))) hE hM goes_none rfl rfl rfl ty39 (Flat.len _) (Nat.le_of_eq ((Nat.zero_add _).trans (Eq.trans (Flat.len _) (Eq.symm (Flat.len _))))) (Flat.cell _) (splice_all (Eq.trans (Flat.len _) (Eq.symm (Flat.len _)))) ?_; intro w a hM hE
  refine c_fin ?_
  refine wp_seq ?_
  refine c_region ?_
  refine s_loadA (cs := Flat.enc p0) hE goes_none (by decide) rfl ty101 rfl (hM.rawAt (pre := [_, _, _])) (Flat.len _) ?_; intro a hE
  refine s_move hE goes_none (by decide) rfl ?_; intro a hE
  refine c_fin ?_
  obtain ⟨j9, hl10, hF11⟩ := bind_some hF
  refine c_cut (fun a w => Env 21 a [(4, (ptr b5 0)), (5, (ptr b7 0))] ∧ M (Old w0) w0 w [raw b7 (Flat.enc j9), raw b5 (Flat.enc (Vector.replicate 16 (0 : UInt8)))]) ?_ ?_
  · skip
    refine wp_block ?_
    have hM := hM.pull (pre := [_, _])
    have hM := hM.pull (pre := [_, _])
    have hM := hM.pull (pre := [_, _])
    have hM := M.fst (l := [_, _, _]) hM
    refine c_loop (fun (s12 : (Vector UInt8 16) × Int) a w => Env 21 a [(3, (ptr b3 0)), (4, (ptr b5 0)), (5, (ptr b7 0)), (9, (Value.agg (Flat.enc p0).toArray)), (10, (vI s12.2))] ∧ M (Old w0) w0 w [raw b7 (Flat.enc s12.1), raw b5 (Flat.enc (Vector.replicate 16 (0 : UInt8))), raw b3 (Flat.enc p1)]) hl10 ⟨hE.sub ⟨rfl, rfl, rfl, rfl, rfl, trivial⟩, hM⟩ ?_
    rintro s12 a w ⟨hE, hM⟩ o15 hs13 hx14
    unfold L0_impl_Places_move at hs13
    refine c_region ?_
    refine s_int hE goes_none (by decide) rfl rfl rfl ?_; intro a hE
    refine c_fin ?_
    refine wp_seq ?_
    refine c_cond hE rfl ?_ ?_
    · intro hb16
      have hs13 := ite_t hs13 hb16
      refine wp_skip ?_
      refine c_nx ?_
      refine wp_seq ?_
      refine wp_block ?_
      refine c_region ?_
      refine s_move hE goes_none (by decide) rfl ?_; intro a hE
      obtain ⟨x17, e18, hs13⟩ := bind_some hs13
      have hi19 := vidx_some e18
      refine s_indexV hE goes_none (by decide) rfl rfl Try.underlying101 ty5 rfl rfl hi19 rfl ?_; intro a hE
      refine s_assign hE goes_none (by decide) rfl ?_; intro a hE
      refine s_assign hE goes_none (by decide) rfl ?_; intro a hE
      refine c_fin ?_
      refine wp_region_lit ?_
      refine s_move hE goes_none (by decide) rfl ?_; intro a hE
      refine s_move hE goes_none (by decide) rfl ?_; intro a hE
      obtain ⟨x21, e22, hs13⟩ := bind_some hs13
      have hi20 := vidx_some e22
      refine s_indexA hE goes_none (by decide) rfl rfl Try.underlying39 ty5 hi20.1 ?_; intro a hE
      refine s_load (v := (vB x21)) hE goes_none (by decide) rfl ty5 rfl (At.vec (hM.rawAt (pre := [_, _])) hi20.2) ?_; intro a hE
      obtain ⟨x24, e25, hs13⟩ := bind_some hs13
      have hi23 := vidx_some e25
      refine s_indexA hE goes_none (by decide) rfl rfl Try.underlying39 ty5 hi23.1 ?_; intro a hE
      refine s_store (seg := [(vB x21)]) (cs' := Flat.enc (s12.1.setIfInBounds (s12.2).toNat x21)) hE hM goes_none rfl rfl rfl ty5 rfl (fit_vec (v := s12.1) (x := x21) hi23.1) (Flat.cell (x21 : UInt8)) (splice_vec0 (v := s12.1) (x := x21) hi23.1) ?_; intro w a hM hE
      refine c_fin0 ?_
      refine c_nb ?_
      refine c_nx ?_
      refine wp_region_lit ?_
      refine s_int hE goes_none (by decide) rfl rfl rfl ?_; intro a hE
      refine s_move hE goes_none (by decide) rfl ?_; intro a hE
      refine c_fin0 ?_
      refine c_mid ?_
      exact ⟨_, (Option.some.inj hs13).symm, hE.sub ⟨rfl, rfl, rfl, rfl, rfl, trivial⟩, hM⟩
    · intro hb16
      have hs13 := ite_f hs13 hb16
      refine wp_exit (e_then (e_then (e_eq ?_)))
      have ht26 := hx14 _ (Option.some.inj hs13).symm
      subst ht26
      refine c_mid ?_
      have hM := hM.pull (pre := [_])
      have hM := hM.pull (pre := [_])
      have hM := M.fst (l := [_, _]) hM
      exact ⟨hE.sub ⟨rfl, rfl, trivial⟩, hM⟩
  · skip
    rintro a w ⟨hE, hM⟩
    refine c_nx ?_
    refine c_region ?_
    refine s_loadA (cs := Flat.enc j9) hE goes_none (by decide) rfl ty39 rfl (hM.rawAt (pre := [])) (Flat.len _) ?_; intro a hE
    have hM := hM.pull (pre := [_])
    refine s_store (seg := Flat.enc j9) (cs' := Flat.enc j9) hE hM goes_none rfl rfl rfl ty39 (Flat.len _) (Nat.le_of_eq ((Nat.zero_add _).trans (Eq.trans (Flat.len _) (Eq.symm (Flat.len _))))) (Flat.cell _) (splice_all (Eq.trans (Flat.len _) (Eq.symm (Flat.len _)))) ?_; intro w a hM hE
    refine c_fin ?_
    have hr := Option.some.inj hF11
    subst hr
    have hq27 : ResIs Try.prog _ _ (.cell 4 39) _ := res_cell hE rfl ty39 rfl (hM.rawAt (pre := [])) (Flat.len _) rfl
    have hM := M.fst (l := []) hM
    exact wp_ret (k_ret1 hE rfl hq27 ⟨_, rfl, rfl, hM.kept⟩)
noncomputable def L1_impl_mixer_mix (p0 : (Ref (Vector (Vector (Vector UInt8 256) 4) 4))) (s4 : (Vector UInt8 16) × Int) (j9 : UInt8 × UInt8 × UInt8 × UInt8) (s29 : (Vector UInt8 16) × Int) : Option (Fl ((Vector UInt8 16) × Int) (Vector UInt8 16)) :=
  if (decide (s29.2 < 4)) = true then ((vidx p0.v s29.2).bind fun (x42 : (Vector (Vector UInt8 256) 4)) => (vidx x42 (0 : Int)).bind fun (x45 : (Vector UInt8 256)) => (vidx x45 (bI j9.1)).bind fun (x48 : UInt8) => (vidx p0.v s29.2).bind fun (x57 : (Vector (Vector UInt8 256) 4)) => (vidx x57 (1 : Int)).bind fun (x60 : (Vector UInt8 256)) => (vidx x60 (bI j9.2.1)).bind fun (x63 : UInt8) => (vidx p0.v s29.2).bind fun (x72 : (Vector (Vector UInt8 256) 4)) => (vidx x72 (2 : Int)).bind fun (x75 : (Vector UInt8 256)) => (vidx x75 (bI j9.2.2.1)).bind fun (x78 : UInt8) => (vidx p0.v s29.2).bind fun (x87 : (Vector (Vector UInt8 256) 4)) => (vidx x87 (3 : Int)).bind fun (x90 : (Vector UInt8 256)) => (vidx x90 (bI j9.2.2.2)).bind fun (x93 : UInt8) => (vidx s29.1 (wr (s4.2 + s29.2))).bind fun (x95 : UInt8) => some (Fl.nx ((s29.1.setIfInBounds ((wr (s4.2 + s29.2))).toNat (((x48 ^^^ x63) ^^^ x78) ^^^ x93)), wr (s29.2 + 1)))) else (some (Fl.ex s29.1))
noncomputable def L0_impl_mixer_mix (p0 : (Ref (Vector (Vector (Vector UInt8 256) 4) 4))) (s4 : (Vector UInt8 16) × Int) : Option (Fl ((Vector UInt8 16) × Int) (Vector UInt8 16)) :=
  if (decide (s4.2 < (s4.1.toList.length : Int))) = true then (((vidx s4.1 s4.2).bind fun (x13 : UInt8) => (vidx s4.1 (wr (s4.2 + 1))).bind fun (x16 : UInt8) => (vidx s4.1 (wr (s4.2 + 2))).bind fun (x19 : UInt8) => (vidx s4.1 (wr (s4.2 + 3))).bind fun (x22 : UInt8) => some (x13, x16, x19, x22) : Option (UInt8 × UInt8 × UInt8 × UInt8)).bind fun (j9 : UInt8 × UInt8 × UInt8 × UInt8) => (iter (L1_impl_mixer_mix p0 s4 j9) (s4.1, 0) : Option ((Vector UInt8 16))).bind fun (j26 : (Vector UInt8 16)) => some (Fl.nx (j26, wr (s4.2 + 4)))) else (some (Fl.ex s4.1))
noncomputable def F_impl_mixer_mix (p0 : (Ref (Vector (Vector (Vector UInt8 256) 4) 4))) (p1 : (Vector UInt8 16)) : Option ((Vector UInt8 16)) :=
  (iter (L0_impl_mixer_mix p0) (p1, 0) : Option ((Vector UInt8 16))).bind fun (j1 : (Vector UInt8 16)) => some j1
end Go.Proofs.Ytifdeoikcebbjaa
