/- The walk of what the law reaches: contracts of functions. -/
import Derived.Test.YtbonmndobipbnaaC2
set_option linter.unusedVariables false
set_option linter.unusedSimpArgs false
namespace Go.Proofs.Ytbonmndobipbnaa
open Go
set_option maxRecDepth 20000 in
set_option maxHeartbeats 400000 in
theorem c_laws_heldInt64S (w0 : World) (p0 : (List Int)) (v0_1 : Value) (hv0_1 : Ro w0 p0 [v0_1]) (p1 : Int) (r : Int) (hF : F_laws_heldInt64S p0 p1 = some r) :
    Calls Try.prog 46 [v0_1, (vI p1)].toArray w0 (fun en w' => ∃ v, en = .returned v ∧ (v = (vI r) ∧ Kept (Old w0) w0 w')) := by
  refine c_enter (n := 21) Try.func46 rfl rfl (Nat.le_of_ble_eq_true rfl) rfl ?_
  intro a hE
  have hM := M.start w0
  unfold F_laws_heldInt64S at hF
  refine c_region ?_
  refine s_assign hE goes_none (by decide) rfl ?_; intro a hE
  refine c_fin ?_
  refine wp_seq ?_
  refine c_region ?_
  refine s_assign hE goes_none (by decide) rfl ?_; intro a hE
  refine c_fin ?_
  obtain ⟨j1, hl2, hF3⟩ := bind_some hF
  refine c_cut (fun a w => ∃ s4 : Int, j1 = Fl.nx s4 ∧ Env 21 a [(1, (vI s4))] ∧ M (Old w0) w0 w []) ?_ ?_
  · skip
    refine wp_block ?_
    refine c_loop (fun (s5 : Int × Int) a w => Env 21 a [(0, v0_1), (1, (vI s5.1)), (5, (vI s5.2))] ∧ M (Old w0) w0 w []) hl2 ⟨hE.sub ⟨rfl, rfl, rfl, trivial⟩, hM⟩ ?_
    rintro s5 a w ⟨hE, hM⟩ o8 hs6 hx7
    unfold L0_laws_heldInt64S at hs6
    refine wp_seq ?_
    refine c_region ?_
    refine s_move hE goes_none (by decide) rfl ?_; intro a hE
    refine s_move hE goes_none (by decide) rfl ?_; intro a hE
    refine s_len hE goes_none (by decide) rfl Try.underlying66 (hM.rd hv0_1) ?_; intro a hE
    refine s_int hE goes_none (by decide) rfl rfl rfl ?_; intro a hE
    refine c_fin ?_
    refine c_cond hE rfl ?_ ?_
    · intro hb9
      have hs6 := ite_t hs6 hb9
      refine wp_skip ?_
      refine c_nx ?_
      refine wp_seq ?_
      refine wp_block ?_
      refine wp_seq ?_
      refine c_region ?_
      refine s_move hE goes_none (by decide) rfl ?_; intro a hE
      refine s_move hE goes_none (by decide) rfl ?_; intro a hE
      obtain ⟨x10, e11, hs6⟩ := bind_some hs6
      have hi12 := idx_some e11
      refine s_indexS hE goes_none (by decide) rfl rfl Try.underlying66 ty2 (hM.rd hv0_1) hi12.1 ?_; intro a hE
      refine s_load (v := (vI x10)) hE goes_none (by decide) rfl ty2 rfl (sl_atF (hM.rd hv0_1) hi12.2) ?_; intro a hE
      refine s_move hE goes_none (by decide) rfl ?_; intro a hE
      refine s_int hE goes_none (by decide) rfl rfl rfl ?_; intro a hE
      refine c_fin ?_
      refine c_cond hE rfl ?_ ?_
      · intro hb13
        have hs6 := ite_t hs6 hb13
        refine c_region ?_
        refine s_assign hE goes_none (by decide) rfl ?_; intro a hE
        refine c_fin ?_
        have ht14 := hx7 _ (Option.some.inj hs6).symm
        subst ht14
        have hr := Option.some.inj hF3
        subst hr
        exact wp_ret (r_then (r_inb (r_then (r_then (r_inb (r_then (r_then (k_ret1 hE rfl (res_tmp hE rfl) ⟨_, rfl, rfl, hM.kept⟩))))))))
      · intro hb13
        have hs6 := ite_f hs6 hb13
        refine wp_skip ?_
        refine c_nx ?_
        refine wp_region_lit ?_
        refine s_move hE goes_none (by decide) rfl ?_; intro a hE
        refine s_int hE goes_none (by decide) rfl rfl rfl ?_; intro a hE
        refine s_assign hE goes_none (by decide) rfl ?_; intro a hE
        refine c_fin0 ?_
        refine c_nb ?_
        refine c_nx ?_
        refine wp_region_lit ?_
        refine s_move hE goes_none (by decide) rfl ?_; intro a hE
        refine s_int hE goes_none (by decide) rfl rfl rfl ?_; intro a hE
        refine s_assign hE goes_none (by decide) rfl ?_; intro a hE
        refine c_fin0 ?_
        refine c_mid ?_
        exact ⟨_, (Option.some.inj hs6).symm, hE.sub ⟨rfl, rfl, rfl, trivial⟩, hM⟩
    · intro hb9
      have hs6 := ite_f hs6 hb9
      refine wp_exit (e_then (e_then (e_eq ?_)))
      have ht15 := hx7 _ (Option.some.inj hs6).symm
      subst ht15
      refine c_mid ?_
      exact ⟨s5.1, rfl, hE.sub ⟨rfl, trivial⟩, hM⟩
  · skip
    rintro a w ⟨s4, ht, hE, hM⟩
    subst ht
    refine c_nx ?_
    refine c_region ?_
    refine s_move hE goes_none (by decide) rfl ?_; intro a hE
    refine s_assign hE goes_none (by decide) rfl ?_; intro a hE
    refine c_fin ?_
    have hr := Option.some.inj hF3
    subst hr
    exact wp_ret (k_ret1 hE rfl (res_tmp hE rfl) ⟨_, rfl, rfl, hM.kept⟩)
noncomputable def F_laws_FnExactNumbersOfLabel (p0 : GVault) (p1 : (List UInt8)) : Option (Bool) :=
  if (decide ((p1.length : Int) > 1048576)) = true then (some true) else ((F_laws_szVault p0 1048576).bind fun (r4 : Int) => if (decide (r4 < 0)) = true then (some true) else ((F_laws_toVault p0).bind fun (r7 : GVault) => (F_laws_toByteS p1).bind fun (r12 : (List UInt8)) => (F_spec_NumbersOfLabel r7 r12).bind fun (r15 : (List Int) × Int) => (F_laws_toVault p0).bind fun (r18 : GVault) => (F_laws_toByteS p1).bind fun (r25 : (List UInt8)) => (F_impl_NumbersOfLabel r18 r25).bind fun (r28 : (List Int) × Int) => ((F_laws_eqInt64S r28.1 r15.1).bind fun (r34 : Bool) => if (!r34) = true then (some true) else (some (r28.2 != r15.2)) : Option (Bool)).bind fun (j31 : Bool) => if j31 = true then (some false) else (((F_laws_toVault p0).bind fun (r44 : GVault) => (F_laws_eqVault r18 r44).bind fun (r53 : Bool) => some (!r53) : Option (Bool)).bind fun (j40 : Bool) => if j40 = true then (some false) else ((F_laws_toByteS p1).bind fun (r57 : (List UInt8)) => (F_laws_eqByteS r25 r57).bind fun (r60 : Bool) => if (!r60) = true then (some false) else ((F_laws_markVault r18 1).bind fun (r63 : GVault × Int) => (F_laws_markByteS r25 r63.2).bind fun (r65 : (List UInt8) × Int) => (if (decide (r65.2 < 0)) = true then (some true) else ((F_laws_eqInt64S r28.1 r15.1).bind fun (r72 : Bool) => if (!r72) = true then (some true) else (some (r28.2 != r15.2))) : Option (Bool)).bind fun (j67 : Bool) => if j67 = true then (some false) else ((F_laws_markInt64S r28.1 1).bind fun (r78 : (List Int) × Int) => (F_laws_heldInt64S r78.1 1).bind fun (r80 : Int) => if (decide (r80 < 0)) = true then (some false) else (if (r80 != r78.2) = true then (some false) else ((F_laws_toVault p0).bind fun (r84 : GVault) => (F_laws_toByteS p1).bind fun (r89 : (List UInt8)) => (F_impl_NumbersOfLabel r84 r89).bind fun (r92 : (List Int) × Int) => ((F_laws_eqInt64S r92.1 r15.1).bind fun (r98 : Bool) => if (!r98) = true then (some true) else (some (r92.2 != r15.2)) : Option (Bool)).bind fun (j95 : Bool) => if j95 = true then (some false) else ((F_laws_heldInt64S r78.1 1).bind fun (r104 : Int) => if (decide (r104 < 0)) = true then (some false) else (if (r104 != r78.2) = true then (some false) else (some true)))))))))))
set_option maxRecDepth 20000 in
set_option maxHeartbeats 400000 in
theorem c_laws_FnExactNumbersOfLabel (w0 : World) (p0 : GVault) (v0_1 : Value) (hv0_1 : Ro w0 p0.Keys [v0_1]) (v0_2 : Value) (hv0_2 : Ro w0 p0.Records [v0_2]) (v0_3 : Value) (hv0_3 : Ro w0 p0.Events [v0_3]) (p1 : (List UInt8)) (v1_1 : Value) (hv1_1 : Ro w0 p1 [v1_1]) (r : Bool) (hF : F_laws_FnExactNumbersOfLabel p0 p1 = some r) :
    Calls Try.prog 12 [(Value.agg (cat [[v0_1], [(vI p0.Next)], [v0_2], [v0_3], Flat.enc p0.Head]).toArray), v1_1].toArray w0 (fun en w' => ∃ v, en = .returned v ∧ (v = (vT r) ∧ Kept (Old w0) w0 w')) := by
  refine c_enter (n := 117) Try.func12 rfl rfl (Nat.le_of_ble_eq_true rfl) rfl ?_
  intro a hE
  have hM := M.start w0
  unfold F_laws_FnExactNumbersOfLabel at hF
  refine c_region ?_
  refine s_box (cs := cat [[v0_1], [(vI p0.Next)], [v0_2], [v0_3], Flat.enc p0.Head]) hE hM goes_none (by decide) rfl rfl ?_; intro b1 w a hM hE
  refine s_assign hE goes_none (by decide) rfl ?_; intro a hE
  refine c_fin ?_
  refine wp_seq ?_
  refine c_region ?_
  refine s_move hE goes_none (by decide) rfl ?_; intro a hE
  refine s_len hE goes_none (by decide) rfl Try.underlying29 (hM.rd hv1_1) ?_; intro a hE
  refine s_int hE goes_none (by decide) rfl rfl rfl ?_; intro a hE
  refine c_fin ?_
  refine c_cond hE rfl ?_ ?_
  · intro hb3
    have hF := ite_t hF hb3
    refine c_region ?_
    refine s_assign hE goes_none (by decide) rfl ?_; intro a hE
    refine c_fin ?_
    have hr := Option.some.inj hF
    subst hr
    have hM := M.fst (l := []) hM
    exact wp_ret (r_then (k_ret1 hE rfl (res_tmp hE rfl) ⟨_, rfl, rfl, hM.kept⟩))
  · intro hb3
    have hF := ite_f hF hb3
    refine wp_skip ?_
    refine c_nx ?_
    refine c_region ?_
    refine s_assign hE goes_none (by decide) rfl ?_; intro a hE
    refine c_fin ?_
    refine c_region ?_
    refine s_loadA (cs := cat [[v0_1], [(vI p0.Next)], [v0_2], [v0_3], Flat.enc p0.Head]) hE goes_none (by decide) rfl ty41 rfl (hM.rawAt (pre := [])) (cat_len (cl1 (n := 1) (m := 35) rfl (cl1 (n := 1) (m := 34) rfl (cl1 (n := 1) (m := 33) rfl (cl1 (n := 1) (m := 32) rfl (cl1 (n := 32) (m := 0) (Flat.len _) cl0)))))) ?_; intro a hE
    refine s_move hE goes_none (by decide) rfl ?_; intro a hE
    obtain ⟨r4, e5, hF⟩ := bind_some hF
    refine s_call (vs := [(Value.agg (cat [[v0_1], [(vI p0.Next)], [v0_2], [v0_3], Flat.enc p0.Head]).toArray), (vI 1048576)]) hE goes_none (by decide) rfl cb24 (c_laws_szVault _ p0 v0_1 (hM.rdo hv0_1) v0_2 (hM.rdo hv0_2) v0_3 (hM.rdo hv0_3) 1048576 r4 e5) ?_
    rintro v w a ⟨rfl, hK⟩ hE
    have hM := hM.keep hK
    refine s_assign hE goes_none (by decide) rfl ?_; intro a hE
    refine c_fin ?_
    refine wp_seq ?_
    refine c_region ?_
    refine s_move hE goes_none (by decide) rfl ?_; intro a hE
    refine s_int hE goes_none (by decide) rfl rfl rfl ?_; intro a hE
    refine c_fin ?_
    refine c_cond hE rfl ?_ ?_
    · intro hb6
      have hF := ite_t hF hb6
      refine c_region ?_
      refine s_assign hE goes_none (by decide) rfl ?_; intro a hE
      refine c_fin ?_
      have hr := Option.some.inj hF
      subst hr
      have hM := M.fst (l := []) hM
      exact wp_ret (r_then (k_ret1 hE rfl (res_tmp hE rfl) ⟨_, rfl, rfl, hM.kept⟩))
    · intro hb6
      have hF := ite_f hF hb6
      refine wp_skip ?_
      refine c_nx ?_
      refine c_region ?_
      refine s_loadA (cs := cat [[v0_1], [(vI p0.Next)], [v0_2], [v0_3], Flat.enc p0.Head]) hE goes_none (by decide) rfl ty41 rfl (hM.rawAt (pre := [])) (cat_len (cl1 (n := 1) (m := 35) rfl (cl1 (n := 1) (m := 34) rfl (cl1 (n := 1) (m := 33) rfl (cl1 (n := 1) (m := 32) rfl (cl1 (n := 32) (m := 0) (Flat.len _) cl0)))))) ?_; intro a hE
      obtain ⟨r7, e8, hF⟩ := bind_some hF
      refine s_call (vs := [(Value.agg (cat [[v0_1], [(vI p0.Next)], [v0_2], [v0_3], Flat.enc p0.Head]).toArray)]) hE goes_none (by decide) rfl cb26 (c_laws_toVault _ p0 v0_1 (hM.rdo hv0_1) v0_2 (hM.rdo hv0_2) v0_3 (hM.rdo hv0_3) r7 e8) ?_
      rintro v w a ⟨u9, u10, u11, rfl, hFr, hK⟩ hE
      have hM := hM.add hK hFr
      refine s_move hE goes_none (by decide) rfl ?_; intro a hE
      obtain ⟨r12, e13, hF⟩ := bind_some hF
      refine s_call (vs := [v1_1]) hE goes_none (by decide) rfl cb19 (c_laws_toByteS _ p1 v1_1 (hM.rdo hv1_1) r12 e13) ?_
      rintro u14 w a ⟨_, rfl, hFr, hK⟩ hE
      have hM := hM.add hK hFr
      obtain ⟨r15, e16, hF⟩ := bind_some hF
      refine s_call (vs := [(Value.agg (cat [[u9], [(vI r7.Next)], [u10], [u11], Flat.enc r7.Head]).toArray), u14]) hE goes_none (by decide) rfl cb51 (c_spec_NumbersOfLabel _ r7 u9 (hM.sl (pre := [_]) noB) u10 (hM.sl (pre := [_, _]) noB) u11 (hM.sl (pre := [_, _, _]) noB) r12 u14 (hM.sl (pre := []) noB) r15 e16) ?_
      rintro v w a ⟨u17, rfl, hFr, hK⟩ hE
      have hM := hM.add hK hFr
      refine s_move hE goes_none (by decide) rfl ?_; intro a hE
      refine s_extract hE goes_none (by decide) rfl rfl ?_; intro a hE
      refine s_extract hE goes_none (by decide) rfl rfl ?_; intro a hE
      refine s_assign hE goes_none (by decide) rfl ?_; intro a hE
      refine s_assign hE goes_none (by decide) rfl ?_; intro a hE
      refine c_fin ?_
      refine c_region ?_
      refine s_loadA (cs := cat [[v0_1], [(vI p0.Next)], [v0_2], [v0_3], Flat.enc p0.Head]) hE goes_none (by decide) rfl ty41 rfl (hM.rawAt (pre := [_, _, _, _, _])) (cat_len (cl1 (n := 1) (m := 35) rfl (cl1 (n := 1) (m := 34) rfl (cl1 (n := 1) (m := 33) rfl (cl1 (n := 1) (m := 32) rfl (cl1 (n := 32) (m := 0) (Flat.len _) cl0)))))) ?_; intro a hE
      obtain ⟨r18, e19, hF⟩ := bind_some hF
      refine s_call (vs := [(Value.agg (cat [[v0_1], [(vI p0.Next)], [v0_2], [v0_3], Flat.enc p0.Head]).toArray)]) hE goes_none (by decide) rfl cb26 (c_laws_toVault _ p0 v0_1 (hM.rdo hv0_1) v0_2 (hM.rdo hv0_2) v0_3 (hM.rdo hv0_3) r18 e19) ?_
      rintro v w a ⟨u20, u21, u22, rfl, hFr, hK⟩ hE
      have hM := hM.add hK hFr
      refine s_alloc hE hM goes_none (by decide) ty49 ?_; intro b23 w a hM hE
      refine s_store (seg := cat [[u20], [(vI r18.Next)], [u21], [u22], Flat.enc r18.Head]) (cs' := cat [[u20], [(vI r18.Next)], [u21], [u22], Flat.enc r18.Head]) hE hM goes_none rfl rfl rfl ty49 (cat_len (cl1 (n := 1) (m := 35) rfl (cl1 (n := 1) (m := 34) rfl (cl1 (n := 1) (m := 33) rfl (cl1 (n := 1) (m := 32) rfl (cl1 (n := 32) (m := 0) (Flat.len _) cl0)))))) (Nat.le_of_eq (by rw [Nat.zero_add]; exact (Eq.trans (cat_len (cl1 (n := 1) (m := 35) rfl (cl1 (n := 1) (m := 34) rfl (cl1 (n := 1) (m := 33) rfl (cl1 (n := 1) (m := 32) rfl (cl1 (n := 32) (m := 0) (Flat.len _) cl0)))))) (Eq.symm (cat_len (cl1 (n := 1) (m := 35) rfl (cl1 (n := 1) (m := 34) rfl (cl1 (n := 1) (m := 33) rfl (cl1 (n := 1) (m := 32) rfl (cl1 (n := 32) (m := 0) (Flat.len _) cl0)))))))))) (cat_cell (cc1 (Rep.cell (hM.sl (pre := [_]) noB)) (cc1 (Flat.cell r18.Next) (cc1 (Rep.cell (hM.sl (pre := [_, _]) noB)) (cc1 (Rep.cell (hM.sl (pre := [_, _, _]) noB)) (cc1 (Flat.cell _) cc0)))))) (splice_all (Eq.trans (cat_len (cl1 (n := 1) (m := 35) rfl (cl1 (n := 1) (m := 34) rfl (cl1 (n := 1) (m := 33) rfl (cl1 (n := 1) (m := 32) rfl (cl1 (n := 32) (m := 0) (Flat.len _) cl0)))))) (Eq.symm (cat_len (cl1 (n := 1) (m := 35) rfl (cl1 (n := 1) (m := 34) rfl (cl1 (n := 1) (m := 33) rfl (cl1 (n := 1) (m := 32) rfl (cl1 (n := 32) (m := 0) (Flat.len _) cl0))))))))) ?_; intro w a hM hE
      refine c_fin ?_
      refine c_region ?_
      refine s_move hE goes_none (by decide) rfl ?_; intro a hE
      obtain ⟨r25, e26, hF⟩ := bind_some hF
      refine s_call (vs := [v1_1]) hE goes_none (by decide) rfl cb19 (c_laws_toByteS _ p1 v1_1 (hM.rdo hv1_1) r25 e26) ?_
      rintro u27 w a ⟨_, rfl, hFr, hK⟩ hE
      have hM := hM.add hK hFr
      refine s_assign hE goes_none (by decide) rfl ?_; intro a hE
      refine c_fin ?_
      refine c_region ?_
      refine s_loadA (cs := cat [[u20], [(vI r18.Next)], [u21], [u22], Flat.enc r18.Head]) hE goes_none (by decide) rfl ty49 rfl (hM.rawAt (pre := [_])) (cat_len (cl1 (n := 1) (m := 35) rfl (cl1 (n := 1) (m := 34) rfl (cl1 (n := 1) (m := 33) rfl (cl1 (n := 1) (m := 32) rfl (cl1 (n := 32) (m := 0) (Flat.len _) cl0)))))) ?_; intro a hE
      refine s_move hE goes_none (by decide) rfl ?_; intro a hE
      obtain ⟨r28, e29, hF⟩ := bind_some hF
      refine s_call (vs := [(Value.agg (cat [[u20], [(vI r18.Next)], [u21], [u22], Flat.enc r18.Head]).toArray), u27]) hE goes_none (by decide) rfl cb52 (c_impl_NumbersOfLabel _ r18 u20 (hM.sl (pre := [_, _]) noB) u21 (hM.sl (pre := [_, _, _]) noB) u22 (hM.sl (pre := [_, _, _, _]) noB) r25 u27 (hM.sl (pre := []) noB) r28 e29) ?_
      rintro v w a ⟨u30, rfl, hFr, hK⟩ hE
      have hM := hM.add hK hFr
      refine s_move hE goes_none (by decide) rfl ?_; intro a hE
      refine s_extract hE goes_none (by decide) rfl rfl ?_; intro a hE
      refine s_extract hE goes_none (by decide) rfl rfl ?_; intro a hE
      refine s_assign hE goes_none (by decide) rfl ?_; intro a hE
      refine s_assign hE goes_none (by decide) rfl ?_; intro a hE
      refine c_fin ?_
      refine wp_seq ?_
      obtain ⟨j31, hl32, hF33⟩ := bind_some hF
      refine c_join (fun a w => Env 117 a [(1, v1_1), (2, (ptr b1 0)), (6, u17), (7, (vI r15.2)), (8, (ptr b23 0)), (9, u27), (10, u30), (11, (vI r28.2)), (51, (vT j31))] ∧ M (Old w0) w0 w [osl NoB (r28.1 : List Int) u30, osl NoB (r25 : List UInt8) u27, raw b23 (cat [[u20], [(vI r18.Next)], [u21], [u22], Flat.enc r18.Head]), osl NoB (r18.Keys : List (Vector UInt8 16)) u20, osl NoB (r18.Records : List GRecord) u21, osl NoB (r18.Events : List GEvent) u22, osl NoB (r15.1 : List Int) u17, raw b1 (cat [[v0_1], [(vI p0.Next)], [v0_2], [v0_3], Flat.enc p0.Head])]) ?_ ?_
      · skip
        refine wp_region_lit ?_
        refine s_move hE goes_none (by decide) rfl ?_; intro a hE
        refine s_move hE goes_none (by decide) rfl ?_; intro a hE
        obtain ⟨r34, e35, hl32⟩ := bind_some hl32
        refine s_call (vs := [u30, u17]) hE goes_none (by decide) rfl cb43 (c_laws_eqInt64S _ r28.1 u30 (hM.sl (pre := []) noB) r15.1 u17 (hM.sl (pre := [_, _, _, _, _, _]) noB) r34 e35) ?_
        rintro v w a ⟨rfl, hK⟩ hE
        have hM := hM.keep hK
        refine s_not hE goes_none (by decide) rfl ?_; intro a hE
        refine s_move hE goes_none (by decide) rfl ?_; intro a hE
        refine splitB (!r34) (fun hb36 => ?_) (fun hb36 => ?_)
        · have hl32 := ite_t hl32 hb36
          refine s_skip hE rfl (lkb rfl hb36) rfl (by decide) ?_; intro a hE
          refine s_skip hE rfl (lkb rfl hb36) rfl (by decide) ?_; intro a hE
          refine s_skip hE rfl (lkb rfl hb36) rfl (by decide) ?_; intro a hE
          refine s_pickT hE goes_none (by decide) (lkb rfl hb36) rfl ?_; intro a hE
          refine c_fin0 ?_
          have ht37 := Option.some.inj hl32
          subst ht37
          refine c_mid ?_
          have hM := hM.pull (pre := [_, _, _, _, _, _, _, _, _, _, _])
          have hM := hM.pull (pre := [_, _, _, _, _, _, _])
          have hM := hM.pull (pre := [_, _, _, _, _, _, _])
          have hM := hM.pull (pre := [_, _, _, _, _, _, _])
          have hM := hM.pull (pre := [_, _, _, _, _, _, _])
          have hM := hM.pull (pre := [_, _, _, _, _, _, _])
          have hM := hM.pull (pre := [_, _, _, _, _, _, _])
          have hM := hM.pull (pre := [_, _, _, _, _, _, _])
          have hM := M.fst (l := [_, _, _, _, _, _, _, _]) hM
          exact ⟨hE.sub ⟨rfl, rfl, rfl, rfl, rfl, rfl, rfl, rfl, rfl, trivial⟩, hM⟩
        · have hl32 := ite_f hl32 hb36
          refine s_move hE (goes_yes hE rfl (lkb rfl hb36)) (by decide) rfl ?_; intro a hE
          refine s_move hE (goes_yes hE rfl (lkb rfl hb36)) (by decide) rfl ?_; intro a hE
          refine s_int hE (goes_yes hE rfl (lkb rfl hb36)) (by decide) rfl rfl rfl ?_; intro a hE
          refine s_pickF hE goes_none (by decide) (lkb rfl hb36) rfl ?_; intro a hE
          refine c_fin0 ?_
          have ht38 := Option.some.inj hl32
          subst ht38
          refine c_mid ?_
          have hM := hM.pull (pre := [_, _, _, _, _, _, _, _, _, _, _])
          have hM := hM.pull (pre := [_, _, _, _, _, _, _])
          have hM := hM.pull (pre := [_, _, _, _, _, _, _])
          have hM := hM.pull (pre := [_, _, _, _, _, _, _])
          have hM := hM.pull (pre := [_, _, _, _, _, _, _])
          have hM := hM.pull (pre := [_, _, _, _, _, _, _])
          have hM := hM.pull (pre := [_, _, _, _, _, _, _])
          have hM := hM.pull (pre := [_, _, _, _, _, _, _])
          have hM := M.fst (l := [_, _, _, _, _, _, _, _]) hM
          exact ⟨hE.sub ⟨rfl, rfl, rfl, rfl, rfl, rfl, rfl, rfl, rfl, trivial⟩, hM⟩
      · skip
        rintro a w ⟨hE, hM⟩
        refine c_cond hE rfl ?_ ?_
        · intro hb39
          have hF33 := ite_t hF33 hb39
          refine c_region ?_
          refine s_assign hE goes_none (by decide) rfl ?_; intro a hE
          refine c_fin ?_
          have hr := Option.some.inj hF33
          subst hr
          have hM := M.fst (l := []) hM
          exact wp_ret (r_then (k_ret1 hE rfl (res_tmp hE rfl) ⟨_, rfl, rfl, hM.kept⟩))
        · intro hb39
          have hF33 := ite_f hF33 hb39
          refine wp_skip ?_
          refine c_nx ?_
          refine wp_seq ?_
          obtain ⟨j40, hl41, hF42⟩ := bind_some hF33
          refine c_join (fun a w => Env 117 a [(1, v1_1), (2, (ptr b1 0)), (6, u17), (7, (vI r15.2)), (8, (ptr b23 0)), (9, u27), (10, u30), (11, (vI r28.2)), (56, (vT j40))] ∧ M (Old w0) w0 w [osl NoB (r28.1 : List Int) u30, osl NoB (r25 : List UInt8) u27, raw b23 (cat [[u20], [(vI r18.Next)], [u21], [u22], Flat.enc r18.Head]), osl NoB (r18.Keys : List (Vector UInt8 16)) u20, osl NoB (r18.Records : List GRecord) u21, osl NoB (r18.Events : List GEvent) u22, osl NoB (r15.1 : List Int) u17, raw b1 (cat [[v0_1], [(vI p0.Next)], [v0_2], [v0_3], Flat.enc p0.Head])]) ?_ ?_
          · skip
            obtain ⟨r44, e45, hl41⟩ := bind_some hl41
            refine c_draw2 (n := 117) (hd := [_, _, _]) (tl := [_, _]) (its := [osl NoB (r28.1 : List Int) u30, osl NoB (r25 : List UInt8) u27, raw b23 (cat [[u20], [(vI r18.Next)], [u21], [u22], Flat.enc r18.Head]), osl NoB (r18.Keys : List (Vector UInt8 16)) u20, osl NoB (r18.Records : List GRecord) u21, osl NoB (r18.Events : List GEvent) u22, osl NoB (r15.1 : List Int) u17, raw b1 (cat [[v0_1], [(vI p0.Next)], [v0_2], [v0_3], Flat.enc p0.Head])]) hmix rfl rfl [52, 53, 54] (by decide) [(2, fun v => own NoB r44 (Value.cells v).toList)] rfl (fun j => ([fun v => v = (Value.agg (cat [[u20], [(vI r18.Next)], [u21], [u22], Flat.enc r18.Head]).toArray), fun v => v = (Value.agg (cat [[v0_1], [(vI p0.Next)], [v0_2], [v0_3], Flat.enc p0.Head]).toArray), fun v => ∃ cs, v = .agg cs] : List (Value → Prop)).getD j (fun _ => True)) hE hM.drew (steps_of (steps_cons ?_ (steps_cons ?_ (steps_cons ?_ steps_nil)))) ?_
            · intro a w ux43 D hE hM hD hp
              have hM0 := hM
              have hM : M (Old w0) w0 w [osl NoB (r28.1 : List Int) u30, osl NoB (r25 : List UInt8) u27, raw b23 (cat [[u20], [(vI r18.Next)], [u21], [u22], Flat.enc r18.Head]), osl NoB (r18.Keys : List (Vector UInt8 16)) u20, osl NoB (r18.Records : List GRecord) u21, osl NoB (r18.Events : List GEvent) u22, osl NoB (r15.1 : List Int) u17, raw b1 (cat [[v0_1], [(vI p0.Next)], [v0_2], [v0_3], Flat.enc p0.Head]), opt (D 2) (own NoB r44 (Value.cells (ux43 2)).toList)] := hM
              refine s_loadA (cs := cat [[u20], [(vI r18.Next)], [u21], [u22], Flat.enc r18.Head]) hE goes_none (by decide) rfl ty49 rfl (hM.rawAt (pre := [_, _])) (cat_len (cl1 (n := 1) (m := 35) rfl (cl1 (n := 1) (m := 34) rfl (cl1 (n := 1) (m := 33) rfl (cl1 (n := 1) (m := 32) rfl (cl1 (n := 32) (m := 0) (Flat.len _) cl0)))))) ?_; intro a hE
              exact ⟨_, _, rfl, hE, rfl, hM0.optKeep rfl⟩
            · intro a w ux43 D hE hM hD hp
              have hM0 := hM
              have hM : M (Old w0) w0 w [osl NoB (r28.1 : List Int) u30, osl NoB (r25 : List UInt8) u27, raw b23 (cat [[u20], [(vI r18.Next)], [u21], [u22], Flat.enc r18.Head]), osl NoB (r18.Keys : List (Vector UInt8 16)) u20, osl NoB (r18.Records : List GRecord) u21, osl NoB (r18.Events : List GEvent) u22, osl NoB (r15.1 : List Int) u17, raw b1 (cat [[v0_1], [(vI p0.Next)], [v0_2], [v0_3], Flat.enc p0.Head]), opt (D 2) (own NoB r44 (Value.cells (ux43 2)).toList)] := hM
              refine s_loadA (cs := cat [[v0_1], [(vI p0.Next)], [v0_2], [v0_3], Flat.enc p0.Head]) hE goes_none (by decide) rfl ty41 rfl (hM.rawAt (pre := [_, _, _, _, _, _, _])) (cat_len (cl1 (n := 1) (m := 35) rfl (cl1 (n := 1) (m := 34) rfl (cl1 (n := 1) (m := 33) rfl (cl1 (n := 1) (m := 32) rfl (cl1 (n := 32) (m := 0) (Flat.len _) cl0)))))) ?_; intro a hE
              exact ⟨_, _, rfl, hE, rfl, hM0.optKeep rfl⟩
            · intro a w ux43 D hE hM hD hp
              have f1 : ux43 1 = (Value.agg (cat [[v0_1], [(vI p0.Next)], [v0_2], [v0_3], Flat.enc p0.Head]).toArray) := (hp 0 _ rfl rfl).2
              have hM0 := hM
              have hM : M (Old w0) w0 w [osl NoB (r28.1 : List Int) u30, osl NoB (r25 : List UInt8) u27, raw b23 (cat [[u20], [(vI r18.Next)], [u21], [u22], Flat.enc r18.Head]), osl NoB (r18.Keys : List (Vector UInt8 16)) u20, osl NoB (r18.Records : List GRecord) u21, osl NoB (r18.Events : List GEvent) u22, osl NoB (r15.1 : List Int) u17, raw b1 (cat [[v0_1], [(vI p0.Next)], [v0_2], [v0_3], Flat.enc p0.Head]), opt (D 2) (own NoB r44 (Value.cells (ux43 2)).toList)] := hM
              refine s_call (vs := [(Value.agg (cat [[v0_1], [(vI p0.Next)], [v0_2], [v0_3], Flat.enc p0.Head]).toArray)]) hE goes_none (by decide) (evs_of (evsC (lk rfl f1) evsN)) cb26 (c_laws_toVault _ p0 v0_1 (hM.rdo hv0_1) v0_2 (hM.rdo hv0_2) v0_3 (hM.rdo hv0_3) r44 e45) ?_
              rintro _ w a ⟨u46, u47, u48, rfl, hFr, hK⟩ hE
              have hM := hM0.add hK hFr
              have hM := hM.packL (m := [osl NoB (r44.Keys : List (Vector UInt8 16)) u46, osl NoB (r44.Records : List GRecord) u47, osl NoB (r44.Events : List GEvent) u48]) (it := own NoB r44 (cat [[u46], [(vI r44.Next)], [u47], [u48], Flat.enc r44.Head])) (own_loc noB) (fun fp h => by obtain ⟨_, _, rfl, _, s1, _, _, rfl, _, s2, _, _, rfl, _, s3, rfl⟩ := h; exact pk_GVault (OwnSl.sat s1) (OwnSl.sat s2) (OwnSl.sat s3) (by simp))
              exact ⟨_, _, rfl, hE, ⟨_, rfl⟩, M.optFill (mk1 := []) (mk2 := []) (f := (fun v => own NoB r44 (Value.cells v).toList)) hM rfl hD⟩
            · intro a w ux43 hE hM hg
              have f0 : ux43 0 = (Value.agg (cat [[u20], [(vI r18.Next)], [u21], [u22], Flat.enc r18.Head]).toArray) := hg 0 (by decide)
              have f1 : ux43 1 = (Value.agg (cat [[v0_1], [(vI p0.Next)], [v0_2], [v0_3], Flat.enc p0.Head]).toArray) := hg 1 (by decide)
              have hM : M (Old w0) w0 w [osl NoB (r28.1 : List Int) u30, osl NoB (r25 : List UInt8) u27, raw b23 (cat [[u20], [(vI r18.Next)], [u21], [u22], Flat.enc r18.Head]), osl NoB (r18.Keys : List (Vector UInt8 16)) u20, osl NoB (r18.Records : List GRecord) u21, osl NoB (r18.Events : List GEvent) u22, osl NoB (r15.1 : List Int) u17, raw b1 (cat [[v0_1], [(vI p0.Next)], [v0_2], [v0_3], Flat.enc p0.Head]), own NoB r44 (Value.cells (ux43 2)).toList] := hM
              obtain ⟨q2_1, q2_2, q2_3, hcz, hq2_1, hq2_2, hq2_3⟩ := un_GVault (hM.ro (pre := [_, _, _, _, _, _, _, _]) (fun b hb => hb.elim))
              obtain ⟨cz, hvz⟩ := hg 2 (by decide)
              have f2 : ux43 2 = (Value.agg (cat [[q2_1], [(vI r44.Next)], [q2_2], [q2_3], Flat.enc r44.Head]).toArray) := by rw [hvz] at hcz ⊢; exact congrArg Value.agg (toList_eq hcz)
              have hM := hM.pull (pre := [_, _, _, _, _, _, _, _])
              rw [f2] at hM
              have hM := hM.unpackL (m := [own NoB (r44.Keys : (List (Vector UInt8 16))) [q2_1], own NoB (r44.Records : (List GRecord)) [q2_2], own NoB (r44.Events : (List GEvent)) [q2_3]]) (fun fp h => by obtain ⟨_, _, _, rfl, s1, s2, s3⟩ := unc_GVault h; exact (SepR.cons (own_loc noB) s1 (SepR.cons (own_loc noB) s2 (SepR.one (own_loc noB) s3))))
              simp only [List.cons_append, List.nil_append] at hM
              have hE := hE.sub (e' := [(52, (Value.agg (cat [[u20], [(vI r18.Next)], [u21], [u22], Flat.enc r18.Head]).toArray)), (53, (Value.agg (cat [[v0_1], [(vI p0.Next)], [v0_2], [v0_3], Flat.enc p0.Head]).toArray)), (54, (Value.agg (cat [[q2_1], [(vI r44.Next)], [q2_2], [q2_3], Flat.enc r44.Head]).toArray)), (1, v1_1), (2, (ptr b1 0)), (6, u17), (7, (vI r15.2)), (8, (ptr b23 0)), (9, u27), (10, u30), (11, (vI r28.2)), (51, (vT j31))]) ⟨lk rfl f0, lk rfl f1, lk rfl f2, rfl, rfl, rfl, rfl, rfl, rfl, rfl, rfl, rfl, trivial⟩
              obtain ⟨r53, e54, hl41⟩ := bind_some hl41
              refine s_call (vs := [(Value.agg (cat [[u20], [(vI r18.Next)], [u21], [u22], Flat.enc r18.Head]).toArray), (Value.agg (cat [[q2_1], [(vI r44.Next)], [q2_2], [q2_3], Flat.enc r44.Head]).toArray)]) hE goes_none (by decide) rfl cb28 (c_laws_eqVault _ r18 u20 (hM.sl (pre := [_, _, _, _, _, _]) noB) u21 (hM.sl (pre := [_, _, _, _, _, _, _]) noB) u22 (hM.sl (pre := [_, _, _, _, _, _, _, _]) noB) r44 q2_1 (hM.ro (pre := []) (fun b hb => hb.elim)) q2_2 (hM.ro (pre := [_]) (fun b hb => hb.elim)) q2_3 (hM.ro (pre := [_, _]) (fun b hb => hb.elim)) r53 e54) ?_
              rintro v w a ⟨rfl, hK⟩ hE
              have hM := hM.keep hK
              refine s_not hE goes_none (by decide) rfl ?_; intro a hE
              refine c_fin0 ?_
              have ht55 := Option.some.inj hl41
              subst ht55
              refine c_mid ?_
              have hM := hM.pull (pre := [_, _, _, _, _, _, _, _, _, _])
              have hM := hM.pull (pre := [_, _, _, _, _, _, _, _, _, _])
              have hM := hM.pull (pre := [_, _, _, _, _, _, _, _, _, _])
              have hM := hM.pull (pre := [_, _, _, _, _, _, _, _, _, _])
              have hM := hM.pull (pre := [_, _, _, _, _, _, _, _, _, _])
              have hM := hM.pull (pre := [_, _, _, _, _, _, _, _, _, _])
              have hM := hM.pull (pre := [_, _, _, _, _, _, _, _, _, _])
              have hM := hM.pull (pre := [_, _, _, _, _, _, _, _, _, _])
              have hM := M.fst (l := [_, _, _, _, _, _, _, _]) hM
              exact ⟨hE.sub ⟨rfl, rfl, rfl, rfl, rfl, rfl, rfl, rfl, rfl, trivial⟩, hM⟩
          · skip
            rintro a w ⟨hE, hM⟩
            refine c_cond hE rfl ?_ ?_
            · intro hb56
              have hF42 := ite_t hF42 hb56
              refine c_region ?_
              refine s_assign hE goes_none (by decide) rfl ?_; intro a hE
              refine c_fin ?_
              have hr := Option.some.inj hF42
              subst hr
              have hM := M.fst (l := []) hM
              exact wp_ret (r_then (k_ret1 hE rfl (res_tmp hE rfl) ⟨_, rfl, rfl, hM.kept⟩))
            · intro hb56
              have hF42 := ite_f hF42 hb56
              refine wp_skip ?_
              refine c_nx ?_
              refine wp_seq ?_
              refine c_region ?_
              refine s_move hE goes_none (by decide) rfl ?_; intro a hE
              refine s_move hE goes_none (by decide) rfl ?_; intro a hE
              obtain ⟨r57, e58, hF42⟩ := bind_some hF42
              refine s_call (vs := [v1_1]) hE goes_none (by decide) rfl cb19 (c_laws_toByteS _ p1 v1_1 (hM.rdo hv1_1) r57 e58) ?_
              rintro u59 w a ⟨_, rfl, hFr, hK⟩ hE
              have hM := hM.add hK hFr
              obtain ⟨r60, e61, hF42⟩ := bind_some hF42
              refine s_call (vs := [u27, u59]) hE goes_none (by decide) rfl cb21 (c_laws_eqByteS _ r25 u27 (hM.sl (pre := [_, _]) noB) r57 u59 (hM.sl (pre := []) noB) r60 e61) ?_
              rintro v w a ⟨rfl, hK⟩ hE
              have hM := hM.keep hK
              refine s_not hE goes_none (by decide) rfl ?_; intro a hE
              refine c_fin ?_
              refine c_cond hE rfl ?_ ?_
              · intro hb62
                have hF42 := ite_t hF42 hb62
                refine c_region ?_
                refine s_assign hE goes_none (by decide) rfl ?_; intro a hE
                refine c_fin ?_
                have hr := Option.some.inj hF42
                subst hr
                have hM := M.fst (l := []) hM
                exact wp_ret (r_then (k_ret1 hE rfl (res_tmp hE rfl) ⟨_, rfl, rfl, hM.kept⟩))
              · intro hb62
                have hF42 := ite_f hF42 hb62
                refine wp_skip ?_
                refine c_nx ?_
                refine c_region ?_
                refine s_assign hE goes_none (by decide) rfl ?_; intro a hE
                refine c_fin ?_
                refine c_region ?_
                refine s_loadA (cs := cat [[u20], [(vI r18.Next)], [u21], [u22], Flat.enc r18.Head]) hE goes_none (by decide) rfl ty49 rfl (hM.rawAt (pre := [_, _, _])) (cat_len (cl1 (n := 1) (m := 35) rfl (cl1 (n := 1) (m := 34) rfl (cl1 (n := 1) (m := 33) rfl (cl1 (n := 1) (m := 32) rfl (cl1 (n := 32) (m := 0) (Flat.len _) cl0)))))) ?_; intro a hE
                refine s_move hE goes_none (by decide) rfl ?_; intro a hE
                have hM := hM.pull (pre := [_, _, _, _])
                have hM := hM.toOwn noB
                have hM := hM.pull (pre := [_, _, _, _, _])
                have hM := hM.toOwn noB
                have hM := hM.pull (pre := [_, _, _, _, _, _])
                have hM := hM.toOwn noB
                have hM := hM.pull (pre := [_])
                have hM := hM.pull (pre := [_, _])
                obtain ⟨r63, e64, hF42⟩ := bind_some hF42
                refine s_call (vs := [(Value.agg (cat [[u20], [(vI r18.Next)], [u21], [u22], Flat.enc r18.Head]).toArray), (vI 1)]) hE goes_none (by decide) rfl cb44 (c_laws_markVault _ _ _ _ r18 u20 u21 u22 1 hM r63 e64) ?_
                rintro v w a ⟨rfl, hM⟩ hE
                refine s_assign hE goes_none (by decide) rfl ?_; intro a hE
                refine c_fin ?_
                refine c_region ?_
                refine s_move hE goes_none (by decide) rfl ?_; intro a hE
                refine s_move hE goes_none (by decide) rfl ?_; intro a hE
                have hM := hM.pull (pre := [_, _, _, _, _])
                have hM := hM.toOwn noB
                obtain ⟨r65, e66, hF42⟩ := bind_some hF42
                refine s_call (vs := [u27, (vI r63.2)]) hE goes_none (by decide) rfl cb22 (c_laws_markByteS _ _ _ _ r25 u27 r63.2 hM r65 e66) ?_
                rintro v w a ⟨rfl, hM⟩ hE
                refine s_assign hE goes_none (by decide) rfl ?_; intro a hE
                refine c_fin ?_
                refine wp_seq ?_
                obtain ⟨j67, hl68, hF69⟩ := bind_some hF42
                refine c_join (fun a w => Env 117 a [(1, v1_1), (2, (ptr b1 0)), (6, u17), (7, (vI r15.2)), (10, u30), (80, (vT j67))] ∧ M (Old w0) w0 w [osl NoB (r28.1 : List Int) u30, osl NoB (r15.1 : List Int) u17, raw b1 (cat [[v0_1], [(vI p0.Next)], [v0_2], [v0_3], Flat.enc p0.Head])]) ?_ ?_
                · skip
                  refine wp_region_lit ?_
                  refine s_move hE goes_none (by decide) rfl ?_; intro a hE
                  refine s_int hE goes_none (by decide) rfl rfl rfl ?_; intro a hE
                  refine s_move hE goes_none (by decide) rfl ?_; intro a hE
                  refine splitB (decide (r65.2 < 0)) (fun hb70 => ?_) (fun hb70 => ?_)
                  · have hl68 := ite_t hl68 hb70
                    refine s_skip hE rfl (lkb rfl hb70) rfl (by decide) ?_; intro a hE
                    refine s_skip hE rfl (lkb rfl hb70) rfl (by decide) ?_; intro a hE
                    refine s_skip hE rfl (lkb rfl hb70) rfl (by decide) ?_; intro a hE
                    refine s_skip hE rfl (lkb rfl hb70) rfl (by decide) ?_; intro a hE
                    refine s_pickT hE goes_none (by decide) (lkb rfl hb70) rfl ?_; intro a hE
                    refine s_move hE goes_none (by decide) rfl ?_; intro a hE
                    refine s_skip hE rfl rfl rfl (by decide) ?_; intro a hE
                    refine s_skip hE rfl rfl rfl (by decide) ?_; intro a hE
                    refine s_skip hE rfl rfl rfl (by decide) ?_; intro a hE
                    refine s_pickT hE goes_none (by decide) rfl rfl ?_; intro a hE
                    refine c_fin0 ?_
                    have ht71 := Option.some.inj hl68
                    subst ht71
                    refine c_mid ?_
                    have hM := hM.pull (pre := [_, _, _, _, _, _, _, _])
                    have hM := hM.pull (pre := [_, _, _, _, _, _, _, _])
                    have hM := hM.pull (pre := [_, _, _, _, _, _, _])
                    have hM := M.fst (l := [_, _, _]) hM
                    exact ⟨hE.sub ⟨rfl, rfl, rfl, rfl, rfl, rfl, trivial⟩, hM⟩
                  · have hl68 := ite_f hl68 hb70
                    refine s_move hE (goes_yes hE rfl (lkb rfl hb70)) (by decide) rfl ?_; intro a hE
                    refine s_move hE (goes_yes hE rfl (lkb rfl hb70)) (by decide) rfl ?_; intro a hE
                    obtain ⟨r72, e73, hl68⟩ := bind_some hl68
                    refine s_call (vs := [u30, u17]) hE (goes_yes hE rfl (lkb rfl hb70)) (by decide) rfl cb43 (c_laws_eqInt64S _ r28.1 u30 (hM.sl (pre := [_, _, _, _, _]) noB) r15.1 u17 (hM.sl (pre := [_, _, _, _, _, _, _]) noB) r72 e73) ?_
                    rintro v w a ⟨rfl, hK⟩ hE
                    have hM := hM.keep hK
                    refine s_not hE (goes_yes hE rfl (lkb rfl hb70)) (by decide) rfl ?_; intro a hE
                    refine s_pickF hE goes_none (by decide) (lkb rfl hb70) rfl ?_; intro a hE
                    refine s_move hE goes_none (by decide) rfl ?_; intro a hE
                    refine splitB (!r72) (fun hb74 => ?_) (fun hb74 => ?_)
                    · have hl68 := ite_t hl68 hb74
                      refine s_skip hE rfl (lkb rfl hb74) rfl (by decide) ?_; intro a hE
                      refine s_skip hE rfl (lkb rfl hb74) rfl (by decide) ?_; intro a hE
                      refine s_skip hE rfl (lkb rfl hb74) rfl (by decide) ?_; intro a hE
                      refine s_pickT hE goes_none (by decide) (lkb rfl hb74) rfl ?_; intro a hE
                      refine c_fin0 ?_
                      have ht75 := Option.some.inj hl68
                      subst ht75
                      refine c_mid ?_
                      have hM := hM.pull (pre := [_, _, _, _, _, _, _, _])
                      have hM := hM.pull (pre := [_, _, _, _, _, _, _, _])
                      have hM := hM.pull (pre := [_, _, _, _, _, _, _])
                      have hM := M.fst (l := [_, _, _]) hM
                      exact ⟨hE.sub ⟨rfl, rfl, rfl, rfl, rfl, rfl, trivial⟩, hM⟩
                    · have hl68 := ite_f hl68 hb74
                      refine s_move hE (goes_yes hE rfl (lkb rfl hb74)) (by decide) rfl ?_; intro a hE
                      refine s_move hE (goes_yes hE rfl (lkb rfl hb74)) (by decide) rfl ?_; intro a hE
                      refine s_int hE (goes_yes hE rfl (lkb rfl hb74)) (by decide) rfl rfl rfl ?_; intro a hE
                      refine s_pickF hE goes_none (by decide) (lkb rfl hb74) rfl ?_; intro a hE
                      refine c_fin0 ?_
                      have ht76 := Option.some.inj hl68
                      subst ht76
                      refine c_mid ?_
                      have hM := hM.pull (pre := [_, _, _, _, _, _, _, _])
                      have hM := hM.pull (pre := [_, _, _, _, _, _, _, _])
                      have hM := hM.pull (pre := [_, _, _, _, _, _, _])
                      have hM := M.fst (l := [_, _, _]) hM
                      exact ⟨hE.sub ⟨rfl, rfl, rfl, rfl, rfl, rfl, trivial⟩, hM⟩
                · skip
                  rintro a w ⟨hE, hM⟩
                  refine c_cond hE rfl ?_ ?_
                  · intro hb77
                    have hF69 := ite_t hF69 hb77
                    refine c_region ?_
                    refine s_assign hE goes_none (by decide) rfl ?_; intro a hE
                    refine c_fin ?_
                    have hr := Option.some.inj hF69
                    subst hr
                    have hM := M.fst (l := []) hM
                    exact wp_ret (r_then (k_ret1 hE rfl (res_tmp hE rfl) ⟨_, rfl, rfl, hM.kept⟩))
                  · intro hb77
                    have hF69 := ite_f hF69 hb77
                    refine wp_skip ?_
                    refine c_nx ?_
                    refine c_region ?_
                    refine s_assign hE goes_none (by decide) rfl ?_; intro a hE
                    refine c_fin ?_
                    refine c_region ?_
                    refine s_move hE goes_none (by decide) rfl ?_; intro a hE
                    refine s_move hE goes_none (by decide) rfl ?_; intro a hE
                    have hM := hM.toOwn noB
                    obtain ⟨r78, e79, hF69⟩ := bind_some hF69
                    refine s_call (vs := [u30, (vI 1)]) hE goes_none (by decide) rfl cb45 (c_laws_markInt64S _ _ _ _ r28.1 u30 1 hM r78 e79) ?_
                    rintro v w a ⟨rfl, hM⟩ hE
                    refine s_assign hE goes_none (by decide) rfl ?_; intro a hE
                    refine c_fin ?_
                    refine c_region ?_
                    refine s_assign hE goes_none (by decide) rfl ?_; intro a hE
                    refine c_fin ?_
                    refine c_region ?_
                    refine s_move hE goes_none (by decide) rfl ?_; intro a hE
                    refine s_move hE goes_none (by decide) rfl ?_; intro a hE
                    obtain ⟨r80, e81, hF69⟩ := bind_some hF69
                    refine s_call (vs := [u30, (vI 1)]) hE goes_none (by decide) rfl cb46 (c_laws_heldInt64S _ r78.1 u30 (hM.ro (pre := []) (fun b hb => hb.elim)) 1 r80 e81) ?_
                    rintro v w a ⟨rfl, hK⟩ hE
                    have hM := hM.keep hK
                    refine s_assign hE goes_none (by decide) rfl ?_; intro a hE
                    refine c_fin ?_
                    refine wp_seq ?_
                    refine c_region ?_
                    refine s_move hE goes_none (by decide) rfl ?_; intro a hE
                    refine s_int hE goes_none (by decide) rfl rfl rfl ?_; intro a hE
                    refine c_fin ?_
                    refine c_cond hE rfl ?_ ?_
                    · intro hb82
                      have hF69 := ite_t hF69 hb82
                      refine c_region ?_
                      refine s_assign hE goes_none (by decide) rfl ?_; intro a hE
                      refine c_fin ?_
                      have hr := Option.some.inj hF69
                      subst hr
                      have hM := M.fst (l := []) hM
                      exact wp_ret (r_then (k_ret1 hE rfl (res_tmp hE rfl) ⟨_, rfl, rfl, hM.kept⟩))
                    · intro hb82
                      have hF69 := ite_f hF69 hb82
                      refine wp_skip ?_
                      refine c_nx ?_
                      refine wp_seq ?_
                      refine c_region ?_
                      refine s_move hE goes_none (by decide) rfl ?_; intro a hE
                      refine s_move hE goes_none (by decide) rfl ?_; intro a hE
                      refine s_int hE goes_none (by decide) rfl rfl rfl ?_; intro a hE
                      refine c_fin ?_
                      refine c_cond hE rfl ?_ ?_
                      · intro hb83
                        have hF69 := ite_t hF69 hb83
                        refine c_region ?_
                        refine s_assign hE goes_none (by decide) rfl ?_; intro a hE
                        refine c_fin ?_
                        have hr := Option.some.inj hF69
                        subst hr
                        have hM := M.fst (l := []) hM
                        exact wp_ret (r_then (k_ret1 hE rfl (res_tmp hE rfl) ⟨_, rfl, rfl, hM.kept⟩))
                      · intro hb83
                        have hF69 := ite_f hF69 hb83
                        refine wp_skip ?_
                        refine c_nx ?_
                        refine c_region ?_
                        refine s_loadA (cs := cat [[v0_1], [(vI p0.Next)], [v0_2], [v0_3], Flat.enc p0.Head]) hE goes_none (by decide) rfl ty41 rfl (hM.rawAt (pre := [_, _])) (cat_len (cl1 (n := 1) (m := 35) rfl (cl1 (n := 1) (m := 34) rfl (cl1 (n := 1) (m := 33) rfl (cl1 (n := 1) (m := 32) rfl (cl1 (n := 32) (m := 0) (Flat.len _) cl0)))))) ?_; intro a hE
                        obtain ⟨r84, e85, hF69⟩ := bind_some hF69
                        refine s_call (vs := [(Value.agg (cat [[v0_1], [(vI p0.Next)], [v0_2], [v0_3], Flat.enc p0.Head]).toArray)]) hE goes_none (by decide) rfl cb26 (c_laws_toVault _ p0 v0_1 (hM.rdo hv0_1) v0_2 (hM.rdo hv0_2) v0_3 (hM.rdo hv0_3) r84 e85) ?_
                        rintro v w a ⟨u86, u87, u88, rfl, hFr, hK⟩ hE
                        have hM := hM.add hK hFr
                        refine s_move hE goes_none (by decide) rfl ?_; intro a hE
                        obtain ⟨r89, e90, hF69⟩ := bind_some hF69
                        refine s_call (vs := [v1_1]) hE goes_none (by decide) rfl cb19 (c_laws_toByteS _ p1 v1_1 (hM.rdo hv1_1) r89 e90) ?_
                        rintro u91 w a ⟨_, rfl, hFr, hK⟩ hE
                        have hM := hM.add hK hFr
                        obtain ⟨r92, e93, hF69⟩ := bind_some hF69
                        refine s_call (vs := [(Value.agg (cat [[u86], [(vI r84.Next)], [u87], [u88], Flat.enc r84.Head]).toArray), u91]) hE goes_none (by decide) rfl cb52 (c_impl_NumbersOfLabel _ r84 u86 (hM.sl (pre := [_]) noB) u87 (hM.sl (pre := [_, _]) noB) u88 (hM.sl (pre := [_, _, _]) noB) r89 u91 (hM.sl (pre := []) noB) r92 e93) ?_
                        rintro v w a ⟨u94, rfl, hFr, hK⟩ hE
                        have hM := hM.add hK hFr
                        refine s_move hE goes_none (by decide) rfl ?_; intro a hE
                        refine s_extract hE goes_none (by decide) rfl rfl ?_; intro a hE
                        refine s_extract hE goes_none (by decide) rfl rfl ?_; intro a hE
                        refine s_assign hE goes_none (by decide) rfl ?_; intro a hE
                        refine s_assign hE goes_none (by decide) rfl ?_; intro a hE
                        refine c_fin ?_
                        refine wp_seq ?_
                        obtain ⟨j95, hl96, hF97⟩ := bind_some hF69
                        refine c_join (fun a w => Env 117 a [(10, u30), (13, (vI r78.2)), (108, (vT j95))] ∧ M (Old w0) w0 w [own NoB (r78.1 : (List Int)) [u30]]) ?_ ?_
                        · skip
                          refine wp_region_lit ?_
                          refine s_move hE goes_none (by decide) rfl ?_; intro a hE
                          refine s_move hE goes_none (by decide) rfl ?_; intro a hE
                          obtain ⟨r98, e99, hl96⟩ := bind_some hl96
                          refine s_call (vs := [u94, u17]) hE goes_none (by decide) rfl cb43 (c_laws_eqInt64S _ r92.1 u94 (hM.sl (pre := []) noB) r15.1 u17 (hM.sl (pre := [_, _, _, _, _, _]) noB) r98 e99) ?_
                          rintro v w a ⟨rfl, hK⟩ hE
                          have hM := hM.keep hK
                          refine s_not hE goes_none (by decide) rfl ?_; intro a hE
                          refine s_move hE goes_none (by decide) rfl ?_; intro a hE
                          refine splitB (!r98) (fun hb100 => ?_) (fun hb100 => ?_)
                          · have hl96 := ite_t hl96 hb100
                            refine s_skip hE rfl (lkb rfl hb100) rfl (by decide) ?_; intro a hE
                            refine s_skip hE rfl (lkb rfl hb100) rfl (by decide) ?_; intro a hE
                            refine s_skip hE rfl (lkb rfl hb100) rfl (by decide) ?_; intro a hE
                            refine s_pickT hE goes_none (by decide) (lkb rfl hb100) rfl ?_; intro a hE
                            refine c_fin0 ?_
                            have ht101 := Option.some.inj hl96
                            subst ht101
                            refine c_mid ?_
                            have hM := hM.pull (pre := [_, _, _, _, _])
                            have hM := M.fst (l := [_]) hM
                            exact ⟨hE.sub ⟨rfl, rfl, rfl, trivial⟩, hM⟩
                          · have hl96 := ite_f hl96 hb100
                            refine s_move hE (goes_yes hE rfl (lkb rfl hb100)) (by decide) rfl ?_; intro a hE
                            refine s_move hE (goes_yes hE rfl (lkb rfl hb100)) (by decide) rfl ?_; intro a hE
                            refine s_int hE (goes_yes hE rfl (lkb rfl hb100)) (by decide) rfl rfl rfl ?_; intro a hE
                            refine s_pickF hE goes_none (by decide) (lkb rfl hb100) rfl ?_; intro a hE
                            refine c_fin0 ?_
                            have ht102 := Option.some.inj hl96
                            subst ht102
                            refine c_mid ?_
                            have hM := hM.pull (pre := [_, _, _, _, _])
                            have hM := M.fst (l := [_]) hM
                            exact ⟨hE.sub ⟨rfl, rfl, rfl, trivial⟩, hM⟩
                        · skip
                          rintro a w ⟨hE, hM⟩
                          refine c_cond hE rfl ?_ ?_
                          · intro hb103
                            have hF97 := ite_t hF97 hb103
                            refine c_region ?_
                            refine s_assign hE goes_none (by decide) rfl ?_; intro a hE
                            refine c_fin ?_
                            have hr := Option.some.inj hF97
                            subst hr
                            have hM := M.fst (l := []) hM
                            exact wp_ret (r_then (k_ret1 hE rfl (res_tmp hE rfl) ⟨_, rfl, rfl, hM.kept⟩))
                          · intro hb103
                            have hF97 := ite_f hF97 hb103
                            refine wp_skip ?_
                            refine c_nx ?_
                            refine c_region ?_
                            refine s_assign hE goes_none (by decide) rfl ?_; intro a hE
                            refine c_fin ?_
                            refine c_region ?_
                            refine s_move hE goes_none (by decide) rfl ?_; intro a hE
                            refine s_move hE goes_none (by decide) rfl ?_; intro a hE
                            obtain ⟨r104, e105, hF97⟩ := bind_some hF97
                            refine s_call (vs := [u30, (vI 1)]) hE goes_none (by decide) rfl cb46 (c_laws_heldInt64S _ r78.1 u30 (hM.ro (pre := []) (fun b hb => hb.elim)) 1 r104 e105) ?_
                            rintro v w a ⟨rfl, hK⟩ hE
                            have hM := hM.keep hK
                            refine s_assign hE goes_none (by decide) rfl ?_; intro a hE
                            refine c_fin ?_
                            refine wp_seq ?_
                            refine c_region ?_
                            refine s_move hE goes_none (by decide) rfl ?_; intro a hE
                            refine s_int hE goes_none (by decide) rfl rfl rfl ?_; intro a hE
                            refine c_fin ?_
                            refine c_cond hE rfl ?_ ?_
                            · intro hb106
                              have hF97 := ite_t hF97 hb106
                              refine c_region ?_
                              refine s_assign hE goes_none (by decide) rfl ?_; intro a hE
                              refine c_fin ?_
                              have hr := Option.some.inj hF97
                              subst hr
                              have hM := M.fst (l := []) hM
                              exact wp_ret (r_then (k_ret1 hE rfl (res_tmp hE rfl) ⟨_, rfl, rfl, hM.kept⟩))
                            · intro hb106
                              have hF97 := ite_f hF97 hb106
                              refine wp_skip ?_
                              refine c_nx ?_
                              refine wp_seq ?_
                              refine c_region ?_
                              refine s_move hE goes_none (by decide) rfl ?_; intro a hE
                              refine s_move hE goes_none (by decide) rfl ?_; intro a hE
                              refine s_int hE goes_none (by decide) rfl rfl rfl ?_; intro a hE
                              refine c_fin ?_
                              refine c_cond hE rfl ?_ ?_
                              · intro hb107
                                have hF97 := ite_t hF97 hb107
                                refine c_region ?_
                                refine s_assign hE goes_none (by decide) rfl ?_; intro a hE
                                refine c_fin ?_
                                have hr := Option.some.inj hF97
                                subst hr
                                have hM := M.fst (l := []) hM
                                exact wp_ret (r_then (k_ret1 hE rfl (res_tmp hE rfl) ⟨_, rfl, rfl, hM.kept⟩))
                              · intro hb107
                                have hF97 := ite_f hF97 hb107
                                refine wp_skip ?_
                                refine c_nx ?_
                                refine c_region ?_
                                refine s_assign hE goes_none (by decide) rfl ?_; intro a hE
                                refine c_fin ?_
                                have hr := Option.some.inj hF97
                                subst hr
                                have hM := M.fst (l := []) hM
                                exact wp_ret (k_ret1 hE rfl (res_tmp hE rfl) ⟨_, rfl, rfl, hM.kept⟩)
end Go.Proofs.Ytbonmndobipbnaa
