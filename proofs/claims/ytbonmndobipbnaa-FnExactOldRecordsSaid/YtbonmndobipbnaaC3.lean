/- The walk of what the law reaches: contracts of functions. -/
import Derived.Test.YtbonmndobipbnaaC2
set_option linter.unusedVariables false
set_option linter.unusedSimpArgs false
namespace Go.Proofs.Ytbonmndobipbnaa
open Go
set_option maxRecDepth 20000 in
set_option maxHeartbeats 400000 in
theorem c_laws_heldInt64S (w0 : World) (p0 : (List Int)) (v0_1 : Value) (hv0_1 : Ro w0 p0 [v0_1]) (p1 : Int) (r : Int) (hF : F_laws_heldInt64S p0 p1 = some r) :
    Calls Try.prog 46 [v0_1, (vI p1)].toArray w0 (fun en w' => ∃ v, en = .returned v ∧ (v = (vI r) ∧ Kept (Old w0) w0 w')) := by
  refine c_enter (n := 21) Try.func46 rfl rfl (Nat.le_of_ble_eq_true rfl) rfl ?_
  intro a hE
  have hM := M.start w0
  unfold F_laws_heldInt64S at hF
  refine c_region ?_
  refine s_assign hE goes_none (by decide) rfl ?_; intro a hE
  refine c_fin ?_
  refine wp_seq ?_
  refine c_region ?_
  refine s_assign hE goes_none (by decide) rfl ?_; intro a hE
  refine c_fin ?_
  obtain ⟨j1, hl2, hF3⟩ := bind_some hF
  refine c_cut (fun a w => ∃ s4 : Int, j1 = Fl.nx s4 ∧ Env 21 a [(1, (vI s4))] ∧ M (Old w0) w0 w []) ?_ ?_
  · skip
    refine wp_block ?_
    refine c_loop (fun (s5 : Int × Int) a w => Env 21 a [(0, v0_1), (1, (vI s5.1)), (5, (vI s5.2))] ∧ M (Old w0) w0 w []) hl2 ⟨hE.sub ⟨rfl, rfl, rfl, trivial⟩, hM⟩ ?_
    rintro s5 a w ⟨hE, hM⟩ o8 hs6 hx7
    unfold L0_laws_heldInt64S at hs6
    refine wp_seq ?_
    refine c_region ?_
    refine s_move hE goes_none (by decide) rfl ?_; intro a hE
    refine s_move hE goes_none (by decide) rfl ?_; intro a hE
    refine s_len hE goes_none (by decide) rfl Try.underlying66 (hM.rd hv0_1) ?_; intro a hE
    refine s_int hE goes_none (by decide) rfl rfl rfl ?_; intro a hE
    refine c_fin ?_
    refine c_cond hE rfl ?_ ?_
    · intro hb9
      have hs6 := ite_t hs6 hb9
      refine wp_skip ?_
      refine c_nx ?_
      refine wp_seq ?_
      refine wp_block ?_
      refine wp_seq ?_
      refine c_region ?_
      refine s_move hE goes_none (by decide) rfl ?_; intro a hE
      refine s_move hE goes_none (by decide) rfl ?_; intro a hE
      obtain ⟨x10, e11, hs6⟩ := bind_some hs6
      have hi12 := idx_some e11
      refine s_indexS hE goes_none (by decide) rfl rfl Try.underlying66 ty2 (hM.rd hv0_1) hi12.1 ?_; intro a hE
      refine s_load (v := (vI x10)) hE goes_none (by decide) rfl ty2 rfl (sl_atF (hM.rd hv0_1) hi12.2) ?_; intro a hE
      refine s_move hE goes_none (by decide) rfl ?_; intro a hE
      refine s_int hE goes_none (by decide) rfl rfl rfl ?_; intro a hE
      refine c_fin ?_
      refine c_cond hE rfl ?_ ?_
      · intro hb13
        have hs6 := ite_t hs6 hb13
        refine c_region ?_
        refine s_assign hE goes_none (by decide) rfl ?_; intro a hE
        refine c_fin ?_
        have ht14 := hx7 _ (Option.some.inj hs6).symm
        subst ht14
        have hr := Option.some.inj hF3
        subst hr
        exact wp_ret (r_then (r_inb (r_then (r_then (r_inb (r_then (r_then (k_ret1 hE rfl (res_tmp hE rfl) ⟨_, rfl, rfl, hM.kept⟩))))))))
      · intro hb13
        have hs6 := ite_f hs6 hb13
        refine wp_skip ?_
        refine c_nx ?_
        refine wp_region_lit ?_
        refine s_move hE goes_none (by decide) rfl ?_; intro a hE
        refine s_int hE goes_none (by decide) rfl rfl rfl ?_; intro a hE
        refine s_assign hE goes_none (by decide) rfl ?_; intro a hE
        refine c_fin0 ?_
        refine c_nb ?_
        refine c_nx ?_
        refine wp_region_lit ?_
        refine s_move hE goes_none (by decide) rfl ?_; intro a hE
        refine s_int hE goes_none (by decide) rfl rfl rfl ?_; intro a hE
        refine s_assign hE goes_none (by decide) rfl ?_; intro a hE
        refine c_fin0 ?_
        refine c_mid ?_
        exact ⟨_, (Option.some.inj hs6).symm, hE.sub ⟨rfl, rfl, rfl, trivial⟩, hM⟩
    · intro hb9
      have hs6 := ite_f hs6 hb9
      refine wp_exit (e_then (e_then (e_eq ?_)))
      have ht15 := hx7 _ (Option.some.inj hs6).symm
      subst ht15
      refine c_mid ?_
      exact ⟨s5.1, rfl, hE.sub ⟨rfl, trivial⟩, hM⟩
  · skip
    rintro a w ⟨s4, ht, hE, hM⟩
    subst ht
    refine c_nx ?_
    refine c_region ?_
    refine s_move hE goes_none (by decide) rfl ?_; intro a hE
    refine s_assign hE goes_none (by decide) rfl ?_; intro a hE
    refine c_fin ?_
    have hr := Option.some.inj hF3
    subst hr
    exact wp_ret (k_ret1 hE rfl (res_tmp hE rfl) ⟨_, rfl, rfl, hM.kept⟩)
noncomputable def F_laws_FnExactOldRecords (p0 : GVault) : Option (Bool) :=
  (F_laws_szVault p0 1048576).bind fun (r3 : Int) => if (decide (r3 < 0)) = true then (some true) else ((F_laws_toVault p0).bind fun (r6 : GVault) => (F_spec_OldRecords r6).bind fun (r11 : (List Int) × Int) => (F_laws_toVault p0).bind fun (r14 : GVault) => (F_impl_OldRecords r14).bind fun (r21 : (List Int) × Int) => ((F_laws_eqInt64S r21.1 r11.1).bind fun (r27 : Bool) => if (!r27) = true then (some true) else (some (r21.2 != r11.2)) : Option (Bool)).bind fun (j24 : Bool) => if j24 = true then (some false) else (((F_laws_toVault p0).bind fun (r37 : GVault) => (F_laws_eqVault r14 r37).bind fun (r46 : Bool) => some (!r46) : Option (Bool)).bind fun (j33 : Bool) => if j33 = true then (some false) else ((F_laws_markVault r14 1).bind fun (r50 : GVault × Int) => (if (decide (r50.2 < 0)) = true then (some true) else ((F_laws_eqInt64S r21.1 r11.1).bind fun (r57 : Bool) => if (!r57) = true then (some true) else (some (r21.2 != r11.2))) : Option (Bool)).bind fun (j52 : Bool) => if j52 = true then (some false) else ((F_laws_markInt64S r21.1 1).bind fun (r63 : (List Int) × Int) => (F_laws_heldInt64S r63.1 1).bind fun (r65 : Int) => if (decide (r65 < 0)) = true then (some false) else (if (r65 != r63.2) = true then (some false) else ((F_laws_toVault p0).bind fun (r69 : GVault) => (F_impl_OldRecords r69).bind fun (r74 : (List Int) × Int) => ((F_laws_eqInt64S r74.1 r11.1).bind fun (r80 : Bool) => if (!r80) = true then (some true) else (some (r74.2 != r11.2)) : Option (Bool)).bind fun (j77 : Bool) => if j77 = true then (some false) else ((F_laws_heldInt64S r63.1 1).bind fun (r86 : Int) => if (decide (r86 < 0)) = true then (some false) else (if (r86 != r63.2) = true then (some false) else (some true)))))))))
set_option maxRecDepth 20000 in
set_option maxHeartbeats 400000 in
theorem c_laws_FnExactOldRecords (w0 : World) (p0 : GVault) (v0_1 : Value) (hv0_1 : Ro w0 p0.Keys [v0_1]) (v0_2 : Value) (hv0_2 : Ro w0 p0.Records [v0_2]) (v0_3 : Value) (hv0_3 : Ro w0 p0.Events [v0_3]) (r : Bool) (hF : F_laws_FnExactOldRecords p0 = some r) :
    Calls Try.prog 9 [(Value.agg (cat [[v0_1], [(vI p0.Next)], [v0_2], [v0_3], Flat.enc p0.Head]).toArray)].toArray w0 (fun en w' => ∃ v, en = .returned v ∧ (v = (vT r) ∧ Kept (Old w0) w0 w')) := by
  refine c_enter (n := 96) Try.func9 rfl rfl (Nat.le_of_ble_eq_true rfl) rfl ?_
  intro a hE
  have hM := M.start w0
  unfold F_laws_FnExactOldRecords at hF
  refine c_region ?_
  refine s_box (cs := cat [[v0_1], [(vI p0.Next)], [v0_2], [v0_3], Flat.enc p0.Head]) hE hM goes_none (by decide) rfl rfl ?_; intro b1 w a hM hE
  refine s_assign hE goes_none (by decide) rfl ?_; intro a hE
  refine c_fin ?_
  refine c_region ?_
  refine s_assign hE goes_none (by decide) rfl ?_; intro a hE
  refine c_fin ?_
  refine c_region ?_
  refine s_loadA (cs := cat [[v0_1], [(vI p0.Next)], [v0_2], [v0_3], Flat.enc p0.Head]) hE goes_none (by decide) rfl ty41 rfl (hM.rawAt (pre := [])) (cat_len (cl1 (n := 1) (m := 35) rfl (cl1 (n := 1) (m := 34) rfl (cl1 (n := 1) (m := 33) rfl (cl1 (n := 1) (m := 32) rfl (cl1 (n := 32) (m := 0) (Flat.len _) cl0)))))) ?_; intro a hE
  refine s_move hE goes_none (by decide) rfl ?_; intro a hE
  obtain ⟨r3, e4, hF⟩ := bind_some hF
  refine s_call (vs := [(Value.agg (cat [[v0_1], [(vI p0.Next)], [v0_2], [v0_3], Flat.enc p0.Head]).toArray), (vI 1048576)]) hE goes_none (by decide) rfl cb24 (c_laws_szVault _ p0 v0_1 (hM.rdo hv0_1) v0_2 (hM.rdo hv0_2) v0_3 (hM.rdo hv0_3) 1048576 r3 e4) ?_
  rintro v w a ⟨rfl, hK⟩ hE
  have hM := hM.keep hK
  refine s_assign hE goes_none (by decide) rfl ?_; intro a hE
  refine c_fin ?_
  refine wp_seq ?_
  refine c_region ?_
  refine s_move hE goes_none (by decide) rfl ?_; intro a hE
  refine s_int hE goes_none (by decide) rfl rfl rfl ?_; intro a hE
  refine c_fin ?_
  refine c_cond hE rfl ?_ ?_
  · intro hb5
    have hF := ite_t hF hb5
    refine c_region ?_
    refine s_assign hE goes_none (by decide) rfl ?_; intro a hE
    refine c_fin ?_
    have hr := Option.some.inj hF
    subst hr
    have hM := M.fst (l := []) hM
    exact wp_ret (r_then (k_ret1 hE rfl (res_tmp hE rfl) ⟨_, rfl, rfl, hM.kept⟩))
  · intro hb5
    have hF := ite_f hF hb5
    refine wp_skip ?_
    refine c_nx ?_
    refine c_region ?_
    refine s_loadA (cs := cat [[v0_1], [(vI p0.Next)], [v0_2], [v0_3], Flat.enc p0.Head]) hE goes_none (by decide) rfl ty41 rfl (hM.rawAt (pre := [])) (cat_len (cl1 (n := 1) (m := 35) rfl (cl1 (n := 1) (m := 34) rfl (cl1 (n := 1) (m := 33) rfl (cl1 (n := 1) (m := 32) rfl (cl1 (n := 32) (m := 0) (Flat.len _) cl0)))))) ?_; intro a hE
    obtain ⟨r6, e7, hF⟩ := bind_some hF
    refine s_call (vs := [(Value.agg (cat [[v0_1], [(vI p0.Next)], [v0_2], [v0_3], Flat.enc p0.Head]).toArray)]) hE goes_none (by decide) rfl cb26 (c_laws_toVault _ p0 v0_1 (hM.rdo hv0_1) v0_2 (hM.rdo hv0_2) v0_3 (hM.rdo hv0_3) r6 e7) ?_
    rintro v w a ⟨u8, u9, u10, rfl, hFr, hK⟩ hE
    have hM := hM.add hK hFr
    obtain ⟨r11, e12, hF⟩ := bind_some hF
    refine s_call (vs := [(Value.agg (cat [[u8], [(vI r6.Next)], [u9], [u10], Flat.enc r6.Head]).toArray)]) hE goes_none (by decide) rfl cb41 (c_spec_OldRecords _ r6 u8 (hM.sl (pre := []) noB) u9 (hM.sl (pre := [_]) noB) u10 (hM.sl (pre := [_, _]) noB) r11 e12) ?_
    rintro v w a ⟨u13, rfl, hFr, hK⟩ hE
    have hM := hM.add hK hFr
    refine s_move hE goes_none (by decide) rfl ?_; intro a hE
    refine s_extract hE goes_none (by decide) rfl rfl ?_; intro a hE
    refine s_extract hE goes_none (by decide) rfl rfl ?_; intro a hE
    refine s_assign hE goes_none (by decide) rfl ?_; intro a hE
    refine s_assign hE goes_none (by decide) rfl ?_; intro a hE
    refine c_fin ?_
    refine c_region ?_
    refine s_loadA (cs := cat [[v0_1], [(vI p0.Next)], [v0_2], [v0_3], Flat.enc p0.Head]) hE goes_none (by decide) rfl ty41 rfl (hM.rawAt (pre := [_, _, _, _])) (cat_len (cl1 (n := 1) (m := 35) rfl (cl1 (n := 1) (m := 34) rfl (cl1 (n := 1) (m := 33) rfl (cl1 (n := 1) (m := 32) rfl (cl1 (n := 32) (m := 0) (Flat.len _) cl0)))))) ?_; intro a hE
    obtain ⟨r14, e15, hF⟩ := bind_some hF
    refine s_call (vs := [(Value.agg (cat [[v0_1], [(vI p0.Next)], [v0_2], [v0_3], Flat.enc p0.Head]).toArray)]) hE goes_none (by decide) rfl cb26 (c_laws_toVault _ p0 v0_1 (hM.rdo hv0_1) v0_2 (hM.rdo hv0_2) v0_3 (hM.rdo hv0_3) r14 e15) ?_
    rintro v w a ⟨u16, u17, u18, rfl, hFr, hK⟩ hE
    have hM := hM.add hK hFr
    refine s_alloc hE hM goes_none (by decide) ty49 ?_; intro b19 w a hM hE
    refine s_store (seg := cat [[u16], [(vI r14.Next)], [u17], [u18], Flat.enc r14.Head]) (cs' := cat [[u16], [(vI r14.Next)], [u17], [u18], Flat.enc r14.Head]) hE hM goes_none rfl rfl rfl ty49 (cat_len (cl1 (n := 1) (m := 35) rfl (cl1 (n := 1) (m := 34) rfl (cl1 (n := 1) (m := 33) rfl (cl1 (n := 1) (m := 32) rfl (cl1 (n := 32) (m := 0) (Flat.len _) cl0)))))) (Nat.le_of_eq (by rw [Nat.zero_add]; exact (Eq.trans (cat_len (cl1 (n := 1) (m := 35) rfl (cl1 (n := 1) (m := 34) rfl (cl1 (n := 1) (m := 33) rfl (cl1 (n := 1) (m := 32) rfl (cl1 (n := 32) (m := 0) (Flat.len _) cl0)))))) (Eq.symm (cat_len (cl1 (n := 1) (m := 35) rfl (cl1 (n := 1) (m := 34) rfl (cl1 (n := 1) (m := 33) rfl (cl1 (n := 1) (m := 32) rfl (cl1 (n := 32) (m := 0) (Flat.len _) cl0)))))))))) (cat_cell (cc1 (Rep.cell (hM.sl (pre := [_]) noB)) (cc1 (Flat.cell r14.Next) (cc1 (Rep.cell (hM.sl (pre := [_, _]) noB)) (cc1 (Rep.cell (hM.sl (pre := [_, _, _]) noB)) (cc1 (Flat.cell _) cc0)))))) (splice_all (Eq.trans (cat_len (cl1 (n := 1) (m := 35) rfl (cl1 (n := 1) (m := 34) rfl (cl1 (n := 1) (m := 33) rfl (cl1 (n := 1) (m := 32) rfl (cl1 (n := 32) (m := 0) (Flat.len _) cl0)))))) (Eq.symm (cat_len (cl1 (n := 1) (m := 35) rfl (cl1 (n := 1) (m := 34) rfl (cl1 (n := 1) (m := 33) rfl (cl1 (n := 1) (m := 32) rfl (cl1 (n := 32) (m := 0) (Flat.len _) cl0))))))))) ?_; intro w a hM hE
    refine c_fin ?_
    refine c_region ?_
    refine s_loadA (cs := cat [[u16], [(vI r14.Next)], [u17], [u18], Flat.enc r14.Head]) hE goes_none (by decide) rfl ty49 rfl (hM.rawAt (pre := [])) (cat_len (cl1 (n := 1) (m := 35) rfl (cl1 (n := 1) (m := 34) rfl (cl1 (n := 1) (m := 33) rfl (cl1 (n := 1) (m := 32) rfl (cl1 (n := 32) (m := 0) (Flat.len _) cl0)))))) ?_; intro a hE
    obtain ⟨r21, e22, hF⟩ := bind_some hF
    refine s_call (vs := [(Value.agg (cat [[u16], [(vI r14.Next)], [u17], [u18], Flat.enc r14.Head]).toArray)]) hE goes_none (by decide) rfl cb42 (c_impl_OldRecords _ r14 u16 (hM.sl (pre := [_]) noB) u17 (hM.sl (pre := [_, _]) noB) u18 (hM.sl (pre := [_, _, _]) noB) r21 e22) ?_
    rintro v w a ⟨u23, rfl, hFr, hK⟩ hE
    have hM := hM.add hK hFr
    refine s_move hE goes_none (by decide) rfl ?_; intro a hE
    refine s_extract hE goes_none (by decide) rfl rfl ?_; intro a hE
    refine s_extract hE goes_none (by decide) rfl rfl ?_; intro a hE
    refine s_assign hE goes_none (by decide) rfl ?_; intro a hE
    refine s_assign hE goes_none (by decide) rfl ?_; intro a hE
    refine c_fin ?_
    refine wp_seq ?_
    obtain ⟨j24, hl25, hF26⟩ := bind_some hF
    refine c_join (fun a w => Env 96 a [(1, (ptr b1 0)), (4, u13), (5, (vI r11.2)), (6, (ptr b19 0)), (7, u23), (8, (vI r21.2)), (40, (vT j24))] ∧ M (Old w0) w0 w [osl NoB (r21.1 : List Int) u23, raw b19 (cat [[u16], [(vI r14.Next)], [u17], [u18], Flat.enc r14.Head]), osl NoB (r14.Keys : List (Vector UInt8 16)) u16, osl NoB (r14.Records : List GRecord) u17, osl NoB (r14.Events : List GEvent) u18, osl NoB (r11.1 : List Int) u13, raw b1 (cat [[v0_1], [(vI p0.Next)], [v0_2], [v0_3], Flat.enc p0.Head])]) ?_ ?_
    · skip
      refine wp_region_lit ?_
      refine s_move hE goes_none (by decide) rfl ?_; intro a hE
      refine s_move hE goes_none (by decide) rfl ?_; intro a hE
      obtain ⟨r27, e28, hl25⟩ := bind_some hl25
      refine s_call (vs := [u23, u13]) hE goes_none (by decide) rfl cb43 (c_laws_eqInt64S _ r21.1 u23 (hM.sl (pre := []) noB) r11.1 u13 (hM.sl (pre := [_, _, _, _, _]) noB) r27 e28) ?_
      rintro v w a ⟨rfl, hK⟩ hE
      have hM := hM.keep hK
      refine s_not hE goes_none (by decide) rfl ?_; intro a hE
      refine s_move hE goes_none (by decide) rfl ?_; intro a hE
      refine splitB (!r27) (fun hb29 => ?_) (fun hb29 => ?_)
      · have hl25 := ite_t hl25 hb29
        refine s_skip hE rfl (lkb rfl hb29) rfl (by decide) ?_; intro a hE
        refine s_skip hE rfl (lkb rfl hb29) rfl (by decide) ?_; intro a hE
        refine s_skip hE rfl (lkb rfl hb29) rfl (by decide) ?_; intro a hE
        refine s_pickT hE goes_none (by decide) (lkb rfl hb29) rfl ?_; intro a hE
        refine c_fin0 ?_
        have ht30 := Option.some.inj hl25
        subst ht30
        refine c_mid ?_
        have hM := hM.pull (pre := [_, _, _, _, _, _, _, _, _])
        have hM := hM.pull (pre := [_, _, _, _, _, _])
        have hM := hM.pull (pre := [_, _, _, _, _, _])
        have hM := hM.pull (pre := [_, _, _, _, _, _])
        have hM := hM.pull (pre := [_, _, _, _, _, _])
        have hM := hM.pull (pre := [_, _, _, _, _, _])
        have hM := hM.pull (pre := [_, _, _, _, _, _])
        have hM := M.fst (l := [_, _, _, _, _, _, _]) hM
        exact ⟨hE.sub ⟨rfl, rfl, rfl, rfl, rfl, rfl, rfl, trivial⟩, hM⟩
      · have hl25 := ite_f hl25 hb29
        refine s_move hE (goes_yes hE rfl (lkb rfl hb29)) (by decide) rfl ?_; intro a hE
        refine s_move hE (goes_yes hE rfl (lkb rfl hb29)) (by decide) rfl ?_; intro a hE
        refine s_int hE (goes_yes hE rfl (lkb rfl hb29)) (by decide) rfl rfl rfl ?_; intro a hE
        refine s_pickF hE goes_none (by decide) (lkb rfl hb29) rfl ?_; intro a hE
        refine c_fin0 ?_
        have ht31 := Option.some.inj hl25
        subst ht31
        refine c_mid ?_
        have hM := hM.pull (pre := [_, _, _, _, _, _, _, _, _])
        have hM := hM.pull (pre := [_, _, _, _, _, _])
        have hM := hM.pull (pre := [_, _, _, _, _, _])
        have hM := hM.pull (pre := [_, _, _, _, _, _])
        have hM := hM.pull (pre := [_, _, _, _, _, _])
        have hM := hM.pull (pre := [_, _, _, _, _, _])
        have hM := hM.pull (pre := [_, _, _, _, _, _])
        have hM := M.fst (l := [_, _, _, _, _, _, _]) hM
        exact ⟨hE.sub ⟨rfl, rfl, rfl, rfl, rfl, rfl, rfl, trivial⟩, hM⟩
    · skip
      rintro a w ⟨hE, hM⟩
      refine c_cond hE rfl ?_ ?_
      · intro hb32
        have hF26 := ite_t hF26 hb32
        refine c_region ?_
        refine s_assign hE goes_none (by decide) rfl ?_; intro a hE
        refine c_fin ?_
        have hr := Option.some.inj hF26
        subst hr
        have hM := M.fst (l := []) hM
        exact wp_ret (r_then (k_ret1 hE rfl (res_tmp hE rfl) ⟨_, rfl, rfl, hM.kept⟩))
      · intro hb32
        have hF26 := ite_f hF26 hb32
        refine wp_skip ?_
        refine c_nx ?_
        refine wp_seq ?_
        obtain ⟨j33, hl34, hF35⟩ := bind_some hF26
        refine c_join (fun a w => Env 96 a [(1, (ptr b1 0)), (4, u13), (5, (vI r11.2)), (6, (ptr b19 0)), (7, u23), (8, (vI r21.2)), (45, (vT j33))] ∧ M (Old w0) w0 w [osl NoB (r21.1 : List Int) u23, raw b19 (cat [[u16], [(vI r14.Next)], [u17], [u18], Flat.enc r14.Head]), osl NoB (r14.Keys : List (Vector UInt8 16)) u16, osl NoB (r14.Records : List GRecord) u17, osl NoB (r14.Events : List GEvent) u18, osl NoB (r11.1 : List Int) u13, raw b1 (cat [[v0_1], [(vI p0.Next)], [v0_2], [v0_3], Flat.enc p0.Head])]) ?_ ?_
        · skip
          obtain ⟨r37, e38, hl34⟩ := bind_some hl34
          refine c_draw2 (n := 96) (hd := [_, _, _]) (tl := [_, _]) (its := [osl NoB (r21.1 : List Int) u23, raw b19 (cat [[u16], [(vI r14.Next)], [u17], [u18], Flat.enc r14.Head]), osl NoB (r14.Keys : List (Vector UInt8 16)) u16, osl NoB (r14.Records : List GRecord) u17, osl NoB (r14.Events : List GEvent) u18, osl NoB (r11.1 : List Int) u13, raw b1 (cat [[v0_1], [(vI p0.Next)], [v0_2], [v0_3], Flat.enc p0.Head])]) hmix rfl rfl [41, 42, 43] (by decide) [(2, fun v => own NoB r37 (Value.cells v).toList)] rfl (fun j => ([fun v => v = (Value.agg (cat [[u16], [(vI r14.Next)], [u17], [u18], Flat.enc r14.Head]).toArray), fun v => v = (Value.agg (cat [[v0_1], [(vI p0.Next)], [v0_2], [v0_3], Flat.enc p0.Head]).toArray), fun v => ∃ cs, v = .agg cs] : List (Value → Prop)).getD j (fun _ => True)) hE hM.drew (steps_of (steps_cons ?_ (steps_cons ?_ (steps_cons ?_ steps_nil)))) ?_
          · intro a w ux36 D hE hM hD hp
            have hM0 := hM
            have hM : M (Old w0) w0 w [osl NoB (r21.1 : List Int) u23, raw b19 (cat [[u16], [(vI r14.Next)], [u17], [u18], Flat.enc r14.Head]), osl NoB (r14.Keys : List (Vector UInt8 16)) u16, osl NoB (r14.Records : List GRecord) u17, osl NoB (r14.Events : List GEvent) u18, osl NoB (r11.1 : List Int) u13, raw b1 (cat [[v0_1], [(vI p0.Next)], [v0_2], [v0_3], Flat.enc p0.Head]), opt (D 2) (own NoB r37 (Value.cells (ux36 2)).toList)] := hM
            refine s_loadA (cs := cat [[u16], [(vI r14.Next)], [u17], [u18], Flat.enc r14.Head]) hE goes_none (by decide) rfl ty49 rfl (hM.rawAt (pre := [_])) (cat_len (cl1 (n := 1) (m := 35) rfl (cl1 (n := 1) (m := 34) rfl (cl1 (n := 1) (m := 33) rfl (cl1 (n := 1) (m := 32) rfl (cl1 (n := 32) (m := 0) (Flat.len _) cl0)))))) ?_; intro a hE
            exact ⟨_, _, rfl, hE, rfl, hM0.optKeep rfl⟩
          · intro a w ux36 D hE hM hD hp
            have hM0 := hM
            have hM : M (Old w0) w0 w [osl NoB (r21.1 : List Int) u23, raw b19 (cat [[u16], [(vI r14.Next)], [u17], [u18], Flat.enc r14.Head]), osl NoB (r14.Keys : List (Vector UInt8 16)) u16, osl NoB (r14.Records : List GRecord) u17, osl NoB (r14.Events : List GEvent) u18, osl NoB (r11.1 : List Int) u13, raw b1 (cat [[v0_1], [(vI p0.Next)], [v0_2], [v0_3], Flat.enc p0.Head]), opt (D 2) (own NoB r37 (Value.cells (ux36 2)).toList)] := hM
            refine s_loadA (cs := cat [[v0_1], [(vI p0.Next)], [v0_2], [v0_3], Flat.enc p0.Head]) hE goes_none (by decide) rfl ty41 rfl (hM.rawAt (pre := [_, _, _, _, _, _])) (cat_len (cl1 (n := 1) (m := 35) rfl (cl1 (n := 1) (m := 34) rfl (cl1 (n := 1) (m := 33) rfl (cl1 (n := 1) (m := 32) rfl (cl1 (n := 32) (m := 0) (Flat.len _) cl0)))))) ?_; intro a hE
            exact ⟨_, _, rfl, hE, rfl, hM0.optKeep rfl⟩
          · intro a w ux36 D hE hM hD hp
            have f1 : ux36 1 = (Value.agg (cat [[v0_1], [(vI p0.Next)], [v0_2], [v0_3], Flat.enc p0.Head]).toArray) := (hp 0 _ rfl rfl).2
            have hM0 := hM
            have hM : M (Old w0) w0 w [osl NoB (r21.1 : List Int) u23, raw b19 (cat [[u16], [(vI r14.Next)], [u17], [u18], Flat.enc r14.Head]), osl NoB (r14.Keys : List (Vector UInt8 16)) u16, osl NoB (r14.Records : List GRecord) u17, osl NoB (r14.Events : List GEvent) u18, osl NoB (r11.1 : List Int) u13, raw b1 (cat [[v0_1], [(vI p0.Next)], [v0_2], [v0_3], Flat.enc p0.Head]), opt (D 2) (own NoB r37 (Value.cells (ux36 2)).toList)] := hM
            refine s_call (vs := [(Value.agg (cat [[v0_1], [(vI p0.Next)], [v0_2], [v0_3], Flat.enc p0.Head]).toArray)]) hE goes_none (by decide) (evs_of (evsC (lk rfl f1) evsN)) cb26 (c_laws_toVault _ p0 v0_1 (hM.rdo hv0_1) v0_2 (hM.rdo hv0_2) v0_3 (hM.rdo hv0_3) r37 e38) ?_
            rintro _ w a ⟨u39, u40, u41, rfl, hFr, hK⟩ hE
            have hM := hM0.add hK hFr
            have hM := hM.packL (m := [osl NoB (r37.Keys : List (Vector UInt8 16)) u39, osl NoB (r37.Records : List GRecord) u40, osl NoB (r37.Events : List GEvent) u41]) (it := own NoB r37 (cat [[u39], [(vI r37.Next)], [u40], [u41], Flat.enc r37.Head])) (own_loc noB) (fun fp h => by obtain ⟨_, _, rfl, _, s1, _, _, rfl, _, s2, _, _, rfl, _, s3, rfl⟩ := h; exact pk_GVault (OwnSl.sat s1) (OwnSl.sat s2) (OwnSl.sat s3) (by simp))
            exact ⟨_, _, rfl, hE, ⟨_, rfl⟩, M.optFill (mk1 := []) (mk2 := []) (f := (fun v => own NoB r37 (Value.cells v).toList)) hM rfl hD⟩
          · intro a w ux36 hE hM hg
            have f0 : ux36 0 = (Value.agg (cat [[u16], [(vI r14.Next)], [u17], [u18], Flat.enc r14.Head]).toArray) := hg 0 (by decide)
            have f1 : ux36 1 = (Value.agg (cat [[v0_1], [(vI p0.Next)], [v0_2], [v0_3], Flat.enc p0.Head]).toArray) := hg 1 (by decide)
            have hM : M (Old w0) w0 w [osl NoB (r21.1 : List Int) u23, raw b19 (cat [[u16], [(vI r14.Next)], [u17], [u18], Flat.enc r14.Head]), osl NoB (r14.Keys : List (Vector UInt8 16)) u16, osl NoB (r14.Records : List GRecord) u17, osl NoB (r14.Events : List GEvent) u18, osl NoB (r11.1 : List Int) u13, raw b1 (cat [[v0_1], [(vI p0.Next)], [v0_2], [v0_3], Flat.enc p0.Head]), own NoB r37 (Value.cells (ux36 2)).toList] := hM
            obtain ⟨q2_1, q2_2, q2_3, hcz, hq2_1, hq2_2, hq2_3⟩ := un_GVault (hM.ro (pre := [_, _, _, _, _, _, _]) (fun b hb => hb.elim))
            obtain ⟨cz, hvz⟩ := hg 2 (by decide)
            have f2 : ux36 2 = (Value.agg (cat [[q2_1], [(vI r37.Next)], [q2_2], [q2_3], Flat.enc r37.Head]).toArray) := by rw [hvz] at hcz ⊢; exact congrArg Value.agg (toList_eq hcz)
            have hM := hM.pull (pre := [_, _, _, _, _, _, _])
            rw [f2] at hM
            have hM := hM.unpackL (m := [own NoB (r37.Keys : (List (Vector UInt8 16))) [q2_1], own NoB (r37.Records : (List GRecord)) [q2_2], own NoB (r37.Events : (List GEvent)) [q2_3]]) (fun fp h => by obtain ⟨_, _, _, rfl, s1, s2, s3⟩ := unc_GVault h; exact (SepR.cons (own_loc noB) s1 (SepR.cons (own_loc noB) s2 (SepR.one (own_loc noB) s3))))
            simp only [List.cons_append, List.nil_append] at hM
            have hE := hE.sub (e' := [(41, (Value.agg (cat [[u16], [(vI r14.Next)], [u17], [u18], Flat.enc r14.Head]).toArray)), (42, (Value.agg (cat [[v0_1], [(vI p0.Next)], [v0_2], [v0_3], Flat.enc p0.Head]).toArray)), (43, (Value.agg (cat [[q2_1], [(vI r37.Next)], [q2_2], [q2_3], Flat.enc r37.Head]).toArray)), (1, (ptr b1 0)), (4, u13), (5, (vI r11.2)), (6, (ptr b19 0)), (7, u23), (8, (vI r21.2)), (40, (vT j24))]) ⟨lk rfl f0, lk rfl f1, lk rfl f2, rfl, rfl, rfl, rfl, rfl, rfl, rfl, trivial⟩
            obtain ⟨r46, e47, hl34⟩ := bind_some hl34
            refine s_call (vs := [(Value.agg (cat [[u16], [(vI r14.Next)], [u17], [u18], Flat.enc r14.Head]).toArray), (Value.agg (cat [[q2_1], [(vI r37.Next)], [q2_2], [q2_3], Flat.enc r37.Head]).toArray)]) hE goes_none (by decide) rfl cb28 (c_laws_eqVault _ r14 u16 (hM.sl (pre := [_, _, _, _, _]) noB) u17 (hM.sl (pre := [_, _, _, _, _, _]) noB) u18 (hM.sl (pre := [_, _, _, _, _, _, _]) noB) r37 q2_1 (hM.ro (pre := []) (fun b hb => hb.elim)) q2_2 (hM.ro (pre := [_]) (fun b hb => hb.elim)) q2_3 (hM.ro (pre := [_, _]) (fun b hb => hb.elim)) r46 e47) ?_
            rintro v w a ⟨rfl, hK⟩ hE
            have hM := hM.keep hK
            refine s_not hE goes_none (by decide) rfl ?_; intro a hE
            refine c_fin0 ?_
            have ht48 := Option.some.inj hl34
            subst ht48
            refine c_mid ?_
            have hM := hM.pull (pre := [_, _, _, _, _, _, _, _, _])
            have hM := hM.pull (pre := [_, _, _, _, _, _, _, _, _])
            have hM := hM.pull (pre := [_, _, _, _, _, _, _, _, _])
            have hM := hM.pull (pre := [_, _, _, _, _, _, _, _, _])
            have hM := hM.pull (pre := [_, _, _, _, _, _, _, _, _])
            have hM := hM.pull (pre := [_, _, _, _, _, _, _, _, _])
            have hM := hM.pull (pre := [_, _, _, _, _, _, _, _, _])
            have hM := M.fst (l := [_, _, _, _, _, _, _]) hM
            exact ⟨hE.sub ⟨rfl, rfl, rfl, rfl, rfl, rfl, rfl, trivial⟩, hM⟩
        · skip
          rintro a w ⟨hE, hM⟩
          refine c_cond hE rfl ?_ ?_
          · intro hb49
            have hF35 := ite_t hF35 hb49
            refine c_region ?_
            refine s_assign hE goes_none (by decide) rfl ?_; intro a hE
            refine c_fin ?_
            have hr := Option.some.inj hF35
            subst hr
            have hM := M.fst (l := []) hM
            exact wp_ret (r_then (k_ret1 hE rfl (res_tmp hE rfl) ⟨_, rfl, rfl, hM.kept⟩))
          · intro hb49
            have hF35 := ite_f hF35 hb49
            refine wp_skip ?_
            refine c_nx ?_
            refine c_region ?_
            refine s_assign hE goes_none (by decide) rfl ?_; intro a hE
            refine c_fin ?_
            refine c_region ?_
            refine s_loadA (cs := cat [[u16], [(vI r14.Next)], [u17], [u18], Flat.enc r14.Head]) hE goes_none (by decide) rfl ty49 rfl (hM.rawAt (pre := [_])) (cat_len (cl1 (n := 1) (m := 35) rfl (cl1 (n := 1) (m := 34) rfl (cl1 (n := 1) (m := 33) rfl (cl1 (n := 1) (m := 32) rfl (cl1 (n := 32) (m := 0) (Flat.len _) cl0)))))) ?_; intro a hE
            refine s_move hE goes_none (by decide) rfl ?_; intro a hE
            have hM := hM.pull (pre := [_, _])
            have hM := hM.toOwn noB
            have hM := hM.pull (pre := [_, _, _])
            have hM := hM.toOwn noB
            have hM := hM.pull (pre := [_, _, _, _])
            have hM := hM.toOwn noB
            have hM := hM.pull (pre := [_])
            have hM := hM.pull (pre := [_, _])
            obtain ⟨r50, e51, hF35⟩ := bind_some hF35
            refine s_call (vs := [(Value.agg (cat [[u16], [(vI r14.Next)], [u17], [u18], Flat.enc r14.Head]).toArray), (vI 1)]) hE goes_none (by decide) rfl cb44 (c_laws_markVault _ _ _ _ r14 u16 u17 u18 1 hM r50 e51) ?_
            rintro v w a ⟨rfl, hM⟩ hE
            refine s_assign hE goes_none (by decide) rfl ?_; intro a hE
            refine c_fin ?_
            refine wp_seq ?_
            obtain ⟨j52, hl53, hF54⟩ := bind_some hF35
            refine c_join (fun a w => Env 96 a [(1, (ptr b1 0)), (4, u13), (5, (vI r11.2)), (7, u23), (61, (vT j52))] ∧ M (Old w0) w0 w [osl NoB (r21.1 : List Int) u23, osl NoB (r11.1 : List Int) u13, raw b1 (cat [[v0_1], [(vI p0.Next)], [v0_2], [v0_3], Flat.enc p0.Head])]) ?_ ?_
            · skip
              refine wp_region_lit ?_
              refine s_move hE goes_none (by decide) rfl ?_; intro a hE
              refine s_int hE goes_none (by decide) rfl rfl rfl ?_; intro a hE
              refine s_move hE goes_none (by decide) rfl ?_; intro a hE
              refine splitB (decide (r50.2 < 0)) (fun hb55 => ?_) (fun hb55 => ?_)
              · have hl53 := ite_t hl53 hb55
                refine s_skip hE rfl (lkb rfl hb55) rfl (by decide) ?_; intro a hE
                refine s_skip hE rfl (lkb rfl hb55) rfl (by decide) ?_; intro a hE
                refine s_skip hE rfl (lkb rfl hb55) rfl (by decide) ?_; intro a hE
                refine s_skip hE rfl (lkb rfl hb55) rfl (by decide) ?_; intro a hE
                refine s_pickT hE goes_none (by decide) (lkb rfl hb55) rfl ?_; intro a hE
                refine s_move hE goes_none (by decide) rfl ?_; intro a hE
                refine s_skip hE rfl rfl rfl (by decide) ?_; intro a hE
                refine s_skip hE rfl rfl rfl (by decide) ?_; intro a hE
                refine s_skip hE rfl rfl rfl (by decide) ?_; intro a hE
                refine s_pickT hE goes_none (by decide) rfl rfl ?_; intro a hE
                refine c_fin0 ?_
                have ht56 := Option.some.inj hl53
                subst ht56
                refine c_mid ?_
                have hM := hM.pull (pre := [_, _, _, _, _, _])
                have hM := hM.pull (pre := [_, _, _, _, _, _])
                have hM := hM.pull (pre := [_, _, _, _, _])
                have hM := M.fst (l := [_, _, _]) hM
                exact ⟨hE.sub ⟨rfl, rfl, rfl, rfl, rfl, trivial⟩, hM⟩
              · have hl53 := ite_f hl53 hb55
                refine s_move hE (goes_yes hE rfl (lkb rfl hb55)) (by decide) rfl ?_; intro a hE
                refine s_move hE (goes_yes hE rfl (lkb rfl hb55)) (by decide) rfl ?_; intro a hE
                obtain ⟨r57, e58, hl53⟩ := bind_some hl53
                refine s_call (vs := [u23, u13]) hE (goes_yes hE rfl (lkb rfl hb55)) (by decide) rfl cb43 (c_laws_eqInt64S _ r21.1 u23 (hM.sl (pre := [_, _, _]) noB) r11.1 u13 (hM.sl (pre := [_, _, _, _, _]) noB) r57 e58) ?_
                rintro v w a ⟨rfl, hK⟩ hE
                have hM := hM.keep hK
                refine s_not hE (goes_yes hE rfl (lkb rfl hb55)) (by decide) rfl ?_; intro a hE
                refine s_pickF hE goes_none (by decide) (lkb rfl hb55) rfl ?_; intro a hE
                refine s_move hE goes_none (by decide) rfl ?_; intro a hE
                refine splitB (!r57) (fun hb59 => ?_) (fun hb59 => ?_)
                · have hl53 := ite_t hl53 hb59
                  refine s_skip hE rfl (lkb rfl hb59) rfl (by decide) ?_; intro a hE
                  refine s_skip hE rfl (lkb rfl hb59) rfl (by decide) ?_; intro a hE
                  refine s_skip hE rfl (lkb rfl hb59) rfl (by decide) ?_; intro a hE
                  refine s_pickT hE goes_none (by decide) (lkb rfl hb59) rfl ?_; intro a hE
                  refine c_fin0 ?_
                  have ht60 := Option.some.inj hl53
                  subst ht60
                  refine c_mid ?_
                  have hM := hM.pull (pre := [_, _, _, _, _, _])
                  have hM := hM.pull (pre := [_, _, _, _, _, _])
                  have hM := hM.pull (pre := [_, _, _, _, _])
                  have hM := M.fst (l := [_, _, _]) hM
                  exact ⟨hE.sub ⟨rfl, rfl, rfl, rfl, rfl, trivial⟩, hM⟩
                · have hl53 := ite_f hl53 hb59
                  refine s_move hE (goes_yes hE rfl (lkb rfl hb59)) (by decide) rfl ?_; intro a hE
                  refine s_move hE (goes_yes hE rfl (lkb rfl hb59)) (by decide) rfl ?_; intro a hE
                  refine s_int hE (goes_yes hE rfl (lkb rfl hb59)) (by decide) rfl rfl rfl ?_; intro a hE
                  refine s_pickF hE goes_none (by decide) (lkb rfl hb59) rfl ?_; intro a hE
                  refine c_fin0 ?_
                  have ht61 := Option.some.inj hl53
                  subst ht61
                  refine c_mid ?_
                  have hM := hM.pull (pre := [_, _, _, _, _, _])
                  have hM := hM.pull (pre := [_, _, _, _, _, _])
                  have hM := hM.pull (pre := [_, _, _, _, _])
                  have hM := M.fst (l := [_, _, _]) hM
                  exact ⟨hE.sub ⟨rfl, rfl, rfl, rfl, rfl, trivial⟩, hM⟩
            · skip
              rintro a w ⟨hE, hM⟩
              refine c_cond hE rfl ?_ ?_
              · intro hb62
                have hF54 := ite_t hF54 hb62
                refine c_region ?_
                refine s_assign hE goes_none (by decide) rfl ?_; intro a hE
                refine c_fin ?_
                have hr := Option.some.inj hF54
                subst hr
                have hM := M.fst (l := []) hM
                exact wp_ret (r_then (k_ret1 hE rfl (res_tmp hE rfl) ⟨_, rfl, rfl, hM.kept⟩))
              · intro hb62
                have hF54 := ite_f hF54 hb62
                refine wp_skip ?_
                refine c_nx ?_
                refine c_region ?_
                refine s_assign hE goes_none (by decide) rfl ?_; intro a hE
                refine c_fin ?_
                refine c_region ?_
                refine s_move hE goes_none (by decide) rfl ?_; intro a hE
                refine s_move hE goes_none (by decide) rfl ?_; intro a hE
                have hM := hM.toOwn noB
                obtain ⟨r63, e64, hF54⟩ := bind_some hF54
                refine s_call (vs := [u23, (vI 1)]) hE goes_none (by decide) rfl cb45 (c_laws_markInt64S _ _ _ _ r21.1 u23 1 hM r63 e64) ?_
                rintro v w a ⟨rfl, hM⟩ hE
                refine s_assign hE goes_none (by decide) rfl ?_; intro a hE
                refine c_fin ?_
                refine c_region ?_
                refine s_assign hE goes_none (by decide) rfl ?_; intro a hE
                refine c_fin ?_
                refine c_region ?_
                refine s_move hE goes_none (by decide) rfl ?_; intro a hE
                refine s_move hE goes_none (by decide) rfl ?_; intro a hE
                obtain ⟨r65, e66, hF54⟩ := bind_some hF54
                refine s_call (vs := [u23, (vI 1)]) hE goes_none (by decide) rfl cb46 (c_laws_heldInt64S _ r63.1 u23 (hM.ro (pre := []) (fun b hb => hb.elim)) 1 r65 e66) ?_
                rintro v w a ⟨rfl, hK⟩ hE
                have hM := hM.keep hK
                refine s_assign hE goes_none (by decide) rfl ?_; intro a hE
                refine c_fin ?_
                refine wp_seq ?_
                refine c_region ?_
                refine s_move hE goes_none (by decide) rfl ?_; intro a hE
                refine s_int hE goes_none (by decide) rfl rfl rfl ?_; intro a hE
                refine c_fin ?_
                refine c_cond hE rfl ?_ ?_
                · intro hb67
                  have hF54 := ite_t hF54 hb67
                  refine c_region ?_
                  refine s_assign hE goes_none (by decide) rfl ?_; intro a hE
                  refine c_fin ?_
                  have hr := Option.some.inj hF54
                  subst hr
                  have hM := M.fst (l := []) hM
                  exact wp_ret (r_then (k_ret1 hE rfl (res_tmp hE rfl) ⟨_, rfl, rfl, hM.kept⟩))
                · intro hb67
                  have hF54 := ite_f hF54 hb67
                  refine wp_skip ?_
                  refine c_nx ?_
                  refine wp_seq ?_
                  refine c_region ?_
                  refine s_move hE goes_none (by decide) rfl ?_; intro a hE
                  refine s_move hE goes_none (by decide) rfl ?_; intro a hE
                  refine s_int hE goes_none (by decide) rfl rfl rfl ?_; intro a hE
                  refine c_fin ?_
                  refine c_cond hE rfl ?_ ?_
                  · intro hb68
                    have hF54 := ite_t hF54 hb68
                    refine c_region ?_
                    refine s_assign hE goes_none (by decide) rfl ?_; intro a hE
                    refine c_fin ?_
                    have hr := Option.some.inj hF54
                    subst hr
                    have hM := M.fst (l := []) hM
                    exact wp_ret (r_then (k_ret1 hE rfl (res_tmp hE rfl) ⟨_, rfl, rfl, hM.kept⟩))
                  · intro hb68
                    have hF54 := ite_f hF54 hb68
                    refine wp_skip ?_
                    refine c_nx ?_
                    refine c_region ?_
                    refine s_loadA (cs := cat [[v0_1], [(vI p0.Next)], [v0_2], [v0_3], Flat.enc p0.Head]) hE goes_none (by decide) rfl ty41 rfl (hM.rawAt (pre := [_, _])) (cat_len (cl1 (n := 1) (m := 35) rfl (cl1 (n := 1) (m := 34) rfl (cl1 (n := 1) (m := 33) rfl (cl1 (n := 1) (m := 32) rfl (cl1 (n := 32) (m := 0) (Flat.len _) cl0)))))) ?_; intro a hE
                    obtain ⟨r69, e70, hF54⟩ := bind_some hF54
                    refine s_call (vs := [(Value.agg (cat [[v0_1], [(vI p0.Next)], [v0_2], [v0_3], Flat.enc p0.Head]).toArray)]) hE goes_none (by decide) rfl cb26 (c_laws_toVault _ p0 v0_1 (hM.rdo hv0_1) v0_2 (hM.rdo hv0_2) v0_3 (hM.rdo hv0_3) r69 e70) ?_
                    rintro v w a ⟨u71, u72, u73, rfl, hFr, hK⟩ hE
                    have hM := hM.add hK hFr
                    obtain ⟨r74, e75, hF54⟩ := bind_some hF54
                    refine s_call (vs := [(Value.agg (cat [[u71], [(vI r69.Next)], [u72], [u73], Flat.enc r69.Head]).toArray)]) hE goes_none (by decide) rfl cb42 (c_impl_OldRecords _ r69 u71 (hM.sl (pre := []) noB) u72 (hM.sl (pre := [_]) noB) u73 (hM.sl (pre := [_, _]) noB) r74 e75) ?_
                    rintro v w a ⟨u76, rfl, hFr, hK⟩ hE
                    have hM := hM.add hK hFr
                    refine s_move hE goes_none (by decide) rfl ?_; intro a hE
                    refine s_extract hE goes_none (by decide) rfl rfl ?_; intro a hE
                    refine s_extract hE goes_none (by decide) rfl rfl ?_; intro a hE
                    refine s_assign hE goes_none (by decide) rfl ?_; intro a hE
                    refine s_assign hE goes_none (by decide) rfl ?_; intro a hE
                    refine c_fin ?_
                    refine wp_seq ?_
                    obtain ⟨j77, hl78, hF79⟩ := bind_some hF54
                    refine c_join (fun a w => Env 96 a [(7, u23), (10, (vI r63.2)), (87, (vT j77))] ∧ M (Old w0) w0 w [own NoB (r63.1 : (List Int)) [u23]]) ?_ ?_
                    · skip
                      refine wp_region_lit ?_
                      refine s_move hE goes_none (by decide) rfl ?_; intro a hE
                      refine s_move hE goes_none (by decide) rfl ?_; intro a hE
                      obtain ⟨r80, e81, hl78⟩ := bind_some hl78
                      refine s_call (vs := [u76, u13]) hE goes_none (by decide) rfl cb43 (c_laws_eqInt64S _ r74.1 u76 (hM.sl (pre := []) noB) r11.1 u13 (hM.sl (pre := [_, _, _, _, _]) noB) r80 e81) ?_
                      rintro v w a ⟨rfl, hK⟩ hE
                      have hM := hM.keep hK
                      refine s_not hE goes_none (by decide) rfl ?_; intro a hE
                      refine s_move hE goes_none (by decide) rfl ?_; intro a hE
                      refine splitB (!r80) (fun hb82 => ?_) (fun hb82 => ?_)
                      · have hl78 := ite_t hl78 hb82
                        refine s_skip hE rfl (lkb rfl hb82) rfl (by decide) ?_; intro a hE
                        refine s_skip hE rfl (lkb rfl hb82) rfl (by decide) ?_; intro a hE
                        refine s_skip hE rfl (lkb rfl hb82) rfl (by decide) ?_; intro a hE
                        refine s_pickT hE goes_none (by decide) (lkb rfl hb82) rfl ?_; intro a hE
                        refine c_fin0 ?_
                        have ht83 := Option.some.inj hl78
                        subst ht83
                        refine c_mid ?_
                        have hM := hM.pull (pre := [_, _, _, _])
                        have hM := M.fst (l := [_]) hM
                        exact ⟨hE.sub ⟨rfl, rfl, rfl, trivial⟩, hM⟩
                      · have hl78 := ite_f hl78 hb82
                        refine s_move hE (goes_yes hE rfl (lkb rfl hb82)) (by decide) rfl ?_; intro a hE
                        refine s_move hE (goes_yes hE rfl (lkb rfl hb82)) (by decide) rfl ?_; intro a hE
                        refine s_int hE (goes_yes hE rfl (lkb rfl hb82)) (by decide) rfl rfl rfl ?_; intro a hE
                        refine s_pickF hE goes_none (by decide) (lkb rfl hb82) rfl ?_; intro a hE
                        refine c_fin0 ?_
                        have ht84 := Option.some.inj hl78
                        subst ht84
                        refine c_mid ?_
                        have hM := hM.pull (pre := [_, _, _, _])
                        have hM := M.fst (l := [_]) hM
                        exact ⟨hE.sub ⟨rfl, rfl, rfl, trivial⟩, hM⟩
                    · skip
                      rintro a w ⟨hE, hM⟩
                      refine c_cond hE rfl ?_ ?_
                      · intro hb85
                        have hF79 := ite_t hF79 hb85
                        refine c_region ?_
                        refine s_assign hE goes_none (by decide) rfl ?_; intro a hE
                        refine c_fin ?_
                        have hr := Option.some.inj hF79
                        subst hr
                        have hM := M.fst (l := []) hM
                        exact wp_ret (r_then (k_ret1 hE rfl (res_tmp hE rfl) ⟨_, rfl, rfl, hM.kept⟩))
                      · intro hb85
                        have hF79 := ite_f hF79 hb85
                        refine wp_skip ?_
                        refine c_nx ?_
                        refine c_region ?_
                        refine s_assign hE goes_none (by decide) rfl ?_; intro a hE
                        refine c_fin ?_
                        refine c_region ?_
                        refine s_move hE goes_none (by decide) rfl ?_; intro a hE
                        refine s_move hE goes_none (by decide) rfl ?_; intro a hE
                        obtain ⟨r86, e87, hF79⟩ := bind_some hF79
                        refine s_call (vs := [u23, (vI 1)]) hE goes_none (by decide) rfl cb46 (c_laws_heldInt64S _ r63.1 u23 (hM.ro (pre := []) (fun b hb => hb.elim)) 1 r86 e87) ?_
                        rintro v w a ⟨rfl, hK⟩ hE
                        have hM := hM.keep hK
                        refine s_assign hE goes_none (by decide) rfl ?_; intro a hE
                        refine c_fin ?_
                        refine wp_seq ?_
                        refine c_region ?_
                        refine s_move hE goes_none (by decide) rfl ?_; intro a hE
                        refine s_int hE goes_none (by decide) rfl rfl rfl ?_; intro a hE
                        refine c_fin ?_
                        refine c_cond hE rfl ?_ ?_
                        · intro hb88
                          have hF79 := ite_t hF79 hb88
                          refine c_region ?_
                          refine s_assign hE goes_none (by decide) rfl ?_; intro a hE
                          refine c_fin ?_
                          have hr := Option.some.inj hF79
                          subst hr
                          have hM := M.fst (l := []) hM
                          exact wp_ret (r_then (k_ret1 hE rfl (res_tmp hE rfl) ⟨_, rfl, rfl, hM.kept⟩))
                        · intro hb88
                          have hF79 := ite_f hF79 hb88
                          refine wp_skip ?_
                          refine c_nx ?_
                          refine wp_seq ?_
                          refine c_region ?_
                          refine s_move hE goes_none (by decide) rfl ?_; intro a hE
                          refine s_move hE goes_none (by decide) rfl ?_; intro a hE
                          refine s_int hE goes_none (by decide) rfl rfl rfl ?_; intro a hE
                          refine c_fin ?_
                          refine c_cond hE rfl ?_ ?_
                          · intro hb89
                            have hF79 := ite_t hF79 hb89
                            refine c_region ?_
                            refine s_assign hE goes_none (by decide) rfl ?_; intro a hE
                            refine c_fin ?_
                            have hr := Option.some.inj hF79
                            subst hr
                            have hM := M.fst (l := []) hM
                            exact wp_ret (r_then (k_ret1 hE rfl (res_tmp hE rfl) ⟨_, rfl, rfl, hM.kept⟩))
                          · intro hb89
                            have hF79 := ite_f hF79 hb89
                            refine wp_skip ?_
                            refine c_nx ?_
                            refine c_region ?_
                            refine s_assign hE goes_none (by decide) rfl ?_; intro a hE
                            refine c_fin ?_
                            have hr := Option.some.inj hF79
                            subst hr
                            have hM := M.fst (l := []) hM
                            exact wp_ret (k_ret1 hE rfl (res_tmp hE rfl) ⟨_, rfl, rfl, hM.kept⟩)
end Go.Proofs.Ytbonmndobipbnaa
