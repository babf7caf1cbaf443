/- The walk of what the law reaches: contracts of functions. -/
import Derived.Test.YthlmkdjednppkaaC2
set_option linter.unusedVariables false
set_option linter.unusedSimpArgs false
namespace Go.Proofs.Ythlmkdjednppkaa
open Go
set_option maxRecDepth 20000 in
set_option maxHeartbeats 400000 in
theorem c_impl_checkShort (w0 : World) (p0 : GCipher) (p1 : Int) (r : Int) (hF : F_impl_checkShort p0 p1 = some r) :
    Calls Try.prog 163 [(Value.agg (Flat.enc p0).toArray), (vI p1)].toArray w0 (fun en w' => ∃ v, en = .returned v ∧ (v = (vI r) ∧ Kept (Old w0) w0 w')) := by
  refine c_enter (n := 15) Try.func163 rfl rfl (Nat.le_of_ble_eq_true rfl) rfl ?_
  intro a hE
  have hM := M.start w0
  unfold F_impl_checkShort at hF
  refine c_region ?_
  refine s_box (cs := cat [[(vI p0.Field)], Flat.enc p0.Box, Flat.enc p0.Mix, Flat.enc p0.Places, [(vI p0.Rounds)]]) hE hM goes_none (by decide) rfl rfl ?_; intro b1 w a hM hE
  refine s_assign hE goes_none (by decide) rfl ?_; intro a hE
  refine c_fin ?_
  refine wp_seq ?_
  refine wp_block ?_
  refine c_region ?_
  refine s_loadA (cs := Flat.enc p0) hE goes_none (by decide) rfl ty58 rfl (hM.rawAt (pre := [])) (cat_len (cl1 (n := 1) (m := 289) rfl (cl1 (n := 256) (m := 33) (Flat.len _) (cl1 (n := 16) (m := 17) (Flat.len _) (cl1 (n := 16) (m := 1) (Flat.len _) (cl1 (n := 1) (m := 0) rfl cl0)))))) ?_; intro a hE
  obtain ⟨r3, e4, hF⟩ := bind_some hF
  refine s_call (vs := [(Value.agg (Flat.enc p0).toArray)]) hE goes_none (by decide) rfl cb92 (c_impl_IsCipher _ p0 r3 e4) ?_
  rintro v w a ⟨rfl, hK⟩ hE
  have hM := hM.keep hK
  refine s_not hE goes_none (by decide) rfl ?_; intro a hE
  refine s_assign hE goes_none (by decide) rfl ?_; intro a hE
  refine c_fin ?_
  refine c_cond hE rfl ?_ ?_
  · intro hb5
    have hF := ite_t hF hb5
    refine c_region ?_
    refine s_assign hE goes_none (by decide) rfl ?_; intro a hE
    refine c_fin ?_
    have hr := Option.some.inj hF
    subst hr
    have hM := M.fst (l := []) hM
    exact wp_ret (r_inb (r_then (k_ret1 hE rfl (res_tmp hE rfl) ⟨_, rfl, rfl, hM.kept⟩)))
  · intro hb5
    have hF := ite_f hF hb5
    refine c_region ?_
    refine s_move hE goes_none (by decide) rfl ?_; intro a hE
    refine s_fieldAddr hE goes_none (by decide) rfl (fd58_4) ?_; intro a hE
    refine s_load (v := (vI p0.Rounds)) hE goes_none (by decide) rfl ty2 rfl (At.cat (pre := [[(vI p0.Field)], Flat.enc p0.Box, Flat.enc p0.Mix, Flat.enc p0.Places]) (seg := [(vI p0.Rounds)]) (post := []) (hM.rawAt (pre := [])) (cl1 (n := 1) (m := 288) rfl (cl1 (n := 256) (m := 32) (Flat.len _) (cl1 (n := 16) (m := 16) (Flat.len _) (cl1 (n := 16) (m := 0) (Flat.len _) cl0))))) ?_; intro a hE
    obtain ⟨r6, e7, hF⟩ := bind_some hF
    refine s_call (vs := [(vI p1), (vI 0), (vI p0.Rounds)]) hE goes_none (by decide) rfl cb93 (c_impl_inRange _ p1 0 p0.Rounds r6 e7) ?_
    rintro v w a ⟨rfl, hK⟩ hE
    have hM := hM.keep hK
    refine s_not hE goes_none (by decide) rfl ?_; intro a hE
    refine s_assign hE goes_none (by decide) rfl ?_; intro a hE
    refine c_fin ?_
    refine c_cond hE rfl ?_ ?_
    · intro hb8
      have hF := ite_t hF hb8
      refine c_region ?_
      refine s_assign hE goes_none (by decide) rfl ?_; intro a hE
      refine c_fin ?_
      have hr := Option.some.inj hF
      subst hr
      have hM := M.fst (l := []) hM
      exact wp_ret (r_inb (r_then (k_ret1 hE rfl (res_tmp hE rfl) ⟨_, rfl, rfl, hM.kept⟩)))
    · intro hb8
      have hF := ite_f hF hb8
      refine wp_skip ?_
      refine c_nb ?_
      refine c_nx ?_
      refine c_region ?_
      refine s_assign hE goes_none (by decide) rfl ?_; intro a hE
      refine c_fin ?_
      have hr := Option.some.inj hF
      subst hr
      have hM := M.fst (l := []) hM
      exact wp_ret (k_ret1 hE rfl (res_tmp hE rfl) ⟨_, rfl, rfl, hM.kept⟩)
noncomputable def F_impl_isPlace (p0 : Int) : Option (Bool) :=
  (F_impl_inRange p0 0 15).bind fun (r1 : Bool) => some r1
set_option maxRecDepth 20000 in
set_option maxHeartbeats 400000 in
theorem c_impl_isPlace (w0 : World) (p0 : Int) (r : Bool) (hF : F_impl_isPlace p0 = some r) :
    Calls Try.prog 95 [(vI p0)].toArray w0 (fun en w' => ∃ v, en = .returned v ∧ (v = (vT r) ∧ Kept (Old w0) w0 w')) := by
  refine c_enter (n := 5) Try.func95 rfl rfl (Nat.le_of_ble_eq_true rfl) rfl ?_
  intro a hE
  have hM := M.start w0
  unfold F_impl_isPlace at hF
  refine c_region ?_
  refine s_assign hE goes_none (by decide) rfl ?_; intro a hE
  refine c_fin ?_
  refine c_region ?_
  refine s_move hE goes_none (by decide) rfl ?_; intro a hE
  obtain ⟨r1, e2, hF⟩ := bind_some hF
  refine s_call (vs := [(vI p0), (vI 0), (vI 15)]) hE goes_none (by decide) rfl cb93 (c_impl_inRange _ p0 0 15 r1 e2) ?_
  rintro v w a ⟨rfl, hK⟩ hE
  have hM := hM.keep hK
  refine s_assign hE goes_none (by decide) rfl ?_; intro a hE
  refine c_fin ?_
  have hr := Option.some.inj hF
  subst hr
  exact wp_ret (k_ret1 hE rfl (res_tmp hE rfl) ⟨_, rfl, rfl, hM.kept⟩)
noncomputable def F_impl_checkSet (p0 : GCipher) (p1 : Int) (p2 : Int) : Option (Int) :=
  (F_impl_checkShort p0 p2).bind fun (r3 : Int) => if (r3 != 0) = true then (some r3) else ((F_impl_isPlace p1).bind fun (r6 : Bool) => if (!r6) = true then (some 2) else (some 0))
set_option maxRecDepth 20000 in
set_option maxHeartbeats 400000 in
theorem c_impl_checkSet (w0 : World) (p0 : GCipher) (p1 : Int) (p2 : Int) (r : Int) (hF : F_impl_checkSet p0 p1 p2 = some r) :
    Calls Try.prog 109 [(Value.agg (Flat.enc p0).toArray), (vI p1), (vI p2)].toArray w0 (fun en w' => ∃ v, en = .returned v ∧ (v = (vI r) ∧ Kept (Old w0) w0 w')) := by
  refine c_enter (n := 19) Try.func109 rfl rfl (Nat.le_of_ble_eq_true rfl) rfl ?_
  intro a hE
  have hM := M.start w0
  unfold F_impl_checkSet at hF
  refine c_region ?_
  refine s_box (cs := cat [[(vI p0.Field)], Flat.enc p0.Box, Flat.enc p0.Mix, Flat.enc p0.Places, [(vI p0.Rounds)]]) hE hM goes_none (by decide) rfl rfl ?_; intro b1 w a hM hE
  refine s_assign hE goes_none (by decide) rfl ?_; intro a hE
  refine c_fin ?_
  refine wp_seq ?_
  refine c_region ?_
  refine s_loadA (cs := Flat.enc p0) hE goes_none (by decide) rfl ty58 rfl (hM.rawAt (pre := [])) (cat_len (cl1 (n := 1) (m := 289) rfl (cl1 (n := 256) (m := 33) (Flat.len _) (cl1 (n := 16) (m := 17) (Flat.len _) (cl1 (n := 16) (m := 1) (Flat.len _) (cl1 (n := 1) (m := 0) rfl cl0)))))) ?_; intro a hE
  refine s_move hE goes_none (by decide) rfl ?_; intro a hE
  obtain ⟨r3, e4, hF⟩ := bind_some hF
  refine s_call (vs := [(Value.agg (Flat.enc p0).toArray), (vI p2)]) hE goes_none (by decide) rfl cb163 (c_impl_checkShort _ p0 p2 r3 e4) ?_
  rintro v w a ⟨rfl, hK⟩ hE
  have hM := hM.keep hK
  refine s_assign hE goes_none (by decide) rfl ?_; intro a hE
  refine c_fin ?_
  refine wp_block ?_
  refine c_region ?_
  refine s_move hE goes_none (by decide) rfl ?_; intro a hE
  refine s_int hE goes_none (by decide) rfl rfl rfl ?_; intro a hE
  refine s_assign hE goes_none (by decide) rfl ?_; intro a hE
  refine c_fin ?_
  refine c_cond hE rfl ?_ ?_
  · intro hb5
    have hF := ite_t hF hb5
    refine c_region ?_
    refine s_move hE goes_none (by decide) rfl ?_; intro a hE
    refine s_assign hE goes_none (by decide) rfl ?_; intro a hE
    refine c_fin ?_
    have hr := Option.some.inj hF
    subst hr
    have hM := M.fst (l := []) hM
    exact wp_ret (r_inb (r_then (k_ret1 hE rfl (res_tmp hE rfl) ⟨_, rfl, rfl, hM.kept⟩)))
  · intro hb5
    have hF := ite_f hF hb5
    refine c_region ?_
    refine s_move hE goes_none (by decide) rfl ?_; intro a hE
    obtain ⟨r6, e7, hF⟩ := bind_some hF
    refine s_call (vs := [(vI p1)]) hE goes_none (by decide) rfl cb95 (c_impl_isPlace _ p1 r6 e7) ?_
    rintro v w a ⟨rfl, hK⟩ hE
    have hM := hM.keep hK
    refine s_not hE goes_none (by decide) rfl ?_; intro a hE
    refine s_assign hE goes_none (by decide) rfl ?_; intro a hE
    refine c_fin ?_
    refine c_cond hE rfl ?_ ?_
    · intro hb8
      have hF := ite_t hF hb8
      refine c_region ?_
      refine s_assign hE goes_none (by decide) rfl ?_; intro a hE
      refine c_fin ?_
      have hr := Option.some.inj hF
      subst hr
      have hM := M.fst (l := []) hM
      exact wp_ret (r_inb (r_then (k_ret1 hE rfl (res_tmp hE rfl) ⟨_, rfl, rfl, hM.kept⟩)))
    · intro hb8
      have hF := ite_f hF hb8
      refine wp_skip ?_
      refine c_nb ?_
      refine c_nx ?_
      refine c_region ?_
      refine s_assign hE goes_none (by decide) rfl ?_; intro a hE
      refine c_fin ?_
      have hr := Option.some.inj hF
      subst hr
      have hM := M.fst (l := []) hM
      exact wp_ret (k_ret1 hE rfl (res_tmp hE rfl) ⟨_, rfl, rfl, hM.kept⟩)
noncomputable def L0_impl_Box_inverse (p0 : (Vector UInt8 256)) (s10 : (Vector UInt8 256) × Int) : Option (Fl ((Vector UInt8 256) × Int) (Vector UInt8 256)) :=
  if (decide (s10.2 < 256)) = true then ((vidx p0 s10.2).bind fun (x15 : UInt8) => (vidx s10.1 (bI x15)).bind fun (x19 : UInt8) => some (Fl.nx ((s10.1.setIfInBounds ((bI x15)).toNat (byteI s10.2)), wr (s10.2 + 1)))) else (some (Fl.ex s10.1))
noncomputable def F_impl_Box_inverse (p0 : (Vector UInt8 256)) : Option ((Vector UInt8 256)) :=
  (iter (L0_impl_Box_inverse p0) ((Vector.replicate 256 (0 : UInt8)), 0) : Option ((Vector UInt8 256))).bind fun (j7 : (Vector UInt8 256)) => some j7
set_option maxRecDepth 20000 in
set_option maxHeartbeats 400000 in
theorem c_impl_Box_inverse (w0 : World) (p0 : (Vector UInt8 256)) (r : (Vector UInt8 256)) (hF : F_impl_Box_inverse p0 = some r) :
    Calls Try.prog 153 [(Value.agg (Flat.enc p0).toArray)].toArray w0 (fun en w' => ∃ v, en = .returned v ∧ (v = (Value.agg (Flat.enc r).toArray) ∧ Kept (Old w0) w0 w')) := by
  refine c_enter (n := 18) Try.func153 rfl rfl (Nat.le_of_ble_eq_true rfl) rfl ?_
  intro a hE
  have hM := M.start w0
  unfold F_impl_Box_inverse at hF
  refine c_region ?_
  refine s_box (cs := Flat.enc p0) hE hM goes_none (by decide) rfl rfl ?_; intro b1 w a hM hE
  refine s_alloc hE hM goes_none (by decide) ty54 ?_; intro b3 w a hM hE
  refine c_fin ?_
  refine c_region ?_
  refine s_buildA (parts := []) (vs := []) (cs := Flat.enc (Vector.replicate 256 (0 : UInt8))) hE goes_none (by decide) rfl rfl ty54 rfl ty5 filla_nil ?_; intro a hE
  refine s_alloc hE hM goes_none (by decide) ty54 ?_; intro b5 w a hM hE
  refine s_store (seg := Flat.enc (Vector.replicate 256 (0 : UInt8))) (cs' := Flat.enc (Vector.replicate 256 (0 : UInt8))) hE hM goes_none rfl rfl rfl ty54 (Flat.len _) (Nat.le_of_eq ((Nat.zero_add _).trans (Eq.trans (Flat.len _) (Eq.symm (Flat.len _))))) (Flat.cell _) (splice_all (Eq.trans (Flat.len _) (Eq.symm (Flat.len _)))) ?_; intro w a hM hE
  refine c_fin ?_
  refine wp_seq ?_
  refine c_region ?_
  refine s_loadA (cs := Flat.enc p0) hE goes_none (by decide) rfl ty54 rfl (hM.rawAt (pre := [_, _])) (Flat.len _) ?_; intro a hE
  refine s_move hE goes_none (by decide) rfl ?_; intro a hE
  refine c_fin ?_
  obtain ⟨j7, hl8, hF9⟩ := bind_some hF
  refine c_cut (fun a w => Env 18 a [(2, (ptr b3 0)), (3, (ptr b5 0))] ∧ M (Old w0) w0 w [raw b5 (Flat.enc j7), raw b3 (Flat.enc (Vector.replicate 256 (0 : UInt8)))]) ?_ ?_
  · skip
    refine wp_block ?_
    have hM := hM.pull (pre := [_])
    have hM := hM.pull (pre := [_])
    have hM := M.fst (l := [_, _]) hM
    refine c_loop (fun (s10 : (Vector UInt8 256) × Int) a w => Env 18 a [(2, (ptr b3 0)), (3, (ptr b5 0)), (7, (Value.agg (Flat.enc p0).toArray)), (8, (vI s10.2))] ∧ M (Old w0) w0 w [raw b5 (Flat.enc s10.1), raw b3 (Flat.enc (Vector.replicate 256 (0 : UInt8)))]) hl8 ⟨hE.sub ⟨rfl, rfl, rfl, rfl, trivial⟩, hM⟩ ?_
    rintro s10 a w ⟨hE, hM⟩ o13 hs11 hx12
    unfold L0_impl_Box_inverse at hs11
    refine c_region ?_
    refine s_int hE goes_none (by decide) rfl rfl rfl ?_; intro a hE
    refine c_fin ?_
    refine wp_seq ?_
    refine c_cond hE rfl ?_ ?_
    · intro hb14
      have hs11 := ite_t hs11 hb14
      refine wp_skip ?_
      refine c_nx ?_
      refine wp_seq ?_
      refine wp_block ?_
      refine c_region ?_
      refine s_move hE goes_none (by decide) rfl ?_; intro a hE
      obtain ⟨x15, e16, hs11⟩ := bind_some hs11
      have hi17 := vidx_some e16
      refine s_indexV hE goes_none (by decide) rfl rfl Try.underlying54 ty5 rfl rfl hi17 rfl ?_; intro a hE
      refine s_assign hE goes_none (by decide) rfl ?_; intro a hE
      refine s_assign hE goes_none (by decide) rfl ?_; intro a hE
      refine c_fin ?_
      refine wp_region_lit ?_
      refine s_move hE goes_none (by decide) rfl ?_; intro a hE
      refine s_move hE goes_none (by decide) rfl ?_; intro a hE
      refine s_conv hE goes_none (by decide) rfl Try.underlying3 Try.underlying5 ?_; intro a hE
      rw [byteI_val] at hE
      obtain ⟨x19, e20, hs11⟩ := bind_some hs11
      have hi18 := vidx_some e20
      refine s_indexA hE goes_none (by decide) rfl rfl Try.underlying54 ty5 hi18.1 ?_; intro a hE
      refine s_store (seg := [(vB (byteI s10.2))]) (cs' := Flat.enc (s10.1.setIfInBounds ((bI x15)).toNat (byteI s10.2))) hE hM goes_none rfl rfl rfl ty5 rfl (fit_vec (v := s10.1) (x := byteI s10.2) hi18.1) (Flat.cell (byteI s10.2 : UInt8)) (splice_vec0 (v := s10.1) (x := byteI s10.2) hi18.1) ?_; intro w a hM hE
      refine c_fin0 ?_
      refine c_nb ?_
      refine c_nx ?_
      refine wp_region_lit ?_
      refine s_int hE goes_none (by decide) rfl rfl rfl ?_; intro a hE
      refine s_move hE goes_none (by decide) rfl ?_; intro a hE
      refine c_fin0 ?_
      refine c_mid ?_
      exact ⟨_, (Option.some.inj hs11).symm, hE.sub ⟨rfl, rfl, rfl, rfl, trivial⟩, hM⟩
    · intro hb14
      have hs11 := ite_f hs11 hb14
      refine wp_exit (e_then (e_then (e_eq ?_)))
      have ht21 := hx12 _ (Option.some.inj hs11).symm
      subst ht21
      refine c_mid ?_
      exact ⟨hE.sub ⟨rfl, rfl, trivial⟩, hM⟩
  · skip
    rintro a w ⟨hE, hM⟩
    refine c_nx ?_
    refine c_region ?_
    refine s_loadA (cs := Flat.enc j7) hE goes_none (by decide) rfl ty54 rfl (hM.rawAt (pre := [])) (Flat.len _) ?_; intro a hE
    have hM := hM.pull (pre := [_])
    refine s_store (seg := Flat.enc j7) (cs' := Flat.enc j7) hE hM goes_none rfl rfl rfl ty54 (Flat.len _) (Nat.le_of_eq ((Nat.zero_add _).trans (Eq.trans (Flat.len _) (Eq.symm (Flat.len _))))) (Flat.cell _) (splice_all (Eq.trans (Flat.len _) (Eq.symm (Flat.len _)))) ?_; intro w a hM hE
    refine c_fin ?_
    have hr := Option.some.inj hF9
    subst hr
    have hq22 : ResIs Try.prog _ _ (.cell 2 54) _ := res_cell hE rfl ty54 rfl (hM.rawAt (pre := [])) (Flat.len _) rfl
    have hM := M.fst (l := []) hM
    exact wp_ret (k_ret1 hE rfl hq22 ⟨_, rfl, rfl, hM.kept⟩)
noncomputable def L0_impl_Places_inverse (p0 : (Vector UInt8 16)) (s10 : (Vector UInt8 16) × Int) : Option (Fl ((Vector UInt8 16) × Int) (Vector UInt8 16)) :=
  if (decide (s10.2 < 16)) = true then ((vidx p0 s10.2).bind fun (x15 : UInt8) => (vidx s10.1 (bI x15)).bind fun (x19 : UInt8) => some (Fl.nx ((s10.1.setIfInBounds ((bI x15)).toNat (byteI s10.2)), wr (s10.2 + 1)))) else (some (Fl.ex s10.1))
noncomputable def F_impl_Places_inverse (p0 : (Vector UInt8 16)) : Option ((Vector UInt8 16)) :=
  (iter (L0_impl_Places_inverse p0) ((Vector.replicate 16 (0 : UInt8)), 0) : Option ((Vector UInt8 16))).bind fun (j7 : (Vector UInt8 16)) => some j7
set_option maxRecDepth 20000 in
set_option maxHeartbeats 400000 in
theorem c_impl_Places_inverse (w0 : World) (p0 : (Vector UInt8 16)) (r : (Vector UInt8 16)) (hF : F_impl_Places_inverse p0 = some r) :
    Calls Try.prog 154 [(Value.agg (Flat.enc p0).toArray)].toArray w0 (fun en w' => ∃ v, en = .returned v ∧ (v = (Value.agg (Flat.enc r).toArray) ∧ Kept (Old w0) w0 w')) := by
  refine c_enter (n := 18) Try.func154 rfl rfl (Nat.le_of_ble_eq_true rfl) rfl ?_
  intro a hE
  have hM := M.start w0
  unfold F_impl_Places_inverse at hF
  refine c_region ?_
  refine s_box (cs := Flat.enc p0) hE hM goes_none (by decide) rfl rfl ?_; intro b1 w a hM hE
  refine s_alloc hE hM goes_none (by decide) ty56 ?_; intro b3 w a hM hE
  refine c_fin ?_
  refine c_region ?_
  refine s_buildA (parts := []) (vs := []) (cs := Flat.enc (Vector.replicate 16 (0 : UInt8))) hE goes_none (by decide) rfl rfl ty56 rfl ty5 filla_nil ?_; intro a hE
  refine s_alloc hE hM goes_none (by decide) ty56 ?_; intro b5 w a hM hE
  refine s_store (seg := Flat.enc (Vector.replicate 16 (0 : UInt8))) (cs' := Flat.enc (Vector.replicate 16 (0 : UInt8))) hE hM goes_none rfl rfl rfl ty56 (Flat.len _) (Nat.le_of_eq ((Nat.zero_add _).trans (Eq.trans (Flat.len _) (Eq.symm (Flat.len _))))) (Flat.cell _) (splice_all (Eq.trans (Flat.len _) (Eq.symm (Flat.len _)))) ?_; intro w a hM hE
  refine c_fin ?_
  refine wp_seq ?_
  refine c_region ?_
  refine s_loadA (cs := Flat.enc p0) hE goes_none (by decide) rfl ty56 rfl (hM.rawAt (pre := [_, _])) (Flat.len _) ?_; intro a hE
  refine s_move hE goes_none (by decide) rfl ?_; intro a hE
  refine c_fin ?_
  obtain ⟨j7, hl8, hF9⟩ := bind_some hF
  refine c_cut (fun a w => Env 18 a [(2, (ptr b3 0)), (3, (ptr b5 0))] ∧ M (Old w0) w0 w [raw b5 (Flat.enc j7), raw b3 (Flat.enc (Vector.replicate 16 (0 : UInt8)))]) ?_ ?_
  · skip
    refine wp_block ?_
    have hM := hM.pull (pre := [_])
    have hM := hM.pull (pre := [_])
    have hM := M.fst (l := [_, _]) hM
    refine c_loop (fun (s10 : (Vector UInt8 16) × Int) a w => Env 18 a [(2, (ptr b3 0)), (3, (ptr b5 0)), (7, (Value.agg (Flat.enc p0).toArray)), (8, (vI s10.2))] ∧ M (Old w0) w0 w [raw b5 (Flat.enc s10.1), raw b3 (Flat.enc (Vector.replicate 16 (0 : UInt8)))]) hl8 ⟨hE.sub ⟨rfl, rfl, rfl, rfl, trivial⟩, hM⟩ ?_
    rintro s10 a w ⟨hE, hM⟩ o13 hs11 hx12
    unfold L0_impl_Places_inverse at hs11
    refine c_region ?_
    refine s_int hE goes_none (by decide) rfl rfl rfl ?_; intro a hE
    refine c_fin ?_
    refine wp_seq ?_
    refine c_cond hE rfl ?_ ?_
    · intro hb14
      have hs11 := ite_t hs11 hb14
      refine wp_skip ?_
      refine c_nx ?_
      refine wp_seq ?_
      refine wp_block ?_
      refine c_region ?_
      refine s_move hE goes_none (by decide) rfl ?_; intro a hE
      obtain ⟨x15, e16, hs11⟩ := bind_some hs11
      have hi17 := vidx_some e16
      refine s_indexV hE goes_none (by decide) rfl rfl Try.underlying56 ty5 rfl rfl hi17 rfl ?_; intro a hE
      refine s_assign hE goes_none (by decide) rfl ?_; intro a hE
      refine s_assign hE goes_none (by decide) rfl ?_; intro a hE
      refine c_fin ?_
      refine wp_region_lit ?_
      refine s_move hE goes_none (by decide) rfl ?_; intro a hE
      refine s_move hE goes_none (by decide) rfl ?_; intro a hE
      refine s_conv hE goes_none (by decide) rfl Try.underlying3 Try.underlying5 ?_; intro a hE
      rw [byteI_val] at hE
      obtain ⟨x19, e20, hs11⟩ := bind_some hs11
      have hi18 := vidx_some e20
      refine s_indexA hE goes_none (by decide) rfl rfl Try.underlying56 ty5 hi18.1 ?_; intro a hE
      refine s_store (seg := [(vB (byteI s10.2))]) (cs' := Flat.enc (s10.1.setIfInBounds ((bI x15)).toNat (byteI s10.2))) hE hM goes_none rfl rfl rfl ty5 rfl (fit_vec (v := s10.1) (x := byteI s10.2) hi18.1) (Flat.cell (byteI s10.2 : UInt8)) (splice_vec0 (v := s10.1) (x := byteI s10.2) hi18.1) ?_; intro w a hM hE
      refine c_fin0 ?_
      refine c_nb ?_
      refine c_nx ?_
      refine wp_region_lit ?_
      refine s_int hE goes_none (by decide) rfl rfl rfl ?_; intro a hE
      refine s_move hE goes_none (by decide) rfl ?_; intro a hE
      refine c_fin0 ?_
      refine c_mid ?_
      exact ⟨_, (Option.some.inj hs11).symm, hE.sub ⟨rfl, rfl, rfl, rfl, trivial⟩, hM⟩
    · intro hb14
      have hs11 := ite_f hs11 hb14
      refine wp_exit (e_then (e_then (e_eq ?_)))
      have ht21 := hx12 _ (Option.some.inj hs11).symm
      subst ht21
      refine c_mid ?_
      exact ⟨hE.sub ⟨rfl, rfl, trivial⟩, hM⟩
  · skip
    rintro a w ⟨hE, hM⟩
    refine c_nx ?_
    refine c_region ?_
    refine s_loadA (cs := Flat.enc j7) hE goes_none (by decide) rfl ty56 rfl (hM.rawAt (pre := [])) (Flat.len _) ?_; intro a hE
    have hM := hM.pull (pre := [_])
    refine s_store (seg := Flat.enc j7) (cs' := Flat.enc j7) hE hM goes_none rfl rfl rfl ty56 (Flat.len _) (Nat.le_of_eq ((Nat.zero_add _).trans (Eq.trans (Flat.len _) (Eq.symm (Flat.len _))))) (Flat.cell _) (splice_all (Eq.trans (Flat.len _) (Eq.symm (Flat.len _)))) ?_; intro w a hM hE
    refine c_fin ?_
    have hr := Option.some.inj hF9
    subst hr
    have hq22 : ResIs Try.prog _ _ (.cell 2 56) _ := res_cell hE rfl ty56 rfl (hM.rawAt (pre := [])) (Flat.len _) rfl
    have hM := M.fst (l := []) hM
    exact wp_ret (k_ret1 hE rfl hq22 ⟨_, rfl, rfl, hM.kept⟩)
noncomputable def L3_impl_newMixer (s8 : (Vector (Vector (Vector UInt8 256) 4) 4) × Int) (s19 : (Vector (Vector (Vector UInt8 256) 4) 4) × Int) (s30 : (Vector (Vector (Vector UInt8 256) 4) 4) × Int) (r35 : UInt8) (s40 : (Vector (Vector (Vector UInt8 256) 4) 4) × Int) : Option (Fl ((Vector (Vector (Vector UInt8 256) 4) 4) × Int) (Vector (Vector (Vector UInt8 256) 4) 4)) :=
  if (decide (s40.2 < s30.2)) = true then ((vidx s40.1 s8.2).bind fun (x47 : (Vector (Vector UInt8 256) 4)) => (vidx x47 s19.2).bind fun (x50 : (Vector UInt8 256)) => (vidx x50 s40.2).bind fun (x53 : UInt8) => (vidx s40.1 s8.2).bind fun (x56 : (Vector (Vector UInt8 256) 4)) => (vidx x56 s19.2).bind fun (x59 : (Vector UInt8 256)) => (vidx x59 (orI s30.2 s40.2)).bind fun (x62 : UInt8) => some (Fl.nx ((s40.1.setIfInBounds (s8.2).toNat (x56.setIfInBounds (s19.2).toNat (x59.setIfInBounds ((orI s30.2 s40.2)).toNat (r35 ^^^ x53)))), wr (s40.2 + 1)))) else (some (Fl.ex s40.1))
noncomputable def L2_impl_newMixer (p0 : Int) (s8 : (Vector (Vector (Vector UInt8 256) 4) 4) × Int) (s19 : (Vector (Vector (Vector UInt8 256) 4) 4) × Int) (x24 : UInt8) (s30 : (Vector (Vector (Vector UInt8 256) 4) 4) × Int) : Option (Fl ((Vector (Vector (Vector UInt8 256) 4) 4) × Int) (Vector (Vector (Vector UInt8 256) 4) 4)) :=
  if (decide (s30.2 < 256)) = true then ((F_impl_field_times p0 x24 (byteI s30.2)).bind fun (r35 : UInt8) => (iter (L3_impl_newMixer s8 s19 s30 r35) (s30.1, 0) : Option ((Vector (Vector (Vector UInt8 256) 4) 4))).bind fun (j37 : (Vector (Vector (Vector UInt8 256) 4) 4)) => some (Fl.nx (j37, wr (s30.2 * 2)))) else (some (Fl.ex s30.1))
noncomputable def L1_impl_newMixer (p0 : Int) (s8 : (Vector (Vector (Vector UInt8 256) 4) 4) × Int) (x14 : (Vector UInt8 4)) (s19 : (Vector (Vector (Vector UInt8 256) 4) 4) × Int) : Option (Fl ((Vector (Vector (Vector UInt8 256) 4) 4) × Int) (Vector (Vector (Vector UInt8 256) 4) 4)) :=
  if (decide (s19.2 < 4)) = true then ((vidx x14 s19.2).bind fun (x24 : UInt8) => (iter (L2_impl_newMixer p0 s8 s19 x24) (s19.1, 1) : Option ((Vector (Vector (Vector UInt8 256) 4) 4))).bind fun (j27 : (Vector (Vector (Vector UInt8 256) 4) 4)) => some (Fl.nx (j27, wr (s19.2 + 1)))) else (some (Fl.ex s19.1))
noncomputable def L0_impl_newMixer (p0 : Int) (p1 : (Vector (Vector UInt8 4) 4)) (s8 : (Vector (Vector (Vector UInt8 256) 4) 4) × Int) : Option (Fl ((Vector (Vector (Vector UInt8 256) 4) 4) × Int) (Vector (Vector (Vector UInt8 256) 4) 4)) :=
  if (decide (s8.2 < 4)) = true then ((vidx p1 s8.2).bind fun (x14 : (Vector UInt8 4)) => (iter (L1_impl_newMixer p0 s8 x14) (s8.1, 0) : Option ((Vector (Vector (Vector UInt8 256) 4) 4))).bind fun (j16 : (Vector (Vector (Vector UInt8 256) 4) 4)) => some (Fl.nx (j16, wr (s8.2 + 1)))) else (some (Fl.ex s8.1))
noncomputable def F_impl_newMixer (p0 : Int) (p1 : (Vector (Vector UInt8 4) 4)) : Option ((Ref (Vector (Vector (Vector UInt8 256) 4) 4))) :=
  (iter (L0_impl_newMixer p0 p1) ((Vector.replicate 4 (Vector.replicate 4 (Vector.replicate 256 (0 : UInt8)))), 0) : Option ((Vector (Vector (Vector UInt8 256) 4) 4))).bind fun (j5 : (Vector (Vector (Vector UInt8 256) 4) 4)) => some (⟨j5⟩ : (Ref (Vector (Vector (Vector UInt8 256) 4) 4)))
set_option maxRecDepth 20000 in
set_option maxHeartbeats 400000 in
theorem c_impl_newMixer (w0 : World) (p0 : Int) (p1 : (Vector (Vector UInt8 4) 4)) (r : (Ref (Vector (Vector (Vector UInt8 256) 4) 4))) (hF : F_impl_newMixer p0 p1 = some r) :
    Calls Try.prog 155 [(vI p0), (Value.agg (Flat.enc p1).toArray)].toArray w0 (fun en w' => ∃ v, en = .returned v ∧ (∃ (y1 : Value), v = y1 ∧ Fr w0 w' [own NoB (r : (Ref (Vector (Vector (Vector UInt8 256) 4) 4))) [y1]] ∧ Kept (Old w0) w0 w')) := by
  refine c_enter (n := 62) Try.func155 rfl rfl (Nat.le_of_ble_eq_true rfl) rfl ?_
  intro a hE
  have hM := M.start w0
  unfold F_impl_newMixer at hF
  refine c_region ?_
  refine s_box (cs := Flat.enc p1) hE hM goes_none (by decide) rfl rfl ?_; intro b1 w a hM hE
  refine s_assign hE goes_none (by decide) rfl ?_; intro a hE
  refine c_fin ?_
  refine c_region ?_
  refine s_buildA (parts := []) (vs := []) (cs := Flat.enc (Vector.replicate 4 (Vector.replicate 4 (Vector.replicate 256 (0 : UInt8))))) hE goes_none (by decide) rfl rfl ty217 rfl ty215 filla_nil ?_; intro a hE
  refine s_box (cs := Flat.enc (Vector.replicate 4 (Vector.replicate 4 (Vector.replicate 256 (0 : UInt8))))) hE hM goes_none (by decide) rfl rfl ?_; intro b3 w a hM hE
  refine s_assign hE goes_none (by decide) rfl ?_; intro a hE
  refine c_fin ?_
  refine wp_seq ?_
  refine c_region ?_
  refine s_move hE goes_none (by decide) rfl ?_; intro a hE
  refine c_fin ?_
  obtain ⟨j5, hl6, hF7⟩ := bind_some hF
  refine c_cut (fun a w => Env 62 a [(5, (ptr b3 0))] ∧ M (Old w0) w0 w [raw b3 (Flat.enc j5)]) ?_ ?_
  · skip
    refine wp_block ?_
    refine c_loop (fun (s8 : (Vector (Vector (Vector UInt8 256) 4) 4) × Int) a w => Env 62 a [(0, (vI p0)), (3, (ptr b1 0)), (5, (ptr b3 0)), (14, (vI s8.2))] ∧ M (Old w0) w0 w [raw b3 (Flat.enc s8.1), raw b1 (Flat.enc p1)]) hl6 ⟨hE.sub ⟨rfl, rfl, rfl, rfl, trivial⟩, hM⟩ ?_
    rintro s8 a w ⟨hE, hM⟩ o11 hs9 hx10
    unfold L0_impl_newMixer at hs9
    refine c_region ?_
    refine s_int hE goes_none (by decide) rfl rfl rfl ?_; intro a hE
    refine c_fin ?_
    refine wp_seq ?_
    refine c_cond hE rfl ?_ ?_
    · intro hb12
      have hs9 := ite_t hs9 hb12
      refine wp_skip ?_
      refine c_nx ?_
      refine wp_seq ?_
      refine wp_block ?_
      refine c_region ?_
      refine s_move hE goes_none (by decide) rfl ?_; intro a hE
      refine s_assign hE goes_none (by decide) rfl ?_; intro a hE
      refine c_fin ?_
      refine c_region ?_
      refine s_move hE goes_none (by decide) rfl ?_; intro a hE
      obtain ⟨x14, e15, hs9⟩ := bind_some hs9
      have hi13 := vidx_some e15
      refine s_indexA hE goes_none (by decide) rfl rfl Try.underlying55 ty44 hi13.1 ?_; intro a hE
      refine s_loadA (cs := Flat.enc x14) hE goes_none (by decide) rfl ty44 rfl (At.vec (hM.rawAt (pre := [_])) hi13.2) (Flat.len _) ?_; intro a hE
      refine s_move hE goes_none (by decide) rfl ?_; intro a hE
      refine c_fin ?_
      obtain ⟨j16, hl17, hF18⟩ := bind_some hs9
      refine c_cut (fun a w => Env 62 a [(0, (vI p0)), (3, (ptr b1 0)), (5, (ptr b3 0)), (14, (vI s8.2))] ∧ M (Old w0) w0 w [raw b3 (Flat.enc j16), raw b1 (Flat.enc p1)]) ?_ ?_
      · skip
        refine wp_block ?_
        refine c_loop (fun (s19 : (Vector (Vector (Vector UInt8 256) 4) 4) × Int) a w => Env 62 a [(0, (vI p0)), (3, (ptr b1 0)), (5, (ptr b3 0)), (6, (vI s8.2)), (14, (vI s8.2)), (19, (Value.agg (Flat.enc x14).toArray)), (20, (vI s19.2))] ∧ M (Old w0) w0 w [raw b3 (Flat.enc s19.1), raw b1 (Flat.enc p1)]) hl17 ⟨hE.sub ⟨rfl, rfl, rfl, rfl, rfl, rfl, rfl, trivial⟩, hM⟩ ?_
        rintro s19 a w ⟨hE, hM⟩ o22 hs20 hx21
        unfold L1_impl_newMixer at hs20
        refine c_region ?_
        refine s_int hE goes_none (by decide) rfl rfl rfl ?_; intro a hE
        refine c_fin ?_
        refine wp_seq ?_
        refine c_cond hE rfl ?_ ?_
        · intro hb23
          have hs20 := ite_t hs20 hb23
          refine wp_skip ?_
          refine c_nx ?_
          refine wp_seq ?_
          refine wp_block ?_
          refine c_region ?_
          refine s_move hE goes_none (by decide) rfl ?_; intro a hE
          obtain ⟨x24, e25, hs20⟩ := bind_some hs20
          have hi26 := vidx_some e25
          refine s_indexV hE goes_none (by decide) rfl rfl Try.underlying44 ty5 rfl rfl hi26 rfl ?_; intro a hE
          refine s_assign hE goes_none (by decide) rfl ?_; intro a hE
          refine s_assign hE goes_none (by decide) rfl ?_; intro a hE
          refine c_fin ?_
          refine c_region ?_
          refine s_assign hE goes_none (by decide) rfl ?_; intro a hE
          refine c_fin ?_
          obtain ⟨j27, hl28, hF29⟩ := bind_some hs20
          refine c_cut (fun a w => Env 62 a [(0, (vI p0)), (3, (ptr b1 0)), (5, (ptr b3 0)), (6, (vI s8.2)), (14, (vI s8.2)), (19, (Value.agg (Flat.enc x14).toArray)), (20, (vI s19.2))] ∧ M (Old w0) w0 w [raw b3 (Flat.enc j27), raw b1 (Flat.enc p1)]) ?_ ?_
          · skip
            refine wp_block ?_
            refine c_loop (fun (s30 : (Vector (Vector (Vector UInt8 256) 4) 4) × Int) a w => Env 62 a [(0, (vI p0)), (3, (ptr b1 0)), (5, (ptr b3 0)), (6, (vI s8.2)), (7, (vI s19.2)), (8, (vB x24)), (9, (vI s30.2)), (14, (vI s8.2)), (19, (Value.agg (Flat.enc x14).toArray)), (20, (vI s19.2))] ∧ M (Old w0) w0 w [raw b3 (Flat.enc s30.1), raw b1 (Flat.enc p1)]) hl28 ⟨hE.sub ⟨rfl, rfl, rfl, rfl, rfl, rfl, rfl, rfl, rfl, rfl, trivial⟩, hM⟩ ?_
            rintro s30 a w ⟨hE, hM⟩ o33 hs31 hx32
            unfold L2_impl_newMixer at hs31
            refine wp_seq ?_
            refine c_region ?_
            refine s_move hE goes_none (by decide) rfl ?_; intro a hE
            refine s_int hE goes_none (by decide) rfl rfl rfl ?_; intro a hE
            refine c_fin ?_
            refine c_cond hE rfl ?_ ?_
            · intro hb34
              have hs31 := ite_t hs31 hb34
              refine wp_skip ?_
              refine c_nx ?_
              refine wp_seq ?_
              refine wp_block ?_
              refine c_region ?_
              refine s_move hE goes_none (by decide) rfl ?_; intro a hE
              refine s_move hE goes_none (by decide) rfl ?_; intro a hE
              refine s_move hE goes_none (by decide) rfl ?_; intro a hE
              refine s_conv hE goes_none (by decide) rfl Try.underlying3 Try.underlying5 ?_; intro a hE
              rw [byteI_val] at hE
              obtain ⟨r35, e36, hs31⟩ := bind_some hs31
              refine s_call (vs := [(vI p0), (vB x24), (vB (byteI s30.2))]) hE goes_none (by decide) rfl cb189 (c_impl_field_times _ p0 x24 (byteI s30.2) r35 e36) ?_
              rintro v w a ⟨rfl, hK⟩ hE
              have hM := hM.keep hK
              refine s_assign hE goes_none (by decide) rfl ?_; intro a hE
              refine c_fin ?_
              refine c_region ?_
              refine s_move hE goes_none (by decide) rfl ?_; intro a hE
              refine s_move hE goes_none (by decide) rfl ?_; intro a hE
              refine c_fin ?_
              obtain ⟨j37, hl38, hF39⟩ := bind_some hs31
              refine c_cut (fun a w => Env 62 a [(0, (vI p0)), (3, (ptr b1 0)), (5, (ptr b3 0)), (6, (vI s8.2)), (7, (vI s19.2)), (8, (vB x24)), (9, (vI s30.2)), (14, (vI s8.2)), (19, (Value.agg (Flat.enc x14).toArray)), (20, (vI s19.2))] ∧ M (Old w0) w0 w [raw b3 (Flat.enc j37), raw b1 (Flat.enc p1)]) ?_ ?_
              · skip
                refine wp_block ?_
                refine c_loop (fun (s40 : (Vector (Vector (Vector UInt8 256) 4) 4) × Int) a w => Env 62 a [(0, (vI p0)), (3, (ptr b1 0)), (5, (ptr b3 0)), (6, (vI s8.2)), (7, (vI s19.2)), (8, (vB x24)), (9, (vI s30.2)), (10, (vB r35)), (14, (vI s8.2)), (19, (Value.agg (Flat.enc x14).toArray)), (20, (vI s19.2)), (33, (vI s30.2)), (34, (vI s40.2))] ∧ M (Old w0) w0 w [raw b3 (Flat.enc s40.1), raw b1 (Flat.enc p1)]) hl38 ⟨hE.sub ⟨rfl, rfl, rfl, rfl, rfl, rfl, rfl, rfl, rfl, rfl, rfl, rfl, rfl, trivial⟩, hM⟩ ?_
                rintro s40 a w ⟨hE, hM⟩ o43 hs41 hx42
                unfold L3_impl_newMixer at hs41
                refine c_region ?_
                refine s_int hE goes_none (by decide) rfl rfl rfl ?_; intro a hE
                refine c_fin ?_
                refine wp_seq ?_
                refine c_cond hE rfl ?_ ?_
                · intro hb44
                  have hs41 := ite_t hs41 hb44
                  refine wp_skip ?_
                  refine c_nx ?_
                  refine wp_seq ?_
                  refine wp_block ?_
                  refine c_region ?_
                  refine s_move hE goes_none (by decide) rfl ?_; intro a hE
                  refine s_assign hE goes_none (by decide) rfl ?_; intro a hE
                  refine c_fin ?_
                  obtain ⟨x47, e48, hs41⟩ := bind_some hs41
                  have hi46 := vidx_some e48
                  obtain ⟨x50, e51, hs41⟩ := bind_some hs41
                  have hi49 := vidx_some e51
                  obtain ⟨x53, e54, hs41⟩ := bind_some hs41
                  have hi52 := vidx_some e54
                  obtain ⟨x56, e57, hs41⟩ := bind_some hs41
                  have hi55 := vidx_some e57
                  obtain ⟨x59, e60, hs41⟩ := bind_some hs41
                  have hi58 := vidx_some e60
                  obtain ⟨x62, e63, hs41⟩ := bind_some hs41
                  have hi61 := vidx_some e63
                  refine c_draw (n := 62) (hd := [_, _, _, _, _, _, _, _, _, _, _, _, _, _, _, _, _, _, _, _, _]) (tl := [_]) hmix rfl rfl [37, 38, 39, 40, 41, 42, 43, 44, 45, 46, 47, 48, 49, 50, 51, 52, 53, 54, 55, 56, 57] (by decide) (fun w => M (Old w0) w0 w [raw b3 (Flat.enc s40.1), raw b1 (Flat.enc p1)]) (fun j => ([fun v _ => v = (ptr b3 0), fun v _ => v = (vI s8.2), fun v _ => v = (vI s19.2), fun v _ => v = (vI s30.2), fun v _ => v = (vI s40.2), fun v _ => v = (vI (orI s30.2 s40.2)), fun v _ => v = (vB r35), fun v _ => v = (ptr b3 0), fun v _ => v = (vI s8.2), fun v _ => v = (vI s19.2), fun v _ => v = (vI s40.2), fun v _ => v = (ptr b3 0), fun v _ => v = (ptr b3 (0 + (s8.2).toNat * 1024)), fun v _ => v = (ptr b3 (0 + (s8.2).toNat * 1024 + (s19.2).toNat * 256)), fun v _ => v = (ptr b3 (0 + (s8.2).toNat * 1024 + (s19.2).toNat * 256 + (s40.2).toNat * 1)), fun v _ => v = (vB x53), fun v _ => v = (vB (r35 ^^^ x53)), fun v _ => v = (ptr b3 0), fun v _ => v = (ptr b3 (0 + (s8.2).toNat * 1024)), fun v _ => v = (ptr b3 (0 + (s8.2).toNat * 1024 + (s19.2).toNat * 256)), fun v _ => v = (ptr b3 (0 + (s8.2).toNat * 1024 + (s19.2).toNat * 256 + ((orI s30.2 s40.2)).toNat * 1))] : List (Value → World → Prop)).getD j (fun _ _ => True)) (fun _ _ h hk => h.keep hk) (gup (gupE (gupE (gupE (gupE (gupE (gupE (gupE (gupE (gupE (gupE (gupE (gupE (gupE (gupE (gupE (gupE (gupE (gupE (gupE (gupE (gupE gupN)))))))))))))))))))))) hE hM.drew (steps_of (steps_cons ?_ (steps_cons ?_ (steps_cons ?_ (steps_cons ?_ (steps_cons ?_ (steps_cons ?_ (steps_cons ?_ (steps_cons ?_ (steps_cons ?_ (steps_cons ?_ (steps_cons ?_ (steps_cons ?_ (steps_cons ?_ (steps_cons ?_ (steps_cons ?_ (steps_cons ?_ (steps_cons ?_ (steps_cons ?_ (steps_cons ?_ (steps_cons ?_ (steps_cons ?_ steps_nil)))))))))))))))))))))) ?_
                  · intro a w ux45 hE hM hp
                    refine s_move hE goes_none (by decide) rfl ?_; intro a hE
                    exact ⟨Kept.refl _ _, _, _, rfl, hE, rfl⟩
                  · intro a w ux45 hE hM hp
                    refine s_move hE goes_none (by decide) rfl ?_; intro a hE
                    exact ⟨Kept.refl _ _, _, _, rfl, hE, rfl⟩
                  · intro a w ux45 hE hM hp
                    refine s_move hE goes_none (by decide) rfl ?_; intro a hE
                    exact ⟨Kept.refl _ _, _, _, rfl, hE, rfl⟩
                  · intro a w ux45 hE hM hp
                    refine s_move hE goes_none (by decide) rfl ?_; intro a hE
                    exact ⟨Kept.refl _ _, _, _, rfl, hE, rfl⟩
                  · intro a w ux45 hE hM hp
                    refine s_move hE goes_none (by decide) rfl ?_; intro a hE
                    exact ⟨Kept.refl _ _, _, _, rfl, hE, rfl⟩
                  · intro a w ux45 hE hM hp
                    have f3 : ux45 3 = (vI s30.2) := hp 0 _ rfl rfl
                    have f4 : ux45 4 = (vI s40.2) := hp 1 _ rfl rfl
                    refine s_int hE goes_none (by decide) (lk rfl f3) (lk rfl f4) rfl ?_; intro a hE
                    exact ⟨Kept.refl _ _, _, _, rfl, hE, rfl⟩
                  · intro a w ux45 hE hM hp
                    refine s_move hE goes_none (by decide) rfl ?_; intro a hE
                    exact ⟨Kept.refl _ _, _, _, rfl, hE, rfl⟩
                  · intro a w ux45 hE hM hp
                    refine s_move hE goes_none (by decide) rfl ?_; intro a hE
                    exact ⟨Kept.refl _ _, _, _, rfl, hE, rfl⟩
                  · intro a w ux45 hE hM hp
                    refine s_move hE goes_none (by decide) rfl ?_; intro a hE
                    exact ⟨Kept.refl _ _, _, _, rfl, hE, rfl⟩
                  · intro a w ux45 hE hM hp
                    refine s_move hE goes_none (by decide) rfl ?_; intro a hE
                    exact ⟨Kept.refl _ _, _, _, rfl, hE, rfl⟩
                  · intro a w ux45 hE hM hp
                    refine s_move hE goes_none (by decide) rfl ?_; intro a hE
                    exact ⟨Kept.refl _ _, _, _, rfl, hE, rfl⟩
                  · intro a w ux45 hE hM hp
                    have f7 : ux45 7 = (ptr b3 0) := hp 0 _ rfl rfl
                    refine s_nilCheck hE goes_none (by decide) (lk rfl f7) ?_; intro a hE
                    exact ⟨Kept.refl _ _, _, _, rfl, hE, rfl⟩
                  · intro a w ux45 hE hM hp
                    have f8 : ux45 8 = (vI s8.2) := hp 1 _ rfl rfl
                    have f11 : ux45 11 = (ptr b3 0) := hp 0 _ rfl rfl
                    refine s_indexA hE goes_none (by decide) (lk rfl f11) (lk rfl f8) Try.underlying217 ty215 hi46.1 ?_; intro a hE
                    exact ⟨Kept.refl _ _, _, _, rfl, hE, rfl⟩
                  · intro a w ux45 hE hM hp
                    have f9 : ux45 9 = (vI s19.2) := hp 1 _ rfl rfl
                    have f12 : ux45 12 = (ptr b3 (0 + (s8.2).toNat * 1024)) := hp 0 _ rfl rfl
                    refine s_indexA hE goes_none (by decide) (lk rfl f12) (lk rfl f9) Try.underlying215 ty43 hi49.1 ?_; intro a hE
                    exact ⟨Kept.refl _ _, _, _, rfl, hE, rfl⟩
                  · intro a w ux45 hE hM hp
                    have f10 : ux45 10 = (vI s40.2) := hp 1 _ rfl rfl
                    have f13 : ux45 13 = (ptr b3 (0 + (s8.2).toNat * 1024 + (s19.2).toNat * 256)) := hp 0 _ rfl rfl
                    refine s_indexA hE goes_none (by decide) (lk rfl f13) (lk rfl f10) Try.underlying43 ty5 hi52.1 ?_; intro a hE
                    exact ⟨Kept.refl _ _, _, _, rfl, hE, rfl⟩
                  · intro a w ux45 hE hM hp
                    have f14 : ux45 14 = (ptr b3 (0 + (s8.2).toNat * 1024 + (s19.2).toNat * 256 + (s40.2).toNat * 1)) := hp 0 _ rfl rfl
                    refine s_load (v := (vB x53)) hE goes_none (by decide) (lk rfl f14) ty5 rfl (At.vec (At.vec (At.vec (hM.rawAt (pre := [])) hi46.2) hi49.2) hi52.2) ?_; intro a hE
                    exact ⟨Kept.refl _ _, _, _, rfl, hE, rfl⟩
                  · intro a w ux45 hE hM hp
                    have f6 : ux45 6 = (vB r35) := hp 0 _ rfl rfl
                    have f15 : ux45 15 = (vB x53) := hp 1 _ rfl rfl
                    refine s_int hE goes_none (by decide) (lk rfl f6) (lk rfl f15) (bB_xor r35 x53) ?_; intro a hE
                    exact ⟨Kept.refl _ _, _, _, rfl, hE, rfl⟩
                  · intro a w ux45 hE hM hp
                    have f0 : ux45 0 = (ptr b3 0) := hp 0 _ rfl rfl
                    refine s_nilCheck hE goes_none (by decide) (lk rfl f0) ?_; intro a hE
                    exact ⟨Kept.refl _ _, _, _, rfl, hE, rfl⟩
                  · intro a w ux45 hE hM hp
                    have f1 : ux45 1 = (vI s8.2) := hp 1 _ rfl rfl
                    have f17 : ux45 17 = (ptr b3 0) := hp 0 _ rfl rfl
                    refine s_indexA hE goes_none (by decide) (lk rfl f17) (lk rfl f1) Try.underlying217 ty215 hi55.1 ?_; intro a hE
                    exact ⟨Kept.refl _ _, _, _, rfl, hE, rfl⟩
                  · intro a w ux45 hE hM hp
                    have f2 : ux45 2 = (vI s19.2) := hp 1 _ rfl rfl
                    have f18 : ux45 18 = (ptr b3 (0 + (s8.2).toNat * 1024)) := hp 0 _ rfl rfl
                    refine s_indexA hE goes_none (by decide) (lk rfl f18) (lk rfl f2) Try.underlying215 ty43 hi58.1 ?_; intro a hE
                    exact ⟨Kept.refl _ _, _, _, rfl, hE, rfl⟩
                  · intro a w ux45 hE hM hp
                    have f5 : ux45 5 = (vI (orI s30.2 s40.2)) := hp 1 _ rfl rfl
                    have f19 : ux45 19 = (ptr b3 (0 + (s8.2).toNat * 1024 + (s19.2).toNat * 256)) := hp 0 _ rfl rfl
                    refine s_indexA hE goes_none (by decide) (lk rfl f19) (lk rfl f5) Try.underlying43 ty5 hi61.1 ?_; intro a hE
                    exact ⟨Kept.refl _ _, _, _, rfl, hE, rfl⟩
                  · intro a w ux45 hE hM hg
                    have f0 : ux45 0 = (ptr b3 0) := hg 0 (by decide)
                    have f1 : ux45 1 = (vI s8.2) := hg 1 (by decide)
                    have f2 : ux45 2 = (vI s19.2) := hg 2 (by decide)
                    have f3 : ux45 3 = (vI s30.2) := hg 3 (by decide)
                    have f4 : ux45 4 = (vI s40.2) := hg 4 (by decide)
                    have f5 : ux45 5 = (vI (orI s30.2 s40.2)) := hg 5 (by decide)
                    have f6 : ux45 6 = (vB r35) := hg 6 (by decide)
                    have f7 : ux45 7 = (ptr b3 0) := hg 7 (by decide)
                    have f8 : ux45 8 = (vI s8.2) := hg 8 (by decide)
                    have f9 : ux45 9 = (vI s19.2) := hg 9 (by decide)
                    have f10 : ux45 10 = (vI s40.2) := hg 10 (by decide)
                    have f11 : ux45 11 = (ptr b3 0) := hg 11 (by decide)
                    have f12 : ux45 12 = (ptr b3 (0 + (s8.2).toNat * 1024)) := hg 12 (by decide)
                    have f13 : ux45 13 = (ptr b3 (0 + (s8.2).toNat * 1024 + (s19.2).toNat * 256)) := hg 13 (by decide)
                    have f14 : ux45 14 = (ptr b3 (0 + (s8.2).toNat * 1024 + (s19.2).toNat * 256 + (s40.2).toNat * 1)) := hg 14 (by decide)
                    have f15 : ux45 15 = (vB x53) := hg 15 (by decide)
                    have f16 : ux45 16 = (vB (r35 ^^^ x53)) := hg 16 (by decide)
                    have f17 : ux45 17 = (ptr b3 0) := hg 17 (by decide)
                    have f18 : ux45 18 = (ptr b3 (0 + (s8.2).toNat * 1024)) := hg 18 (by decide)
                    have f19 : ux45 19 = (ptr b3 (0 + (s8.2).toNat * 1024 + (s19.2).toNat * 256)) := hg 19 (by decide)
                    have f20 : ux45 20 = (ptr b3 (0 + (s8.2).toNat * 1024 + (s19.2).toNat * 256 + ((orI s30.2 s40.2)).toNat * 1)) := hg 20 (by decide)
                    have hE := hE.sub (e' := [(37, (ptr b3 0)), (38, (vI s8.2)), (39, (vI s19.2)), (40, (vI s30.2)), (41, (vI s40.2)), (42, (vI (orI s30.2 s40.2))), (43, (vB r35)), (44, (ptr b3 0)), (45, (vI s8.2)), (46, (vI s19.2)), (47, (vI s40.2)), (48, (ptr b3 0)), (49, (ptr b3 (0 + (s8.2).toNat * 1024))), (50, (ptr b3 (0 + (s8.2).toNat * 1024 + (s19.2).toNat * 256))), (51, (ptr b3 (0 + (s8.2).toNat * 1024 + (s19.2).toNat * 256 + (s40.2).toNat * 1))), (52, (vB x53)), (53, (vB (r35 ^^^ x53))), (54, (ptr b3 0)), (55, (ptr b3 (0 + (s8.2).toNat * 1024))), (56, (ptr b3 (0 + (s8.2).toNat * 1024 + (s19.2).toNat * 256))), (57, (ptr b3 (0 + (s8.2).toNat * 1024 + (s19.2).toNat * 256 + ((orI s30.2 s40.2)).toNat * 1))), (0, (vI p0)), (3, (ptr b1 0)), (5, (ptr b3 0)), (6, (vI s8.2)), (7, (vI s19.2)), (8, (vB x24)), (9, (vI s30.2)), (10, (vB r35)), (11, (vI s40.2)), (14, (vI s8.2)), (19, (Value.agg (Flat.enc x14).toArray)), (20, (vI s19.2)), (33, (vI s30.2)), (34, (vI s40.2)), (35, (vT (decide (s40.2 < s30.2)))), (36, (vI s40.2))]) ⟨lk rfl f0, lk rfl f1, lk rfl f2, lk rfl f3, lk rfl f4, lk rfl f5, lk rfl f6, lk rfl f7, lk rfl f8, lk rfl f9, lk rfl f10, lk rfl f11, lk rfl f12, lk rfl f13, lk rfl f14, lk rfl f15, lk rfl f16, lk rfl f17, lk rfl f18, lk rfl f19, lk rfl f20, rfl, rfl, rfl, rfl, rfl, rfl, rfl, rfl, rfl, rfl, rfl, rfl, rfl, rfl, rfl, rfl, trivial⟩
                    refine s_store (seg := [(vB (r35 ^^^ x53))]) (cs' := Flat.enc (s40.1.setIfInBounds (s8.2).toNat (x56.setIfInBounds (s19.2).toNat (x59.setIfInBounds ((orI s30.2 s40.2)).toNat (r35 ^^^ x53))))) hE hM goes_none rfl rfl rfl ty5 rfl (fit_vecI (o' := (s19.2).toNat * 256 + (0 + ((orI s30.2 s40.2)).toNat * 1)) hi55 (fit_vecI (o' := 0 + ((orI s30.2 s40.2)).toNat * 1) hi58 (fit_vec (v := x59) (x := r35 ^^^ x53) hi61.1) (by first | omega | (simp only [Flat.n] <;> omega))) (by first | omega | (simp only [Flat.n] <;> omega))) (Flat.cell (r35 ^^^ x53 : UInt8)) (splice_vecI (o' := (s19.2).toNat * 256 + (0 + ((orI s30.2 s40.2)).toNat * 1)) hi55 (fit_vecI (o' := 0 + ((orI s30.2 s40.2)).toNat * 1) hi58 (fit_vec (v := x59) (x := r35 ^^^ x53) hi61.1) (by first | omega | (simp only [Flat.n] <;> omega))) (splice_vecI (o' := 0 + ((orI s30.2 s40.2)).toNat * 1) hi58 (fit_vec (v := x59) (x := r35 ^^^ x53) hi61.1) (splice_vec0 (v := x59) (x := r35 ^^^ x53) hi61.1) (by first | omega | (simp only [Flat.n] <;> omega))) (by first | omega | (simp only [Flat.n] <;> omega))) ?_; intro w a hM hE
                    refine c_fin0 ?_
                    refine c_nb ?_
                    refine c_nx ?_
                    refine wp_region_lit ?_
                    refine s_int hE goes_none (by decide) rfl rfl rfl ?_; intro a hE
                    refine s_move hE goes_none (by decide) rfl ?_; intro a hE
                    refine c_fin0 ?_
                    refine c_mid ?_
                    exact ⟨_, (Option.some.inj hs41).symm, hE.sub ⟨rfl, rfl, rfl, rfl, rfl, rfl, rfl, rfl, rfl, rfl, rfl, rfl, rfl, trivial⟩, hM⟩
                · intro hb44
                  have hs41 := ite_f hs41 hb44
                  refine wp_exit (e_then (e_then (e_eq ?_)))
                  have ht64 := hx42 _ (Option.some.inj hs41).symm
                  subst ht64
                  refine c_mid ?_
                  exact ⟨hE.sub ⟨rfl, rfl, rfl, rfl, rfl, rfl, rfl, rfl, rfl, rfl, trivial⟩, hM⟩
              · skip
                rintro a w ⟨hE, hM⟩
                refine c_nb ?_
                refine c_nx ?_
                refine wp_region_lit ?_
                refine s_move hE goes_none (by decide) rfl ?_; intro a hE
                refine s_int hE goes_none (by decide) rfl rfl rfl ?_; intro a hE
                refine s_assign hE goes_none (by decide) rfl ?_; intro a hE
                refine c_fin0 ?_
                refine c_mid ?_
                exact ⟨_, (Option.some.inj hF39).symm, hE.sub ⟨rfl, rfl, rfl, rfl, rfl, rfl, rfl, rfl, rfl, rfl, trivial⟩, hM⟩
            · intro hb34
              have hs31 := ite_f hs31 hb34
              refine wp_exit (e_then (e_then (e_eq ?_)))
              have ht65 := hx32 _ (Option.some.inj hs31).symm
              subst ht65
              refine c_mid ?_
              exact ⟨hE.sub ⟨rfl, rfl, rfl, rfl, rfl, rfl, rfl, trivial⟩, hM⟩
          · skip
            rintro a w ⟨hE, hM⟩
            refine c_nb ?_
            refine c_nx ?_
            refine wp_region_lit ?_
            refine s_int hE goes_none (by decide) rfl rfl rfl ?_; intro a hE
            refine s_move hE goes_none (by decide) rfl ?_; intro a hE
            refine c_fin0 ?_
            refine c_mid ?_
            exact ⟨_, (Option.some.inj hF29).symm, hE.sub ⟨rfl, rfl, rfl, rfl, rfl, rfl, rfl, trivial⟩, hM⟩
        · intro hb23
          have hs20 := ite_f hs20 hb23
          refine wp_exit (e_then (e_then (e_eq ?_)))
          have ht66 := hx21 _ (Option.some.inj hs20).symm
          subst ht66
          refine c_mid ?_
          exact ⟨hE.sub ⟨rfl, rfl, rfl, rfl, trivial⟩, hM⟩
      · skip
        rintro a w ⟨hE, hM⟩
        refine c_nb ?_
        refine c_nx ?_
        refine wp_region_lit ?_
        refine s_int hE goes_none (by decide) rfl rfl rfl ?_; intro a hE
        refine s_move hE goes_none (by decide) rfl ?_; intro a hE
        refine c_fin0 ?_
        refine c_mid ?_
        exact ⟨_, (Option.some.inj hF18).symm, hE.sub ⟨rfl, rfl, rfl, rfl, trivial⟩, hM⟩
    · intro hb12
      have hs9 := ite_f hs9 hb12
      refine wp_exit (e_then (e_then (e_eq ?_)))
      have ht67 := hx10 _ (Option.some.inj hs9).symm
      subst ht67
      refine c_mid ?_
      have hM := M.fst (l := [_]) hM
      exact ⟨hE.sub ⟨rfl, trivial⟩, hM⟩
  · skip
    rintro a w ⟨hE, hM⟩
    refine c_nx ?_
    refine c_region ?_
    refine s_move hE goes_none (by decide) rfl ?_; intro a hE
    refine s_assign hE goes_none (by decide) rfl ?_; intro a hE
    refine c_fin ?_
    have hM := M.toRefF (x := j5) hM
    have hr := Option.some.inj hF7
    subst hr
    exact wp_ret (k_ret1 hE rfl (res_tmp hE rfl) ⟨_, rfl, (ptr b3 0), rfl, hM.outF (locNO locN0), hM.kept⟩)
noncomputable def F_impl_newEngine (p0 : GCipher) : Option ((Ref Gengine)) :=
  (F_impl_field_invert p0.Field p0.Mix).bind fun (r3 : UInt8 × (Vector (Vector UInt8 4) 4)) => (F_impl_Box_inverse p0.Box).bind fun (r8 : (Vector UInt8 256)) => (F_impl_Places_inverse p0.Places).bind fun (r10 : (Vector UInt8 16)) => (F_impl_newMixer p0.Field p0.Mix).bind fun (r12 : (Ref (Vector (Vector (Vector UInt8 256) 4) 4))) => (F_impl_newMixer p0.Field r3.2).bind fun (r15 : (Ref (Vector (Vector (Vector UInt8 256) 4) 4))) => some (⟨(⟨p0.Box, r8, p0.Places, r10, r12, r15, p0.Rounds⟩ : Gengine)⟩ : (Ref Gengine))
set_option maxRecDepth 20000 in
set_option maxHeartbeats 400000 in
theorem c_impl_newEngine (w0 : World) (p0 : GCipher) (r : (Ref Gengine)) (hF : F_impl_newEngine p0 = some r) :
    Calls Try.prog 96 [(Value.agg (Flat.enc p0).toArray)].toArray w0 (fun en w' => ∃ v, en = .returned v ∧ (∃ (y1 : Value), v = y1 ∧ Fr w0 w' [own NoB (r : (Ref Gengine)) [y1]] ∧ Kept (Old w0) w0 w')) := by
  refine c_enter (n := 36) Try.func96 rfl rfl (Nat.le_of_ble_eq_true rfl) rfl ?_
  intro a hE
  have hM := M.start w0
  unfold F_impl_newEngine at hF
  refine c_region ?_
  refine s_box (cs := cat [[(vI p0.Field)], Flat.enc p0.Box, Flat.enc p0.Mix, Flat.enc p0.Places, [(vI p0.Rounds)]]) hE hM goes_none (by decide) rfl rfl ?_; intro b1 w a hM hE
  refine s_assign hE goes_none (by decide) rfl ?_; intro a hE
  refine c_fin ?_
  refine c_region ?_
  refine s_fieldAddr hE goes_none (by decide) rfl (fd58_0) ?_; intro a hE
  refine s_load (v := (vI p0.Field)) hE goes_none (by decide) rfl ty2 rfl (At.cat (pre := []) (seg := [(vI p0.Field)]) (post := [Flat.enc p0.Box, Flat.enc p0.Mix, Flat.enc p0.Places, [(vI p0.Rounds)]]) (hM.rawAt (pre := [])) cl0) ?_; intro a hE
  refine s_fieldAddr hE goes_none (by decide) rfl (fd58_2) ?_; intro a hE
  refine s_loadA (cs := Flat.enc p0.Mix) hE goes_none (by decide) rfl ty55 rfl (At.cat (pre := [[(vI p0.Field)], Flat.enc p0.Box]) (seg := Flat.enc p0.Mix) (post := [Flat.enc p0.Places, [(vI p0.Rounds)]]) (hM.rawAt (pre := [])) (cl1 (n := 1) (m := 256) rfl (cl1 (n := 256) (m := 0) (Flat.len _) cl0))) (Flat.len _) ?_; intro a hE
  obtain ⟨r3, e4, hF⟩ := bind_some hF
  refine s_call (vs := [(vI p0.Field), (Value.agg (Flat.enc p0.Mix).toArray)]) hE goes_none (by decide) rfl cb152 (c_impl_field_invert _ p0.Field p0.Mix r3 e4) ?_
  rintro v w a ⟨rfl, hK⟩ hE
  have hM := hM.keep hK
  refine s_move hE goes_none (by decide) rfl ?_; intro a hE
  refine s_extract hE goes_none (by decide) rfl rfl ?_; intro a hE
  refine s_extract hE goes_none (by decide) rfl rfl ?_; intro a hE
  refine s_alloc hE hM goes_none (by decide) ty55 ?_; intro b5 w a hM hE
  refine s_assign hE goes_none (by decide) rfl ?_; intro a hE
  refine s_store (seg := Flat.enc r3.2) (cs' := Flat.enc r3.2) hE hM goes_none rfl rfl rfl ty55 (Flat.len _) (Nat.le_of_eq ((Nat.zero_add _).trans (Eq.trans (Flat.len _) (Eq.symm (Flat.len _))))) (Flat.cell _) (splice_all (Eq.trans (Flat.len _) (Eq.symm (Flat.len _)))) ?_; intro w a hM hE
  refine c_fin ?_
  refine wp_seq ?_
  obtain ⟨r8, e9, hF⟩ := bind_some hF
  obtain ⟨r10, e11, hF⟩ := bind_some hF
  obtain ⟨r12, e13, hF⟩ := bind_some hF
  obtain ⟨r15, e16, hF⟩ := bind_some hF
  refine c_draw2 (n := 36) (hd := [_, _, _, _, _, _, _, _, _, _, _, _, _, _, _, _, _, _, _, _, _]) (tl := [_, _, _]) (its := [raw b5 (Flat.enc r3.2), raw b1 (cat [[(vI p0.Field)], Flat.enc p0.Box, Flat.enc p0.Mix, Flat.enc p0.Places, [(vI p0.Rounds)]])]) hmix rfl rfl [13, 14, 15, 16, 17, 18, 19, 20, 21, 22, 23, 24, 25, 26, 27, 28, 29, 30, 31, 32, 33] (by decide) [(14, fun v => own NoB (r12 : (Ref (Vector (Vector (Vector UInt8 256) 4) 4))) [v]), (18, fun v => own NoB (r15 : (Ref (Vector (Vector (Vector UInt8 256) 4) 4))) [v])] rfl (fun j => ([fun v => v = (ptr b1 (0 + 1)), fun v => v = (Value.agg (Flat.enc p0.Box).toArray), fun v => v = (ptr b1 (0 + 1)), fun v => v = (Value.agg (Flat.enc p0.Box).toArray), fun v => v = (Value.agg (Flat.enc r8).toArray), fun v => v = (ptr b1 (0 + 273)), fun v => v = (Value.agg (Flat.enc p0.Places).toArray), fun v => v = (ptr b1 (0 + 273)), fun v => v = (Value.agg (Flat.enc p0.Places).toArray), fun v => v = (Value.agg (Flat.enc r10).toArray), fun v => v = (ptr b1 (0 + 0)), fun v => v = (vI p0.Field), fun v => v = (ptr b1 (0 + 257)), fun v => v = (Value.agg (Flat.enc p0.Mix).toArray), fun v => True, fun v => v = (ptr b1 (0 + 0)), fun v => v = (vI p0.Field), fun v => v = (Value.agg (Flat.enc r3.2).toArray), fun v => True, fun v => v = (ptr b1 (0 + 289)), fun v => v = (vI p0.Rounds)] : List (Value → Prop)).getD j (fun _ => True)) hE hM.drew (steps_of (steps_cons ?_ (steps_cons ?_ (steps_cons ?_ (steps_cons ?_ (steps_cons ?_ (steps_cons ?_ (steps_cons ?_ (steps_cons ?_ (steps_cons ?_ (steps_cons ?_ (steps_cons ?_ (steps_cons ?_ (steps_cons ?_ (steps_cons ?_ (steps_cons ?_ (steps_cons ?_ (steps_cons ?_ (steps_cons ?_ (steps_cons ?_ (steps_cons ?_ (steps_cons ?_ steps_nil)))))))))))))))))))))) ?_
  · intro a w ux7 D hE hM hD hp
    have hM0 := hM
    refine s_fieldAddr hE goes_none (by decide) rfl (fd58_1) ?_; intro a hE
    exact ⟨_, _, rfl, hE, rfl, hM0.optKeep rfl⟩
  · intro a w ux7 D hE hM hD hp
    have f0 : ux7 0 = (ptr b1 (0 + 1)) := (hp 0 _ rfl rfl).2
    have hM0 := hM
    have hM : M (Old w0) w0 w [raw b5 (Flat.enc r3.2), raw b1 (cat [[(vI p0.Field)], Flat.enc p0.Box, Flat.enc p0.Mix, Flat.enc p0.Places, [(vI p0.Rounds)]]), opt (D 14) (own NoB (r12 : (Ref (Vector (Vector (Vector UInt8 256) 4) 4))) [(ux7 14)]), opt (D 18) (own NoB (r15 : (Ref (Vector (Vector (Vector UInt8 256) 4) 4))) [(ux7 18)])] := hM
    refine s_loadA (cs := Flat.enc p0.Box) hE goes_none (by decide) (lk rfl f0) ty54 rfl (At.cat (pre := [[(vI p0.Field)]]) (seg := Flat.enc p0.Box) (post := [Flat.enc p0.Mix, Flat.enc p0.Places, [(vI p0.Rounds)]]) (hM.rawAt (pre := [_])) (cl1 (n := 1) (m := 0) rfl cl0)) (Flat.len _) ?_; intro a hE
    exact ⟨_, _, rfl, hE, rfl, hM0.optKeep rfl⟩
  · intro a w ux7 D hE hM hD hp
    have hM0 := hM
    refine s_fieldAddr hE goes_none (by decide) rfl (fd58_1) ?_; intro a hE
    exact ⟨_, _, rfl, hE, rfl, hM0.optKeep rfl⟩
  · intro a w ux7 D hE hM hD hp
    have f2 : ux7 2 = (ptr b1 (0 + 1)) := (hp 0 _ rfl rfl).2
    have hM0 := hM
    have hM : M (Old w0) w0 w [raw b5 (Flat.enc r3.2), raw b1 (cat [[(vI p0.Field)], Flat.enc p0.Box, Flat.enc p0.Mix, Flat.enc p0.Places, [(vI p0.Rounds)]]), opt (D 14) (own NoB (r12 : (Ref (Vector (Vector (Vector UInt8 256) 4) 4))) [(ux7 14)]), opt (D 18) (own NoB (r15 : (Ref (Vector (Vector (Vector UInt8 256) 4) 4))) [(ux7 18)])] := hM
    refine s_loadA (cs := Flat.enc p0.Box) hE goes_none (by decide) (lk rfl f2) ty54 rfl (At.cat (pre := [[(vI p0.Field)]]) (seg := Flat.enc p0.Box) (post := [Flat.enc p0.Mix, Flat.enc p0.Places, [(vI p0.Rounds)]]) (hM.rawAt (pre := [_])) (cl1 (n := 1) (m := 0) rfl cl0)) (Flat.len _) ?_; intro a hE
    exact ⟨_, _, rfl, hE, rfl, hM0.optKeep rfl⟩
  · intro a w ux7 D hE hM hD hp
    have f3 : ux7 3 = (Value.agg (Flat.enc p0.Box).toArray) := (hp 0 _ rfl rfl).2
    have hM0 := hM
    refine s_call (vs := [(Value.agg (Flat.enc p0.Box).toArray)]) hE goes_none (by decide) (evs_of (evsC (lk rfl f3) evsN)) cb153 (c_impl_Box_inverse _ p0.Box r8 e9) ?_
    rintro v w a ⟨rfl, hK⟩ hE
    exact ⟨_, _, rfl, hE, rfl, (hM0.keep hK).optKeep rfl⟩
  · intro a w ux7 D hE hM hD hp
    have hM0 := hM
    refine s_fieldAddr hE goes_none (by decide) rfl (fd58_3) ?_; intro a hE
    exact ⟨_, _, rfl, hE, rfl, hM0.optKeep rfl⟩
  · intro a w ux7 D hE hM hD hp
    have f5 : ux7 5 = (ptr b1 (0 + 273)) := (hp 0 _ rfl rfl).2
    have hM0 := hM
    have hM : M (Old w0) w0 w [raw b5 (Flat.enc r3.2), raw b1 (cat [[(vI p0.Field)], Flat.enc p0.Box, Flat.enc p0.Mix, Flat.enc p0.Places, [(vI p0.Rounds)]]), opt (D 14) (own NoB (r12 : (Ref (Vector (Vector (Vector UInt8 256) 4) 4))) [(ux7 14)]), opt (D 18) (own NoB (r15 : (Ref (Vector (Vector (Vector UInt8 256) 4) 4))) [(ux7 18)])] := hM
    refine s_loadA (cs := Flat.enc p0.Places) hE goes_none (by decide) (lk rfl f5) ty56 rfl (At.cat (pre := [[(vI p0.Field)], Flat.enc p0.Box, Flat.enc p0.Mix]) (seg := Flat.enc p0.Places) (post := [[(vI p0.Rounds)]]) (hM.rawAt (pre := [_])) (cl1 (n := 1) (m := 272) rfl (cl1 (n := 256) (m := 16) (Flat.len _) (cl1 (n := 16) (m := 0) (Flat.len _) cl0)))) (Flat.len _) ?_; intro a hE
    exact ⟨_, _, rfl, hE, rfl, hM0.optKeep rfl⟩
  · intro a w ux7 D hE hM hD hp
    have hM0 := hM
    refine s_fieldAddr hE goes_none (by decide) rfl (fd58_3) ?_; intro a hE
    exact ⟨_, _, rfl, hE, rfl, hM0.optKeep rfl⟩
  · intro a w ux7 D hE hM hD hp
    have f7 : ux7 7 = (ptr b1 (0 + 273)) := (hp 0 _ rfl rfl).2
    have hM0 := hM
    have hM : M (Old w0) w0 w [raw b5 (Flat.enc r3.2), raw b1 (cat [[(vI p0.Field)], Flat.enc p0.Box, Flat.enc p0.Mix, Flat.enc p0.Places, [(vI p0.Rounds)]]), opt (D 14) (own NoB (r12 : (Ref (Vector (Vector (Vector UInt8 256) 4) 4))) [(ux7 14)]), opt (D 18) (own NoB (r15 : (Ref (Vector (Vector (Vector UInt8 256) 4) 4))) [(ux7 18)])] := hM
    refine s_loadA (cs := Flat.enc p0.Places) hE goes_none (by decide) (lk rfl f7) ty56 rfl (At.cat (pre := [[(vI p0.Field)], Flat.enc p0.Box, Flat.enc p0.Mix]) (seg := Flat.enc p0.Places) (post := [[(vI p0.Rounds)]]) (hM.rawAt (pre := [_])) (cl1 (n := 1) (m := 272) rfl (cl1 (n := 256) (m := 16) (Flat.len _) (cl1 (n := 16) (m := 0) (Flat.len _) cl0)))) (Flat.len _) ?_; intro a hE
    exact ⟨_, _, rfl, hE, rfl, hM0.optKeep rfl⟩
  · intro a w ux7 D hE hM hD hp
    have f8 : ux7 8 = (Value.agg (Flat.enc p0.Places).toArray) := (hp 0 _ rfl rfl).2
    have hM0 := hM
    refine s_call (vs := [(Value.agg (Flat.enc p0.Places).toArray)]) hE goes_none (by decide) (evs_of (evsC (lk rfl f8) evsN)) cb154 (c_impl_Places_inverse _ p0.Places r10 e11) ?_
    rintro v w a ⟨rfl, hK⟩ hE
    exact ⟨_, _, rfl, hE, rfl, (hM0.keep hK).optKeep rfl⟩
  · intro a w ux7 D hE hM hD hp
    have hM0 := hM
    refine s_fieldAddr hE goes_none (by decide) rfl (fd58_0) ?_; intro a hE
    exact ⟨_, _, rfl, hE, rfl, hM0.optKeep rfl⟩
  · intro a w ux7 D hE hM hD hp
    have f10 : ux7 10 = (ptr b1 (0 + 0)) := (hp 0 _ rfl rfl).2
    have hM0 := hM
    have hM : M (Old w0) w0 w [raw b5 (Flat.enc r3.2), raw b1 (cat [[(vI p0.Field)], Flat.enc p0.Box, Flat.enc p0.Mix, Flat.enc p0.Places, [(vI p0.Rounds)]]), opt (D 14) (own NoB (r12 : (Ref (Vector (Vector (Vector UInt8 256) 4) 4))) [(ux7 14)]), opt (D 18) (own NoB (r15 : (Ref (Vector (Vector (Vector UInt8 256) 4) 4))) [(ux7 18)])] := hM
    refine s_load (v := (vI p0.Field)) hE goes_none (by decide) (lk rfl f10) ty2 rfl (At.cat (pre := []) (seg := [(vI p0.Field)]) (post := [Flat.enc p0.Box, Flat.enc p0.Mix, Flat.enc p0.Places, [(vI p0.Rounds)]]) (hM.rawAt (pre := [_])) cl0) ?_; intro a hE
    exact ⟨_, _, rfl, hE, rfl, hM0.optKeep rfl⟩
  · intro a w ux7 D hE hM hD hp
    have hM0 := hM
    refine s_fieldAddr hE goes_none (by decide) rfl (fd58_2) ?_; intro a hE
    exact ⟨_, _, rfl, hE, rfl, hM0.optKeep rfl⟩
  · intro a w ux7 D hE hM hD hp
    have f12 : ux7 12 = (ptr b1 (0 + 257)) := (hp 0 _ rfl rfl).2
    have hM0 := hM
    have hM : M (Old w0) w0 w [raw b5 (Flat.enc r3.2), raw b1 (cat [[(vI p0.Field)], Flat.enc p0.Box, Flat.enc p0.Mix, Flat.enc p0.Places, [(vI p0.Rounds)]]), opt (D 14) (own NoB (r12 : (Ref (Vector (Vector (Vector UInt8 256) 4) 4))) [(ux7 14)]), opt (D 18) (own NoB (r15 : (Ref (Vector (Vector (Vector UInt8 256) 4) 4))) [(ux7 18)])] := hM
    refine s_loadA (cs := Flat.enc p0.Mix) hE goes_none (by decide) (lk rfl f12) ty55 rfl (At.cat (pre := [[(vI p0.Field)], Flat.enc p0.Box]) (seg := Flat.enc p0.Mix) (post := [Flat.enc p0.Places, [(vI p0.Rounds)]]) (hM.rawAt (pre := [_])) (cl1 (n := 1) (m := 256) rfl (cl1 (n := 256) (m := 0) (Flat.len _) cl0))) (Flat.len _) ?_; intro a hE
    exact ⟨_, _, rfl, hE, rfl, hM0.optKeep rfl⟩
  · intro a w ux7 D hE hM hD hp
    have f11 : ux7 11 = (vI p0.Field) := (hp 0 _ rfl rfl).2
    have f13 : ux7 13 = (Value.agg (Flat.enc p0.Mix).toArray) := (hp 1 _ rfl rfl).2
    have hM0 := hM
    have hM : M (Old w0) w0 w [raw b5 (Flat.enc r3.2), raw b1 (cat [[(vI p0.Field)], Flat.enc p0.Box, Flat.enc p0.Mix, Flat.enc p0.Places, [(vI p0.Rounds)]]), opt (D 14) (own NoB (r12 : (Ref (Vector (Vector (Vector UInt8 256) 4) 4))) [(ux7 14)]), opt (D 18) (own NoB (r15 : (Ref (Vector (Vector (Vector UInt8 256) 4) 4))) [(ux7 18)])] := hM
    refine s_call (vs := [(vI p0.Field), (Value.agg (Flat.enc p0.Mix).toArray)]) hE goes_none (by decide) (evs_of (evsC (lk rfl f11) (evsC (lk rfl f13) evsN))) cb155 (c_impl_newMixer _ p0.Field p0.Mix r12 e13) ?_
    rintro _ w a ⟨_, rfl, hFr, hK⟩ hE
    have hM := hM0.add hK hFr
    exact ⟨_, _, rfl, hE, trivial, M.optFill (mk1 := []) (mk2 := [_]) (f := (fun v => own NoB (r12 : (Ref (Vector (Vector (Vector UInt8 256) 4) 4))) [v])) hM rfl hD⟩
  · intro a w ux7 D hE hM hD hp
    have hM0 := hM
    refine s_fieldAddr hE goes_none (by decide) rfl (fd58_0) ?_; intro a hE
    exact ⟨_, _, rfl, hE, rfl, hM0.optKeep rfl⟩
  · intro a w ux7 D hE hM hD hp
    have f15 : ux7 15 = (ptr b1 (0 + 0)) := (hp 0 _ rfl rfl).2
    have hM0 := hM
    have hM : M (Old w0) w0 w [raw b5 (Flat.enc r3.2), raw b1 (cat [[(vI p0.Field)], Flat.enc p0.Box, Flat.enc p0.Mix, Flat.enc p0.Places, [(vI p0.Rounds)]]), opt (D 14) (own NoB (r12 : (Ref (Vector (Vector (Vector UInt8 256) 4) 4))) [(ux7 14)]), opt (D 18) (own NoB (r15 : (Ref (Vector (Vector (Vector UInt8 256) 4) 4))) [(ux7 18)])] := hM
    refine s_load (v := (vI p0.Field)) hE goes_none (by decide) (lk rfl f15) ty2 rfl (At.cat (pre := []) (seg := [(vI p0.Field)]) (post := [Flat.enc p0.Box, Flat.enc p0.Mix, Flat.enc p0.Places, [(vI p0.Rounds)]]) (hM.rawAt (pre := [_])) cl0) ?_; intro a hE
    exact ⟨_, _, rfl, hE, rfl, hM0.optKeep rfl⟩
  · intro a w ux7 D hE hM hD hp
    have hM0 := hM
    have hM : M (Old w0) w0 w [raw b5 (Flat.enc r3.2), raw b1 (cat [[(vI p0.Field)], Flat.enc p0.Box, Flat.enc p0.Mix, Flat.enc p0.Places, [(vI p0.Rounds)]]), opt (D 14) (own NoB (r12 : (Ref (Vector (Vector (Vector UInt8 256) 4) 4))) [(ux7 14)]), opt (D 18) (own NoB (r15 : (Ref (Vector (Vector (Vector UInt8 256) 4) 4))) [(ux7 18)])] := hM
    refine s_loadA (cs := Flat.enc r3.2) hE goes_none (by decide) rfl ty55 rfl (hM.rawAt (pre := [])) (Flat.len _) ?_; intro a hE
    exact ⟨_, _, rfl, hE, rfl, hM0.optKeep rfl⟩
  · intro a w ux7 D hE hM hD hp
    have f16 : ux7 16 = (vI p0.Field) := (hp 0 _ rfl rfl).2
    have f17 : ux7 17 = (Value.agg (Flat.enc r3.2).toArray) := (hp 1 _ rfl rfl).2
    have hM0 := hM
    have hM : M (Old w0) w0 w [raw b5 (Flat.enc r3.2), raw b1 (cat [[(vI p0.Field)], Flat.enc p0.Box, Flat.enc p0.Mix, Flat.enc p0.Places, [(vI p0.Rounds)]]), opt (D 14) (own NoB (r12 : (Ref (Vector (Vector (Vector UInt8 256) 4) 4))) [(ux7 14)]), opt (D 18) (own NoB (r15 : (Ref (Vector (Vector (Vector UInt8 256) 4) 4))) [(ux7 18)])] := hM
    refine s_call (vs := [(vI p0.Field), (Value.agg (Flat.enc r3.2).toArray)]) hE goes_none (by decide) (evs_of (evsC (lk rfl f16) (evsC (lk rfl f17) evsN))) cb155 (c_impl_newMixer _ p0.Field r3.2 r15 e16) ?_
    rintro _ w a ⟨_, rfl, hFr, hK⟩ hE
    have hM := hM0.add hK hFr
    exact ⟨_, _, rfl, hE, trivial, M.optFill (mk1 := [_]) (mk2 := []) (f := (fun v => own NoB (r15 : (Ref (Vector (Vector (Vector UInt8 256) 4) 4))) [v])) hM rfl hD⟩
  · intro a w ux7 D hE hM hD hp
    have hM0 := hM
    refine s_fieldAddr hE goes_none (by decide) rfl (fd58_4) ?_; intro a hE
    exact ⟨_, _, rfl, hE, rfl, hM0.optKeep rfl⟩
  · intro a w ux7 D hE hM hD hp
    have f19 : ux7 19 = (ptr b1 (0 + 289)) := (hp 0 _ rfl rfl).2
    have hM0 := hM
    have hM : M (Old w0) w0 w [raw b5 (Flat.enc r3.2), raw b1 (cat [[(vI p0.Field)], Flat.enc p0.Box, Flat.enc p0.Mix, Flat.enc p0.Places, [(vI p0.Rounds)]]), opt (D 14) (own NoB (r12 : (Ref (Vector (Vector (Vector UInt8 256) 4) 4))) [(ux7 14)]), opt (D 18) (own NoB (r15 : (Ref (Vector (Vector (Vector UInt8 256) 4) 4))) [(ux7 18)])] := hM
    refine s_load (v := (vI p0.Rounds)) hE goes_none (by decide) (lk rfl f19) ty2 rfl (At.cat (pre := [[(vI p0.Field)], Flat.enc p0.Box, Flat.enc p0.Mix, Flat.enc p0.Places]) (seg := [(vI p0.Rounds)]) (post := []) (hM.rawAt (pre := [_])) (cl1 (n := 1) (m := 288) rfl (cl1 (n := 256) (m := 32) (Flat.len _) (cl1 (n := 16) (m := 16) (Flat.len _) (cl1 (n := 16) (m := 0) (Flat.len _) cl0))))) ?_; intro a hE
    exact ⟨_, _, rfl, hE, rfl, hM0.optKeep rfl⟩
  · intro a w ux7 hE hM hg
    have f0 : ux7 0 = (ptr b1 (0 + 1)) := hg 0 (by decide)
    have f1 : ux7 1 = (Value.agg (Flat.enc p0.Box).toArray) := hg 1 (by decide)
    have f2 : ux7 2 = (ptr b1 (0 + 1)) := hg 2 (by decide)
    have f3 : ux7 3 = (Value.agg (Flat.enc p0.Box).toArray) := hg 3 (by decide)
    have f4 : ux7 4 = (Value.agg (Flat.enc r8).toArray) := hg 4 (by decide)
    have f5 : ux7 5 = (ptr b1 (0 + 273)) := hg 5 (by decide)
    have f6 : ux7 6 = (Value.agg (Flat.enc p0.Places).toArray) := hg 6 (by decide)
    have f7 : ux7 7 = (ptr b1 (0 + 273)) := hg 7 (by decide)
    have f8 : ux7 8 = (Value.agg (Flat.enc p0.Places).toArray) := hg 8 (by decide)
    have f9 : ux7 9 = (Value.agg (Flat.enc r10).toArray) := hg 9 (by decide)
    have f10 : ux7 10 = (ptr b1 (0 + 0)) := hg 10 (by decide)
    have f11 : ux7 11 = (vI p0.Field) := hg 11 (by decide)
    have f12 : ux7 12 = (ptr b1 (0 + 257)) := hg 12 (by decide)
    have f13 : ux7 13 = (Value.agg (Flat.enc p0.Mix).toArray) := hg 13 (by decide)
    have f15 : ux7 15 = (ptr b1 (0 + 0)) := hg 15 (by decide)
    have f16 : ux7 16 = (vI p0.Field) := hg 16 (by decide)
    have f17 : ux7 17 = (Value.agg (Flat.enc r3.2).toArray) := hg 17 (by decide)
    have f19 : ux7 19 = (ptr b1 (0 + 289)) := hg 19 (by decide)
    have f20 : ux7 20 = (vI p0.Rounds) := hg 20 (by decide)
    have hM : M (Old w0) w0 w [raw b5 (Flat.enc r3.2), raw b1 (cat [[(vI p0.Field)], Flat.enc p0.Box, Flat.enc p0.Mix, Flat.enc p0.Places, [(vI p0.Rounds)]]), own NoB (r12 : (Ref (Vector (Vector (Vector UInt8 256) 4) 4))) [(ux7 14)], own NoB (r15 : (Ref (Vector (Vector (Vector UInt8 256) 4) 4))) [(ux7 18)]] := hM
    have hE := hE.sub (e' := [(13, (ptr b1 (0 + 1))), (14, (Value.agg (Flat.enc p0.Box).toArray)), (15, (ptr b1 (0 + 1))), (16, (Value.agg (Flat.enc p0.Box).toArray)), (17, (Value.agg (Flat.enc r8).toArray)), (18, (ptr b1 (0 + 273))), (19, (Value.agg (Flat.enc p0.Places).toArray)), (20, (ptr b1 (0 + 273))), (21, (Value.agg (Flat.enc p0.Places).toArray)), (22, (Value.agg (Flat.enc r10).toArray)), (23, (ptr b1 (0 + 0))), (24, (vI p0.Field)), (25, (ptr b1 (0 + 257))), (26, (Value.agg (Flat.enc p0.Mix).toArray)), (27, (ux7 14)), (28, (ptr b1 (0 + 0))), (29, (vI p0.Field)), (30, (Value.agg (Flat.enc r3.2).toArray)), (31, (ux7 18)), (32, (ptr b1 (0 + 289))), (33, (vI p0.Rounds)), (0, (Value.agg (Flat.enc p0).toArray)), (1, (ptr b1 0)), (2, (Value.pointer none)), (3, (vB r3.1)), (4, (ptr b5 0)), (5, (Value.tuple [(vB r3.1), (Value.agg (Flat.enc r3.2).toArray)].toArray)), (6, (ptr b1 (0 + 0))), (7, (vI p0.Field)), (8, (ptr b1 (0 + 257))), (9, (Value.agg (Flat.enc p0.Mix).toArray)), (10, (Value.tuple [(vB r3.1), (Value.agg (Flat.enc r3.2).toArray)].toArray)), (11, (vB r3.1)), (12, (Value.agg (Flat.enc r3.2).toArray))]) ⟨lk rfl f0, lk rfl f1, lk rfl f2, lk rfl f3, lk rfl f4, lk rfl f5, lk rfl f6, lk rfl f7, lk rfl f8, lk rfl f9, lk rfl f10, lk rfl f11, lk rfl f12, lk rfl f13, rfl, lk rfl f15, lk rfl f16, lk rfl f17, rfl, lk rfl f19, lk rfl f20, rfl, rfl, rfl, rfl, rfl, rfl, rfl, rfl, rfl, rfl, rfl, rfl, rfl, trivial⟩
    refine s_buildStr (parts := [(0, .tmp 14), (1, .tmp 17), (2, .tmp 19), (3, .tmp 22), (4, .tmp 27), (5, .tmp 31), (6, .tmp 33)]) (vs := [(0, (Value.agg (Flat.enc p0.Box).toArray)), (1, (Value.agg (Flat.enc r8).toArray)), (2, (Value.agg (Flat.enc p0.Places).toArray)), (3, (Value.agg (Flat.enc r10).toArray)), (4, (ux7 14)), (5, (ux7 18)), (6, (vI p0.Rounds))]) (cs := cat [Flat.enc p0.Box, Flat.enc r8, Flat.enc p0.Places, Flat.enc r10, [(ux7 14)], [(ux7 18)], [(vI p0.Rounds)]]) hE goes_none (by decide) rfl rfl ty180 pl180 (fill_step (pre := []) (seg := Flat.enc (Vector.replicate 256 (0 : UInt8))) (seg' := Flat.enc p0.Box) (post := [Flat.enc (Vector.replicate 256 (0 : UInt8)), Flat.enc (Vector.replicate 16 (0 : UInt8)), Flat.enc (Vector.replicate 16 (0 : UInt8)), [(Value.pointer none)], [(Value.pointer none)], [(vI 0)]]) rfl cl0 (Flat.len _) (Flat.len _) rfl (fill_step (pre := [Flat.enc p0.Box]) (seg := Flat.enc (Vector.replicate 256 (0 : UInt8))) (seg' := Flat.enc r8) (post := [Flat.enc (Vector.replicate 16 (0 : UInt8)), Flat.enc (Vector.replicate 16 (0 : UInt8)), [(Value.pointer none)], [(Value.pointer none)], [(vI 0)]]) rfl (cl1 (n := 256) (m := 0) (Flat.len _) cl0) (Flat.len _) (Flat.len _) rfl (fill_step (pre := [Flat.enc p0.Box, Flat.enc r8]) (seg := Flat.enc (Vector.replicate 16 (0 : UInt8))) (seg' := Flat.enc p0.Places) (post := [Flat.enc (Vector.replicate 16 (0 : UInt8)), [(Value.pointer none)], [(Value.pointer none)], [(vI 0)]]) rfl (cl1 (n := 256) (m := 256) (Flat.len _) (cl1 (n := 256) (m := 0) (Flat.len _) cl0)) (Flat.len _) (Flat.len _) rfl (fill_step (pre := [Flat.enc p0.Box, Flat.enc r8, Flat.enc p0.Places]) (seg := Flat.enc (Vector.replicate 16 (0 : UInt8))) (seg' := Flat.enc r10) (post := [[(Value.pointer none)], [(Value.pointer none)], [(vI 0)]]) rfl (cl1 (n := 256) (m := 272) (Flat.len _) (cl1 (n := 256) (m := 16) (Flat.len _) (cl1 (n := 16) (m := 0) (Flat.len _) cl0))) (Flat.len _) (Flat.len _) rfl (fill_step (pre := [Flat.enc p0.Box, Flat.enc r8, Flat.enc p0.Places, Flat.enc r10]) (seg := [(Value.pointer none)]) (seg' := [(ux7 14)]) (post := [[(Value.pointer none)], [(vI 0)]]) rfl (cl1 (n := 256) (m := 288) (Flat.len _) (cl1 (n := 256) (m := 32) (Flat.len _) (cl1 (n := 16) (m := 16) (Flat.len _) (cl1 (n := 16) (m := 0) (Flat.len _) cl0)))) rfl rfl (ref_cells (hM.ro (pre := [_, _]) noB)) (fill_step (pre := [Flat.enc p0.Box, Flat.enc r8, Flat.enc p0.Places, Flat.enc r10, [(ux7 14)]]) (seg := [(Value.pointer none)]) (seg' := [(ux7 18)]) (post := [[(vI 0)]]) rfl (cl1 (n := 256) (m := 289) (Flat.len _) (cl1 (n := 256) (m := 33) (Flat.len _) (cl1 (n := 16) (m := 17) (Flat.len _) (cl1 (n := 16) (m := 1) (Flat.len _) (cl1 (n := 1) (m := 0) rfl cl0))))) rfl rfl (ref_cells (hM.ro (pre := [_, _, _]) noB)) (fill_step (pre := [Flat.enc p0.Box, Flat.enc r8, Flat.enc p0.Places, Flat.enc r10, [(ux7 14)], [(ux7 18)]]) (seg := [(vI 0)]) (seg' := [(vI p0.Rounds)]) (post := []) rfl (cl1 (n := 256) (m := 290) (Flat.len _) (cl1 (n := 256) (m := 34) (Flat.len _) (cl1 (n := 16) (m := 18) (Flat.len _) (cl1 (n := 16) (m := 2) (Flat.len _) (cl1 (n := 1) (m := 1) rfl (cl1 (n := 1) (m := 0) rfl cl0)))))) rfl rfl rfl fill_nil))))))) ?_; intro a hE
    refine s_box (cs := cat [Flat.enc p0.Box, Flat.enc r8, Flat.enc p0.Places, Flat.enc r10, [(ux7 14)], [(ux7 18)], [(vI p0.Rounds)]]) hE hM goes_none (by decide) rfl rfl ?_; intro b18 w a hM hE
    refine s_assign hE goes_none (by decide) rfl ?_; intro a hE
    refine c_fin0 ?_
    refine c_nx ?_
    have hM := hM.pull (pre := [_, _, _, _])
    have hM := hM.pull (pre := [_, _, _, _])
    have hM := hM.pack2 (it := own NoB (⟨p0.Box, r8, p0.Places, r10, r12, r15, p0.Rounds⟩ : Gengine) (cat [Flat.enc p0.Box, Flat.enc r8, Flat.enc p0.Places, Flat.enc r10, [(ux7 14)], [(ux7 18)], [(vI p0.Rounds)]])) (own_loc noB) (fun f0 f1 q0 q1 => (pk_Gengine q0 q1 (by simp)))
    have hM := hM.pull (pre := [_])
    have hM := hM.pull (pre := [_])
    have hM := hM.pull (pre := [_])
    have hM := M.toRef hM noB
    have hr := Option.some.inj hF
    subst hr
    have hM := M.fst (l := [_]) hM
    exact wp_ret (k_ret1 hE rfl (res_tmp hE rfl) ⟨_, rfl, (ptr b18 0), rfl, hM.outF (locNO locN0), hM.kept⟩)
noncomputable def L0_impl_engine_nextKey (p0 : (Ref Gengine)) (s35 : (Vector UInt8 16) × Int) : Option (Fl ((Vector UInt8 16) × Int) (Vector UInt8 16)) :=
  if (decide (s35.2 < 16)) = true then ((vidx s35.1 s35.2).bind fun (x42 : UInt8) => (vidx s35.1 (wr (s35.2 - 1))).bind fun (x45 : UInt8) => (vidx p0.v.box (bI x45)).bind fun (x58 : UInt8) => (vidx s35.1 s35.2).bind fun (x61 : UInt8) => some (Fl.nx ((s35.1.setIfInBounds (s35.2).toNat (x42 ^^^ x58)), wr (s35.2 + 1)))) else (some (Fl.ex s35.1))
noncomputable def F_impl_engine_nextKey (p0 : (Ref Gengine)) (p1 : (Vector UInt8 16)) (p2 : Int) : Option ((Vector UInt8 16)) :=
  ((vidx p1 (0 : Int)).bind fun (x10 : UInt8) => (vidx p1 (15 : Int)).bind fun (x13 : UInt8) => (vidx p0.v.box (bI (x13 ^^^ (byteI p2)))).bind fun (x26 : UInt8) => (vidx p1 (0 : Int)).bind fun (x29 : UInt8) => some (p1.setIfInBounds ((0 : Int)).toNat (x10 ^^^ x26)) : Option ((Vector UInt8 16))).bind fun (j5 : (Vector UInt8 16)) => (iter (L0_impl_engine_nextKey p0) (j5, 1) : Option ((Vector UInt8 16))).bind fun (j32 : (Vector UInt8 16)) => some j32
set_option maxRecDepth 20000 in
set_option maxHeartbeats 400000 in
theorem c_impl_engine_nextKey (w0 : World) (p0 : (Ref Gengine)) (v0_1 : Value) (hv0_1 : Ro w0 p0 [v0_1]) (p1 : (Vector UInt8 16)) (p2 : Int) (r : (Vector UInt8 16)) (hF : F_impl_engine_nextKey p0 p1 p2 = some r) :
    Calls Try.prog 168 [v0_1, (Value.agg (Flat.enc p1).toArray), (vI p2)].toArray w0 (fun en w' => ∃ v, en = .returned v ∧ (v = (Value.agg (Flat.enc r).toArray) ∧ Kept (Old w0) w0 w')) := by
  refine c_enter (n := 41) Try.func168 rfl rfl (Nat.le_of_ble_eq_true rfl) rfl ?_
  intro a hE
  have hM := M.start w0
  unfold F_impl_engine_nextKey at hF
  refine c_region ?_
  refine s_box (cs := Flat.enc p1) hE hM goes_none (by decide) rfl rfl ?_; intro b1 w a hM hE
  refine s_alloc hE hM goes_none (by decide) ty67 ?_; intro b3 w a hM hE
  refine c_fin ?_
  obtain ⟨j5, hl6, hF7⟩ := bind_some hF
  refine c_join (fun a w => Env 41 a [(0, v0_1), (4, (ptr b1 0)), (6, (ptr b3 0))] ∧ M (Old w0) w0 w [raw b3 (Flat.enc (Vector.replicate 16 (0 : UInt8))), raw b1 (Flat.enc j5)]) ?_ ?_
  · skip
    obtain ⟨x10, e11, hl6⟩ := bind_some hl6
    have hi9 := vidx_some e11
    obtain ⟨x13, e14, hl6⟩ := bind_some hl6
    have hi12 := vidx_some e14
    obtain ⟨pb15, ds16, hv17, hx18, hA19, hB20⟩ := ref_open hv0_1 -- ^
    obtain ⟨u21, u23, rfl, h22, h24⟩ := un_Gengine hx18 -- ^
    obtain ⟨x26, e27, hl6⟩ := bind_some hl6
    have hi25 := vidx_some e27
    obtain ⟨x29, e30, hl6⟩ := bind_some hl6
    have hi28 := vidx_some e30
    refine c_draw (n := 41) (hd := [_, _, _, _, _, _, _, _, _, _, _, _, _, _]) (tl := [_]) hmix rfl rfl [8, 9, 10, 11, 12, 13, 14, 15, 16, 17, 18, 19, 20, 21] (by decide) (fun w => M (Old w0) w0 w [raw b3 (Flat.enc (Vector.replicate 16 (0 : UInt8))), raw b1 (Flat.enc p1)]) (fun j => ([fun v _ => v = (ptr b1 (0 + ((0 : Int)).toNat * 1)), fun v _ => v = (vB x10), fun v _ => v = v0_1, fun v _ => v = (ptr b1 (0 + ((15 : Int)).toNat * 1)), fun v _ => v = (vB x13), fun v _ => v = (vI p2), fun v _ => v = (vB (byteI p2)), fun v _ => v = (vB (x13 ^^^ (byteI p2))), fun v _ => v = (ptr pb15 0), fun v _ => v = (ptr pb15 (0 + 0)), fun v _ => v = (ptr pb15 (0 + 0 + ((bI (x13 ^^^ (byteI p2)))).toNat * 1)), fun v _ => v = (vB x26), fun v _ => v = (vB (x10 ^^^ x26)), fun v _ => v = (ptr b1 (0 + ((0 : Int)).toNat * 1))] : List (Value → World → Prop)).getD j (fun _ _ => True)) (fun _ _ h hk => h.keep hk) (gup (gupE (gupE (gupE (gupE (gupE (gupE (gupE (gupE (gupE (gupE (gupE (gupE (gupE (gupE gupN))))))))))))))) hE hM.drew (steps_of (steps_cons ?_ (steps_cons ?_ (steps_cons ?_ (steps_cons ?_ (steps_cons ?_ (steps_cons ?_ (steps_cons ?_ (steps_cons ?_ (steps_cons ?_ (steps_cons ?_ (steps_cons ?_ (steps_cons ?_ (steps_cons ?_ (steps_cons ?_ steps_nil))))))))))))))) ?_
    · intro a w ux8 hE hM hp
      refine s_indexA hE goes_none (by decide) rfl rfl Try.underlying67 ty5 hi9.1 ?_; intro a hE
      exact ⟨Kept.refl _ _, _, _, rfl, hE, rfl⟩
    · intro a w ux8 hE hM hp
      have f0 : ux8 0 = (ptr b1 (0 + ((0 : Int)).toNat * 1)) := hp 0 _ rfl rfl
      refine s_load (v := (vB x10)) hE goes_none (by decide) (lk rfl f0) ty5 rfl (At.vec (hM.rawAt (pre := [_])) hi9.2) ?_; intro a hE
      exact ⟨Kept.refl _ _, _, _, rfl, hE, rfl⟩
    · intro a w ux8 hE hM hp
      refine s_move hE goes_none (by decide) rfl ?_; intro a hE
      exact ⟨Kept.refl _ _, _, _, rfl, hE, rfl⟩
    · intro a w ux8 hE hM hp
      refine s_indexA hE goes_none (by decide) rfl rfl Try.underlying67 ty5 hi12.1 ?_; intro a hE
      exact ⟨Kept.refl _ _, _, _, rfl, hE, rfl⟩
    · intro a w ux8 hE hM hp
      have f3 : ux8 3 = (ptr b1 (0 + ((15 : Int)).toNat * 1)) := hp 0 _ rfl rfl
      refine s_load (v := (vB x13)) hE goes_none (by decide) (lk rfl f3) ty5 rfl (At.vec (hM.rawAt (pre := [_])) hi12.2) ?_; intro a hE
      exact ⟨Kept.refl _ _, _, _, rfl, hE, rfl⟩
    · intro a w ux8 hE hM hp
      refine s_move hE goes_none (by decide) rfl ?_; intro a hE
      exact ⟨Kept.refl _ _, _, _, rfl, hE, rfl⟩
    · intro a w ux8 hE hM hp
      have f5 : ux8 5 = (vI p2) := hp 0 _ rfl rfl
      refine s_conv hE goes_none (by decide) (lk rfl f5) Try.underlying2 Try.underlying5 ?_; intro a hE
      rw [byteI_val] at hE
      exact ⟨Kept.refl _ _, _, _, rfl, hE, rfl⟩
    · intro a w ux8 hE hM hp
      have f4 : ux8 4 = (vB x13) := hp 0 _ rfl rfl
      have f6 : ux8 6 = (vB (byteI p2)) := hp 1 _ rfl rfl
      refine s_int hE goes_none (by decide) (lk rfl f4) (lk rfl f6) (bB_xor x13 (byteI p2)) ?_; intro a hE
      exact ⟨Kept.refl _ _, _, _, rfl, hE, rfl⟩
    · intro a w ux8 hE hM hp
      have f2 : ux8 2 = v0_1 := hp 0 _ rfl rfl
      refine s_nilCheck hE goes_none (by decide) (lk (lk rfl f2) hv17) ?_; intro a hE
      exact ⟨Kept.refl _ _, _, _, rfl, hE, rfl⟩
    · intro a w ux8 hE hM hp
      have f8 : ux8 8 = (ptr pb15 0) := hp 0 _ rfl rfl
      refine s_fieldAddr hE goes_none (by decide) (lk rfl f8) (fd180_0) ?_; intro a hE
      exact ⟨Kept.refl _ _, _, _, rfl, hE, rfl⟩
    · intro a w ux8 hE hM hp
      have f7 : ux8 7 = (vB (x13 ^^^ (byteI p2))) := hp 1 _ rfl rfl
      have f9 : ux8 9 = (ptr pb15 (0 + 0)) := hp 0 _ rfl rfl
      refine s_indexA hE goes_none (by decide) (lk rfl f9) (lk rfl f7) Try.underlying54 ty5 hi25.1 ?_; intro a hE
      exact ⟨Kept.refl _ _, _, _, rfl, hE, rfl⟩
    · intro a w ux8 hE hM hp
      have f10 : ux8 10 = (ptr pb15 (0 + 0 + ((bI (x13 ^^^ (byteI p2)))).toNat * 1)) := hp 0 _ rfl rfl
      refine s_load (v := (vB x26)) hE goes_none (by decide) (lk rfl f10) ty5 rfl (At.vec (At.cat (pre := []) (seg := Flat.enc p0.v.box) (post := [Flat.enc p0.v.backBox, Flat.enc p0.v.places, Flat.enc p0.v.backPlaces, [u21], [u23], [(vI p0.v.rounds)]]) (hM.atk hA19 hB20) cl0) hi25.2) ?_; intro a hE
      exact ⟨Kept.refl _ _, _, _, rfl, hE, rfl⟩
    · intro a w ux8 hE hM hp
      have f1 : ux8 1 = (vB x10) := hp 0 _ rfl rfl
      have f11 : ux8 11 = (vB x26) := hp 1 _ rfl rfl
      refine s_int hE goes_none (by decide) (lk rfl f1) (lk rfl f11) (bB_xor x10 x26) ?_; intro a hE
      exact ⟨Kept.refl _ _, _, _, rfl, hE, rfl⟩
    · intro a w ux8 hE hM hp
      refine s_indexA hE goes_none (by decide) rfl rfl Try.underlying67 ty5 hi28.1 ?_; intro a hE
      exact ⟨Kept.refl _ _, _, _, rfl, hE, rfl⟩
    · intro a w ux8 hE hM hg
      have f0 : ux8 0 = (ptr b1 (0 + ((0 : Int)).toNat * 1)) := hg 0 (by decide)
      have f1 : ux8 1 = (vB x10) := hg 1 (by decide)
      have f2 : ux8 2 = v0_1 := hg 2 (by decide)
      have f3 : ux8 3 = (ptr b1 (0 + ((15 : Int)).toNat * 1)) := hg 3 (by decide)
      have f4 : ux8 4 = (vB x13) := hg 4 (by decide)
      have f5 : ux8 5 = (vI p2) := hg 5 (by decide)
      have f6 : ux8 6 = (vB (byteI p2)) := hg 6 (by decide)
      have f7 : ux8 7 = (vB (x13 ^^^ (byteI p2))) := hg 7 (by decide)
      have f8 : ux8 8 = (ptr pb15 0) := hg 8 (by decide)
      have f9 : ux8 9 = (ptr pb15 (0 + 0)) := hg 9 (by decide)
      have f10 : ux8 10 = (ptr pb15 (0 + 0 + ((bI (x13 ^^^ (byteI p2)))).toNat * 1)) := hg 10 (by decide)
      have f11 : ux8 11 = (vB x26) := hg 11 (by decide)
      have f12 : ux8 12 = (vB (x10 ^^^ x26)) := hg 12 (by decide)
      have f13 : ux8 13 = (ptr b1 (0 + ((0 : Int)).toNat * 1)) := hg 13 (by decide)
      have hE := hE.sub (e' := [(8, (ptr b1 (0 + ((0 : Int)).toNat * 1))), (9, (vB x10)), (10, v0_1), (11, (ptr b1 (0 + ((15 : Int)).toNat * 1))), (12, (vB x13)), (13, (vI p2)), (14, (vB (byteI p2))), (15, (vB (x13 ^^^ (byteI p2)))), (16, (ptr pb15 0)), (17, (ptr pb15 (0 + 0))), (18, (ptr pb15 (0 + 0 + ((bI (x13 ^^^ (byteI p2)))).toNat * 1))), (19, (vB x26)), (20, (vB (x10 ^^^ x26))), (21, (ptr b1 (0 + ((0 : Int)).toNat * 1))), (0, v0_1), (1, (Value.agg (Flat.enc p1).toArray)), (2, (vI p2)), (4, (ptr b1 0)), (6, (ptr b3 0))]) ⟨lk rfl f0, lk rfl f1, lk rfl f2, lk rfl f3, lk rfl f4, lk rfl f5, lk rfl f6, lk rfl f7, lk rfl f8, lk rfl f9, lk rfl f10, lk rfl f11, lk rfl f12, lk rfl f13, rfl, rfl, rfl, rfl, rfl, trivial⟩
      have hM := hM.pull (pre := [_])
      refine s_store (seg := [(vB (x10 ^^^ x26))]) (cs' := Flat.enc (p1.setIfInBounds ((0 : Int)).toNat (x10 ^^^ x26))) hE hM goes_none rfl rfl rfl ty5 rfl (fit_vec (v := p1) (x := x10 ^^^ x26) hi28.1) (Flat.cell (x10 ^^^ x26 : UInt8)) (splice_vec0 (v := p1) (x := x10 ^^^ x26) hi28.1) ?_; intro w a hM hE
      refine c_fin0 ?_
      have ht31 := Option.some.inj hl6
      subst ht31
      refine c_mid ?_
      have hM := hM.pull (pre := [_])
      exact ⟨hE.sub ⟨rfl, rfl, rfl, trivial⟩, hM⟩
  · skip
    rintro a w ⟨hE, hM⟩
    refine wp_seq ?_
    refine c_region ?_
    refine s_assign hE goes_none (by decide) rfl ?_; intro a hE
    refine c_fin ?_
    obtain ⟨j32, hl33, hF34⟩ := bind_some hF7
    refine c_cut (fun a w => Env 41 a [(4, (ptr b1 0)), (6, (ptr b3 0))] ∧ M (Old w0) w0 w [raw b3 (Flat.enc (Vector.replicate 16 (0 : UInt8))), raw b1 (Flat.enc j32)]) ?_ ?_
    · skip
      refine wp_block ?_
      refine c_loop (fun (s35 : (Vector UInt8 16) × Int) a w => Env 41 a [(0, v0_1), (4, (ptr b1 0)), (6, (ptr b3 0)), (7, (vI s35.2))] ∧ M (Old w0) w0 w [raw b3 (Flat.enc (Vector.replicate 16 (0 : UInt8))), raw b1 (Flat.enc s35.1)]) hl33 ⟨hE.sub ⟨rfl, rfl, rfl, rfl, trivial⟩, hM⟩ ?_
      rintro s35 a w ⟨hE, hM⟩ o38 hs36 hx37
      unfold L0_impl_engine_nextKey at hs36
      refine wp_seq ?_
      refine c_region ?_
      refine s_move hE goes_none (by decide) rfl ?_; intro a hE
      refine s_int hE goes_none (by decide) rfl rfl rfl ?_; intro a hE
      refine c_fin ?_
      refine c_cond hE rfl ?_ ?_
      · intro hb39
        have hs36 := ite_t hs36 hb39
        refine wp_skip ?_
        refine c_nx ?_
        refine wp_seq ?_
        refine wp_block ?_
        obtain ⟨x42, e43, hs36⟩ := bind_some hs36
        have hi41 := vidx_some e43
        obtain ⟨x45, e46, hs36⟩ := bind_some hs36
        have hi44 := vidx_some e46
        obtain ⟨pb47, ds48, hv49, hx50, hA51, hB52⟩ := ref_open hv0_1 -- ^
        obtain ⟨u53, u55, rfl, h54, h56⟩ := un_Gengine hx50 -- ^
        obtain ⟨x58, e59, hs36⟩ := bind_some hs36
        have hi57 := vidx_some e59
        obtain ⟨x61, e62, hs36⟩ := bind_some hs36
        have hi60 := vidx_some e62
        refine c_draw (n := 41) (hd := [_, _, _, _, _, _, _, _, _, _, _, _, _, _]) (tl := [_]) hmix rfl rfl [26, 27, 28, 29, 30, 31, 32, 33, 34, 35, 36, 37, 38, 39] (by decide) (fun w => M (Old w0) w0 w [raw b3 (Flat.enc (Vector.replicate 16 (0 : UInt8))), raw b1 (Flat.enc s35.1)]) (fun j => ([fun v _ => v = (vI s35.2), fun v _ => v = (ptr b1 (0 + (s35.2).toNat * 1)), fun v _ => v = (vB x42), fun v _ => v = v0_1, fun v _ => v = (vI s35.2), fun v _ => v = (vI (wr (s35.2 - 1))), fun v _ => v = (ptr b1 (0 + ((wr (s35.2 - 1))).toNat * 1)), fun v _ => v = (vB x45), fun v _ => v = (ptr pb47 0), fun v _ => v = (ptr pb47 (0 + 0)), fun v _ => v = (ptr pb47 (0 + 0 + ((bI x45)).toNat * 1)), fun v _ => v = (vB x58), fun v _ => v = (vB (x42 ^^^ x58)), fun v _ => v = (ptr b1 (0 + (s35.2).toNat * 1))] : List (Value → World → Prop)).getD j (fun _ _ => True)) (fun _ _ h hk => h.keep hk) (gup (gupE (gupE (gupE (gupE (gupE (gupE (gupE (gupE (gupE (gupE (gupE (gupE (gupE (gupE gupN))))))))))))))) hE hM.drew (steps_of (steps_cons ?_ (steps_cons ?_ (steps_cons ?_ (steps_cons ?_ (steps_cons ?_ (steps_cons ?_ (steps_cons ?_ (steps_cons ?_ (steps_cons ?_ (steps_cons ?_ (steps_cons ?_ (steps_cons ?_ (steps_cons ?_ (steps_cons ?_ steps_nil))))))))))))))) ?_
        · intro a w ux40 hE hM hp
          refine s_move hE goes_none (by decide) rfl ?_; intro a hE
          exact ⟨Kept.refl _ _, _, _, rfl, hE, rfl⟩
        · intro a w ux40 hE hM hp
          have f0 : ux40 0 = (vI s35.2) := hp 0 _ rfl rfl
          refine s_indexA hE goes_none (by decide) rfl (lk rfl f0) Try.underlying67 ty5 hi41.1 ?_; intro a hE
          exact ⟨Kept.refl _ _, _, _, rfl, hE, rfl⟩
        · intro a w ux40 hE hM hp
          have f1 : ux40 1 = (ptr b1 (0 + (s35.2).toNat * 1)) := hp 0 _ rfl rfl
          refine s_load (v := (vB x42)) hE goes_none (by decide) (lk rfl f1) ty5 rfl (At.vec (hM.rawAt (pre := [_])) hi41.2) ?_; intro a hE
          exact ⟨Kept.refl _ _, _, _, rfl, hE, rfl⟩
        · intro a w ux40 hE hM hp
          refine s_move hE goes_none (by decide) rfl ?_; intro a hE
          exact ⟨Kept.refl _ _, _, _, rfl, hE, rfl⟩
        · intro a w ux40 hE hM hp
          refine s_move hE goes_none (by decide) rfl ?_; intro a hE
          exact ⟨Kept.refl _ _, _, _, rfl, hE, rfl⟩
        · intro a w ux40 hE hM hp
          have f4 : ux40 4 = (vI s35.2) := hp 0 _ rfl rfl
          refine s_int hE goes_none (by decide) (lk rfl f4) rfl rfl ?_; intro a hE
          exact ⟨Kept.refl _ _, _, _, rfl, hE, rfl⟩
        · intro a w ux40 hE hM hp
          have f5 : ux40 5 = (vI (wr (s35.2 - 1))) := hp 0 _ rfl rfl
          refine s_indexA hE goes_none (by decide) rfl (lk rfl f5) Try.underlying67 ty5 hi44.1 ?_; intro a hE
          exact ⟨Kept.refl _ _, _, _, rfl, hE, rfl⟩
        · intro a w ux40 hE hM hp
          have f6 : ux40 6 = (ptr b1 (0 + ((wr (s35.2 - 1))).toNat * 1)) := hp 0 _ rfl rfl
          refine s_load (v := (vB x45)) hE goes_none (by decide) (lk rfl f6) ty5 rfl (At.vec (hM.rawAt (pre := [_])) hi44.2) ?_; intro a hE
          exact ⟨Kept.refl _ _, _, _, rfl, hE, rfl⟩
        · intro a w ux40 hE hM hp
          have f3 : ux40 3 = v0_1 := hp 0 _ rfl rfl
          refine s_nilCheck hE goes_none (by decide) (lk (lk rfl f3) hv49) ?_; intro a hE
          exact ⟨Kept.refl _ _, _, _, rfl, hE, rfl⟩
        · intro a w ux40 hE hM hp
          have f8 : ux40 8 = (ptr pb47 0) := hp 0 _ rfl rfl
          refine s_fieldAddr hE goes_none (by decide) (lk rfl f8) (fd180_0) ?_; intro a hE
          exact ⟨Kept.refl _ _, _, _, rfl, hE, rfl⟩
        · intro a w ux40 hE hM hp
          have f7 : ux40 7 = (vB x45) := hp 1 _ rfl rfl
          have f9 : ux40 9 = (ptr pb47 (0 + 0)) := hp 0 _ rfl rfl
          refine s_indexA hE goes_none (by decide) (lk rfl f9) (lk rfl f7) Try.underlying54 ty5 hi57.1 ?_; intro a hE
          exact ⟨Kept.refl _ _, _, _, rfl, hE, rfl⟩
        · intro a w ux40 hE hM hp
          have f10 : ux40 10 = (ptr pb47 (0 + 0 + ((bI x45)).toNat * 1)) := hp 0 _ rfl rfl
          refine s_load (v := (vB x58)) hE goes_none (by decide) (lk rfl f10) ty5 rfl (At.vec (At.cat (pre := []) (seg := Flat.enc p0.v.box) (post := [Flat.enc p0.v.backBox, Flat.enc p0.v.places, Flat.enc p0.v.backPlaces, [u53], [u55], [(vI p0.v.rounds)]]) (hM.atk hA51 hB52) cl0) hi57.2) ?_; intro a hE
          exact ⟨Kept.refl _ _, _, _, rfl, hE, rfl⟩
        · intro a w ux40 hE hM hp
          have f2 : ux40 2 = (vB x42) := hp 0 _ rfl rfl
          have f11 : ux40 11 = (vB x58) := hp 1 _ rfl rfl
          refine s_int hE goes_none (by decide) (lk rfl f2) (lk rfl f11) (bB_xor x42 x58) ?_; intro a hE
          exact ⟨Kept.refl _ _, _, _, rfl, hE, rfl⟩
        · intro a w ux40 hE hM hp
          have f0 : ux40 0 = (vI s35.2) := hp 0 _ rfl rfl
          refine s_indexA hE goes_none (by decide) rfl (lk rfl f0) Try.underlying67 ty5 hi60.1 ?_; intro a hE
          exact ⟨Kept.refl _ _, _, _, rfl, hE, rfl⟩
        · intro a w ux40 hE hM hg
          have f0 : ux40 0 = (vI s35.2) := hg 0 (by decide)
          have f1 : ux40 1 = (ptr b1 (0 + (s35.2).toNat * 1)) := hg 1 (by decide)
          have f2 : ux40 2 = (vB x42) := hg 2 (by decide)
          have f3 : ux40 3 = v0_1 := hg 3 (by decide)
          have f4 : ux40 4 = (vI s35.2) := hg 4 (by decide)
          have f5 : ux40 5 = (vI (wr (s35.2 - 1))) := hg 5 (by decide)
          have f6 : ux40 6 = (ptr b1 (0 + ((wr (s35.2 - 1))).toNat * 1)) := hg 6 (by decide)
          have f7 : ux40 7 = (vB x45) := hg 7 (by decide)
          have f8 : ux40 8 = (ptr pb47 0) := hg 8 (by decide)
          have f9 : ux40 9 = (ptr pb47 (0 + 0)) := hg 9 (by decide)
          have f10 : ux40 10 = (ptr pb47 (0 + 0 + ((bI x45)).toNat * 1)) := hg 10 (by decide)
          have f11 : ux40 11 = (vB x58) := hg 11 (by decide)
          have f12 : ux40 12 = (vB (x42 ^^^ x58)) := hg 12 (by decide)
          have f13 : ux40 13 = (ptr b1 (0 + (s35.2).toNat * 1)) := hg 13 (by decide)
          have hE := hE.sub (e' := [(26, (vI s35.2)), (27, (ptr b1 (0 + (s35.2).toNat * 1))), (28, (vB x42)), (29, v0_1), (30, (vI s35.2)), (31, (vI (wr (s35.2 - 1)))), (32, (ptr b1 (0 + ((wr (s35.2 - 1))).toNat * 1))), (33, (vB x45)), (34, (ptr pb47 0)), (35, (ptr pb47 (0 + 0))), (36, (ptr pb47 (0 + 0 + ((bI x45)).toNat * 1))), (37, (vB x58)), (38, (vB (x42 ^^^ x58))), (39, (ptr b1 (0 + (s35.2).toNat * 1))), (0, v0_1), (4, (ptr b1 0)), (6, (ptr b3 0)), (7, (vI s35.2)), (22, (vI s35.2)), (23, (vT (decide (s35.2 < 16))))]) ⟨lk rfl f0, lk rfl f1, lk rfl f2, lk rfl f3, lk rfl f4, lk rfl f5, lk rfl f6, lk rfl f7, lk rfl f8, lk rfl f9, lk rfl f10, lk rfl f11, lk rfl f12, lk rfl f13, rfl, rfl, rfl, rfl, rfl, rfl, trivial⟩
          have hM := hM.pull (pre := [_])
          refine s_store (seg := [(vB (x42 ^^^ x58))]) (cs' := Flat.enc (s35.1.setIfInBounds (s35.2).toNat (x42 ^^^ x58))) hE hM goes_none rfl rfl rfl ty5 rfl (fit_vec (v := s35.1) (x := x42 ^^^ x58) hi60.1) (Flat.cell (x42 ^^^ x58 : UInt8)) (splice_vec0 (v := s35.1) (x := x42 ^^^ x58) hi60.1) ?_; intro w a hM hE
          refine c_fin0 ?_
          refine c_nb ?_
          refine c_nx ?_
          refine wp_region_lit ?_
          refine s_move hE goes_none (by decide) rfl ?_; intro a hE
          refine s_int hE goes_none (by decide) rfl rfl rfl ?_; intro a hE
          refine s_assign hE goes_none (by decide) rfl ?_; intro a hE
          refine c_fin0 ?_
          refine c_mid ?_
          have hM := hM.pull (pre := [_])
          exact ⟨_, (Option.some.inj hs36).symm, hE.sub ⟨rfl, rfl, rfl, rfl, trivial⟩, hM⟩
      · intro hb39
        have hs36 := ite_f hs36 hb39
        refine wp_exit (e_then (e_then (e_eq ?_)))
        have ht63 := hx37 _ (Option.some.inj hs36).symm
        subst ht63
        refine c_mid ?_
        exact ⟨hE.sub ⟨rfl, rfl, trivial⟩, hM⟩
    · skip
      rintro a w ⟨hE, hM⟩
      refine c_nx ?_
      refine c_region ?_
      refine s_loadA (cs := Flat.enc j32) hE goes_none (by decide) rfl ty67 rfl (hM.rawAt (pre := [_])) (Flat.len _) ?_; intro a hE
      refine s_store (seg := Flat.enc j32) (cs' := Flat.enc j32) hE hM goes_none rfl rfl rfl ty67 (Flat.len _) (Nat.le_of_eq ((Nat.zero_add _).trans (Eq.trans (Flat.len _) (Eq.symm (Flat.len _))))) (Flat.cell _) (splice_all (Eq.trans (Flat.len _) (Eq.symm (Flat.len _)))) ?_; intro w a hM hE
      refine c_fin ?_
      have hr := Option.some.inj hF34
      subst hr
      have hq64 : ResIs Try.prog _ _ (.cell 6 67) _ := res_cell hE rfl ty67 rfl (hM.rawAt (pre := [])) (Flat.len _) rfl
      have hM := M.fst (l := []) hM
      exact wp_ret (k_ret1 hE rfl hq64 ⟨_, rfl, rfl, hM.kept⟩)
noncomputable def L0_impl_engine_keys (p0 : (Ref Gengine)) (p2 : Int) (s10 : (Vector UInt8 16) × (List (Vector UInt8 16)) × Int) : Option (Fl ((Vector UInt8 16) × (List (Vector UInt8 16)) × Int) (List (Vector UInt8 16))) :=
  if (decide (s10.2.2 ≤ p2)) = true then ((F_impl_engine_nextKey p0 s10.1 s10.2.2).bind fun (r17 : (Vector UInt8 16)) => (app 16 s10.2.1 ([r17] : List (Vector UInt8 16))).bind fun (l21 : (List (Vector UInt8 16))) => some (Fl.nx (r17, (s10.2.1 ++ ([r17] : List (Vector UInt8 16))), wr (s10.2.2 + 1)))) else (some (Fl.ex s10.2.1))
noncomputable def F_impl_engine_keys (p0 : (Ref Gengine)) (p1 : (Vector UInt8 16)) (p2 : Int) : Option ((List (Vector UInt8 16))) :=
  (iter (L0_impl_engine_keys p0 p2) (p1, ([p1] : List (Vector UInt8 16)), 1) : Option ((List (Vector UInt8 16)))).bind fun (j5 : (List (Vector UInt8 16))) => some j5
set_option maxRecDepth 20000 in
set_option maxHeartbeats 400000 in
theorem c_impl_engine_keys (w0 : World) (p0 : (Ref Gengine)) (v0_1 : Value) (hv0_1 : Ro w0 p0 [v0_1]) (p1 : (Vector UInt8 16)) (p2 : Int) (r : (List (Vector UInt8 16))) (hF : F_impl_engine_keys p0 p1 p2 = some r) :
    Calls Try.prog 115 [v0_1, (Value.agg (Flat.enc p1).toArray), (vI p2)].toArray w0 (fun en w' => ∃ v, en = .returned v ∧ (∃ (y1 : Value), v = y1 ∧ Fr w0 w' [osl NoB (r : List (Vector UInt8 16)) y1] ∧ Kept (Old w0) w0 w')) := by
  refine c_enter (n := 25) Try.func115 rfl rfl (Nat.le_of_ble_eq_true rfl) rfl ?_
  intro a hE
  have hM := M.start w0
  unfold F_impl_engine_keys at hF
  refine c_region ?_
  refine s_box (cs := Flat.enc p1) hE hM goes_none (by decide) rfl rfl ?_; intro b1 w a hM hE
  refine s_assign hE goes_none (by decide) rfl ?_; intro a hE
  refine c_fin ?_
  refine c_region ?_
  refine s_loadA (cs := Flat.enc p1) hE goes_none (by decide) rfl ty67 rfl (hM.rawAt (pre := [])) (Flat.len _) ?_; intro a hE
  refine s_buildF (xs := [.tmp 9]) (l := ([p1] : List (Vector UInt8 16))) (vs := [(Value.agg (Flat.enc p1).toArray)]) hE hM goes_none (by decide) rfl rfl Try.underlying60 ty67 rfl (by decide) rfl ?_; intro u3 w a hM hE
  refine s_assign hE goes_none (by decide) rfl ?_; intro a hE
  refine c_fin ?_
  refine wp_seq ?_
  refine c_region ?_
  refine s_assign hE goes_none (by decide) rfl ?_; intro a hE
  refine c_fin ?_
  obtain ⟨j5, hl6, hF7⟩ := bind_some hF
  refine c_cut (fun a w => ∃ (u8 : Value), Env 25 a [(7, u8)] ∧ M (Old w0) w0 w [osl NoB (j5 : List (Vector UInt8 16)) u8]) ?_ ?_
  · skip
    refine wp_block ?_
    have hM := hM.pull (pre := [_])
    refine c_loop (fun (s10 : (Vector UInt8 16) × (List (Vector UInt8 16)) × Int) a w => ∃ (u11 : Value), Env 25 a [(0, v0_1), (2, (vI p2)), (4, (ptr b1 0)), (7, u11), (8, (vI s10.2.2))] ∧ M (Old w0) w0 w [raw b1 (Flat.enc s10.1), osl NoB (s10.2.1 : List (Vector UInt8 16)) u11]) hl6 ⟨u3, hE.sub ⟨rfl, rfl, rfl, rfl, rfl, trivial⟩, hM⟩ ?_
    rintro s10 a w ⟨u11, hE, hM⟩ o15 hs13 hx14
    unfold L0_impl_engine_keys at hs13
    refine wp_seq ?_
    refine c_region ?_
    refine s_move hE goes_none (by decide) rfl ?_; intro a hE
    refine s_move hE goes_none (by decide) rfl ?_; intro a hE
    refine s_int hE goes_none (by decide) rfl rfl rfl ?_; intro a hE
    refine c_fin ?_
    refine c_cond hE rfl ?_ ?_
    · intro hb16
      have hs13 := ite_t hs13 hb16
      refine wp_skip ?_
      refine c_nx ?_
      refine wp_seq ?_
      refine wp_block ?_
      refine c_region ?_
      refine s_move hE goes_none (by decide) rfl ?_; intro a hE
      refine s_loadA (cs := Flat.enc s10.1) hE goes_none (by decide) rfl ty67 rfl (hM.rawAt (pre := [])) (Flat.len _) ?_; intro a hE
      refine s_move hE goes_none (by decide) rfl ?_; intro a hE
      obtain ⟨r17, e18, hs13⟩ := bind_some hs13
      refine s_call (vs := [v0_1, (Value.agg (Flat.enc s10.1).toArray), (vI s10.2.2)]) hE goes_none (by decide) rfl cb168 (c_impl_engine_nextKey _ p0 v0_1 (hM.rdo hv0_1) s10.1 s10.2.2 r17 e18) ?_
      rintro v w a ⟨rfl, hK⟩ hE
      have hM := hM.keep hK
      refine s_store (seg := Flat.enc r17) (cs' := Flat.enc r17) hE hM goes_none rfl rfl rfl ty67 (Flat.len _) (Nat.le_of_eq ((Nat.zero_add _).trans (Eq.trans (Flat.len _) (Eq.symm (Flat.len _))))) (Flat.cell _) (splice_all (Eq.trans (Flat.len _) (Eq.symm (Flat.len _)))) ?_; intro w a hM hE
      refine c_fin ?_
      refine wp_region_lit ?_
      refine s_move hE goes_none (by decide) rfl ?_; intro a hE
      refine s_loadA (cs := Flat.enc r17) hE goes_none (by decide) rfl ty67 rfl (hM.rawAt (pre := [])) (Flat.len _) ?_; intro a hE
      refine s_buildF (xs := [.tmp 21]) (l := ([r17] : List (Vector UInt8 16))) (vs := [(Value.agg (Flat.enc r17).toArray)]) hE hM goes_none (by decide) rfl rfl Try.underlying60 ty67 rfl (by decide) rfl ?_; intro u19 w a hM hE
      obtain ⟨l21, e22, hs13⟩ := bind_some hs13
      obtain ⟨e25, rfl⟩ := app_some e22
      have hM := hM.pull (pre := [_, _])
      refine s_appendF hE hM goes_none (by decide) rfl rfl (hM.sl (pre := [_]) noB) Try.underlying60 ty67 rfl (by decide) e25 ?_; intro u23 w a hM hE
      refine s_assign hE goes_none (by decide) rfl ?_; intro a hE
      refine c_fin0 ?_
      refine c_nb ?_
      refine c_nx ?_
      refine wp_region_lit ?_
      refine s_move hE goes_none (by decide) rfl ?_; intro a hE
      refine s_int hE goes_none (by decide) rfl rfl rfl ?_; intro a hE
      refine s_assign hE goes_none (by decide) rfl ?_; intro a hE
      refine c_fin0 ?_
      refine c_mid ?_
      have hM := hM.pull (pre := [_, _])
      have hM := M.fst (l := [_, _]) hM
      exact ⟨_, (Option.some.inj hs13).symm, u23, hE.sub ⟨rfl, rfl, rfl, rfl, rfl, trivial⟩, hM⟩
    · intro hb16
      have hs13 := ite_f hs13 hb16
      refine wp_exit (e_then (e_then (e_eq ?_)))
      have ht26 := hx14 _ (Option.some.inj hs13).symm
      subst ht26
      refine c_mid ?_
      have hM := hM.pull (pre := [_])
      have hM := M.fst (l := [_]) hM
      exact ⟨u11, hE.sub ⟨rfl, trivial⟩, hM⟩
  · skip
    rintro a w ⟨u8, hE, hM⟩
    refine c_nx ?_
    refine c_region ?_
    refine s_move hE goes_none (by decide) rfl ?_; intro a hE
    refine s_assign hE goes_none (by decide) rfl ?_; intro a hE
    refine c_fin ?_
    have hr := Option.some.inj hF7
    subst hr
    exact wp_ret (k_ret1 hE rfl (res_tmp hE rfl) ⟨_, rfl, u8, rfl, hM.outF (locN1 locN0), hM.kept⟩)
noncomputable def L0_impl_XorBlocks (p1 : (Vector UInt8 16)) (s10 : (Vector UInt8 16) × Int) : Option (Fl ((Vector UInt8 16) × Int) (Vector UInt8 16)) :=
  if (decide (s10.2 < 16)) = true then ((vidx s10.1 s10.2).bind fun (x17 : UInt8) => (vidx p1 s10.2).bind fun (x20 : UInt8) => (vidx s10.1 s10.2).bind fun (x23 : UInt8) => some (Fl.nx ((s10.1.setIfInBounds (s10.2).toNat (x17 ^^^ x20)), wr (s10.2 + 1)))) else (some (Fl.ex s10.1))
noncomputable def F_impl_XorBlocks (p0 : (Vector UInt8 16)) (p1 : (Vector UInt8 16)) : Option ((Vector UInt8 16)) :=
  (iter (L0_impl_XorBlocks p1) (p0, 0) : Option ((Vector UInt8 16))).bind fun (j7 : (Vector UInt8 16)) => some j7
set_option maxRecDepth 20000 in
set_option maxHeartbeats 400000 in
theorem c_impl_XorBlocks (w0 : World) (p0 : (Vector UInt8 16)) (p1 : (Vector UInt8 16)) (r : (Vector UInt8 16)) (hF : F_impl_XorBlocks p0 p1 = some r) :
    Calls Try.prog 111 [(Value.agg (Flat.enc p0).toArray), (Value.agg (Flat.enc p1).toArray)].toArray w0 (fun en w' => ∃ v, en = .returned v ∧ (v = (Value.agg (Flat.enc r).toArray) ∧ Kept (Old w0) w0 w')) := by
  refine c_enter (n := 19) Try.func111 rfl rfl (Nat.le_of_ble_eq_true rfl) rfl ?_
  intro a hE
  have hM := M.start w0
  unfold F_impl_XorBlocks at hF
  refine c_region ?_
  refine s_box (cs := Flat.enc p0) hE hM goes_none (by decide) rfl rfl ?_; intro b1 w a hM hE
  refine s_box (cs := Flat.enc p1) hE hM goes_none (by decide) rfl rfl ?_; intro b3 w a hM hE
  refine s_alloc hE hM goes_none (by decide) ty67 ?_; intro b5 w a hM hE
  refine c_fin ?_
  refine wp_seq ?_
  refine c_region ?_
  refine s_move hE goes_none (by decide) rfl ?_; intro a hE
  refine c_fin ?_
  obtain ⟨j7, hl8, hF9⟩ := bind_some hF
  refine c_cut (fun a w => Env 19 a [(2, (ptr b1 0)), (4, (ptr b5 0))] ∧ M (Old w0) w0 w [raw b5 (Flat.enc (Vector.replicate 16 (0 : UInt8))), raw b1 (Flat.enc j7)]) ?_ ?_
  · skip
    refine wp_block ?_
    refine c_loop (fun (s10 : (Vector UInt8 16) × Int) a w => Env 19 a [(2, (ptr b1 0)), (3, (ptr b3 0)), (4, (ptr b5 0)), (6, (vI s10.2))] ∧ M (Old w0) w0 w [raw b5 (Flat.enc (Vector.replicate 16 (0 : UInt8))), raw b3 (Flat.enc p1), raw b1 (Flat.enc s10.1)]) hl8 ⟨hE.sub ⟨rfl, rfl, rfl, rfl, trivial⟩, hM⟩ ?_
    rintro s10 a w ⟨hE, hM⟩ o13 hs11 hx12
    unfold L0_impl_XorBlocks at hs11
    refine c_region ?_
    refine s_int hE goes_none (by decide) rfl rfl rfl ?_; intro a hE
    refine c_fin ?_
    refine wp_seq ?_
    refine c_cond hE rfl ?_ ?_
    · intro hb14
      have hs11 := ite_t hs11 hb14
      refine wp_skip ?_
      refine c_nx ?_
      refine wp_seq ?_
      refine wp_block ?_
      refine c_region ?_
      refine s_move hE goes_none (by decide) rfl ?_; intro a hE
      refine s_assign hE goes_none (by decide) rfl ?_; intro a hE
      refine c_fin ?_
      obtain ⟨x17, e18, hs11⟩ := bind_some hs11
      have hi16 := vidx_some e18
      obtain ⟨x20, e21, hs11⟩ := bind_some hs11
      have hi19 := vidx_some e21
      obtain ⟨x23, e24, hs11⟩ := bind_some hs11
      have hi22 := vidx_some e24
      refine c_draw (n := 19) (hd := [_, _, _, _, _, _, _, _]) (tl := [_]) hmix rfl rfl [9, 10, 11, 12, 13, 14, 15, 16] (by decide) (fun w => M (Old w0) w0 w [raw b5 (Flat.enc (Vector.replicate 16 (0 : UInt8))), raw b3 (Flat.enc p1), raw b1 (Flat.enc s10.1)]) (fun j => ([fun v _ => v = (vI s10.2), fun v _ => v = (ptr b1 (0 + (s10.2).toNat * 1)), fun v _ => v = (vB x17), fun v _ => v = (vI s10.2), fun v _ => v = (ptr b3 (0 + (s10.2).toNat * 1)), fun v _ => v = (vB x20), fun v _ => v = (vB (x17 ^^^ x20)), fun v _ => v = (ptr b1 (0 + (s10.2).toNat * 1))] : List (Value → World → Prop)).getD j (fun _ _ => True)) (fun _ _ h hk => h.keep hk) (gup (gupE (gupE (gupE (gupE (gupE (gupE (gupE (gupE gupN))))))))) hE hM.drew (steps_of (steps_cons ?_ (steps_cons ?_ (steps_cons ?_ (steps_cons ?_ (steps_cons ?_ (steps_cons ?_ (steps_cons ?_ (steps_cons ?_ steps_nil))))))))) ?_
      · intro a w ux15 hE hM hp
        refine s_move hE goes_none (by decide) rfl ?_; intro a hE
        exact ⟨Kept.refl _ _, _, _, rfl, hE, rfl⟩
      · intro a w ux15 hE hM hp
        have f0 : ux15 0 = (vI s10.2) := hp 0 _ rfl rfl
        refine s_indexA hE goes_none (by decide) rfl (lk rfl f0) Try.underlying67 ty5 hi16.1 ?_; intro a hE
        exact ⟨Kept.refl _ _, _, _, rfl, hE, rfl⟩
      · intro a w ux15 hE hM hp
        have f1 : ux15 1 = (ptr b1 (0 + (s10.2).toNat * 1)) := hp 0 _ rfl rfl
        refine s_load (v := (vB x17)) hE goes_none (by decide) (lk rfl f1) ty5 rfl (At.vec (hM.rawAt (pre := [_, _])) hi16.2) ?_; intro a hE
        exact ⟨Kept.refl _ _, _, _, rfl, hE, rfl⟩
      · intro a w ux15 hE hM hp
        refine s_move hE goes_none (by decide) rfl ?_; intro a hE
        exact ⟨Kept.refl _ _, _, _, rfl, hE, rfl⟩
      · intro a w ux15 hE hM hp
        have f3 : ux15 3 = (vI s10.2) := hp 0 _ rfl rfl
        refine s_indexA hE goes_none (by decide) rfl (lk rfl f3) Try.underlying67 ty5 hi19.1 ?_; intro a hE
        exact ⟨Kept.refl _ _, _, _, rfl, hE, rfl⟩
      · intro a w ux15 hE hM hp
        have f4 : ux15 4 = (ptr b3 (0 + (s10.2).toNat * 1)) := hp 0 _ rfl rfl
        refine s_load (v := (vB x20)) hE goes_none (by decide) (lk rfl f4) ty5 rfl (At.vec (hM.rawAt (pre := [_])) hi19.2) ?_; intro a hE
        exact ⟨Kept.refl _ _, _, _, rfl, hE, rfl⟩
      · intro a w ux15 hE hM hp
        have f2 : ux15 2 = (vB x17) := hp 0 _ rfl rfl
        have f5 : ux15 5 = (vB x20) := hp 1 _ rfl rfl
        refine s_int hE goes_none (by decide) (lk rfl f2) (lk rfl f5) (bB_xor x17 x20) ?_; intro a hE
        exact ⟨Kept.refl _ _, _, _, rfl, hE, rfl⟩
      · intro a w ux15 hE hM hp
        have f0 : ux15 0 = (vI s10.2) := hp 0 _ rfl rfl
        refine s_indexA hE goes_none (by decide) rfl (lk rfl f0) Try.underlying67 ty5 hi22.1 ?_; intro a hE
        exact ⟨Kept.refl _ _, _, _, rfl, hE, rfl⟩
      · intro a w ux15 hE hM hg
        have f0 : ux15 0 = (vI s10.2) := hg 0 (by decide)
        have f1 : ux15 1 = (ptr b1 (0 + (s10.2).toNat * 1)) := hg 1 (by decide)
        have f2 : ux15 2 = (vB x17) := hg 2 (by decide)
        have f3 : ux15 3 = (vI s10.2) := hg 3 (by decide)
        have f4 : ux15 4 = (ptr b3 (0 + (s10.2).toNat * 1)) := hg 4 (by decide)
        have f5 : ux15 5 = (vB x20) := hg 5 (by decide)
        have f6 : ux15 6 = (vB (x17 ^^^ x20)) := hg 6 (by decide)
        have f7 : ux15 7 = (ptr b1 (0 + (s10.2).toNat * 1)) := hg 7 (by decide)
        have hE := hE.sub (e' := [(9, (vI s10.2)), (10, (ptr b1 (0 + (s10.2).toNat * 1))), (11, (vB x17)), (12, (vI s10.2)), (13, (ptr b3 (0 + (s10.2).toNat * 1))), (14, (vB x20)), (15, (vB (x17 ^^^ x20))), (16, (ptr b1 (0 + (s10.2).toNat * 1))), (2, (ptr b1 0)), (3, (ptr b3 0)), (4, (ptr b5 0)), (5, (vI s10.2)), (6, (vI s10.2)), (7, (vT (decide (s10.2 < 16)))), (8, (vI s10.2))]) ⟨lk rfl f0, lk rfl f1, lk rfl f2, lk rfl f3, lk rfl f4, lk rfl f5, lk rfl f6, lk rfl f7, rfl, rfl, rfl, rfl, rfl, rfl, rfl, trivial⟩
        have hM := hM.pull (pre := [_, _])
        refine s_store (seg := [(vB (x17 ^^^ x20))]) (cs' := Flat.enc (s10.1.setIfInBounds (s10.2).toNat (x17 ^^^ x20))) hE hM goes_none rfl rfl rfl ty5 rfl (fit_vec (v := s10.1) (x := x17 ^^^ x20) hi22.1) (Flat.cell (x17 ^^^ x20 : UInt8)) (splice_vec0 (v := s10.1) (x := x17 ^^^ x20) hi22.1) ?_; intro w a hM hE
        refine c_fin0 ?_
        refine c_nb ?_
        refine c_nx ?_
        refine wp_region_lit ?_
        refine s_int hE goes_none (by decide) rfl rfl rfl ?_; intro a hE
        refine s_move hE goes_none (by decide) rfl ?_; intro a hE
        refine c_fin0 ?_
        refine c_mid ?_
        have hM := hM.pull (pre := [_, _])
        have hM := hM.pull (pre := [_, _])
        exact ⟨_, (Option.some.inj hs11).symm, hE.sub ⟨rfl, rfl, rfl, rfl, trivial⟩, hM⟩
    · intro hb14
      have hs11 := ite_f hs11 hb14
      refine wp_exit (e_then (e_then (e_eq ?_)))
      have ht25 := hx12 _ (Option.some.inj hs11).symm
      subst ht25
      refine c_mid ?_
      have hM := hM.pull (pre := [_, _])
      have hM := hM.pull (pre := [_])
      have hM := M.fst (l := [_, _]) hM
      exact ⟨hE.sub ⟨rfl, rfl, trivial⟩, hM⟩
  · skip
    rintro a w ⟨hE, hM⟩
    refine c_nx ?_
    refine c_region ?_
    refine s_loadA (cs := Flat.enc j7) hE goes_none (by decide) rfl ty67 rfl (hM.rawAt (pre := [_])) (Flat.len _) ?_; intro a hE
    refine s_store (seg := Flat.enc j7) (cs' := Flat.enc j7) hE hM goes_none rfl rfl rfl ty67 (Flat.len _) (Nat.le_of_eq ((Nat.zero_add _).trans (Eq.trans (Flat.len _) (Eq.symm (Flat.len _))))) (Flat.cell _) (splice_all (Eq.trans (Flat.len _) (Eq.symm (Flat.len _)))) ?_; intro w a hM hE
    refine c_fin ?_
    have hr := Option.some.inj hF9
    subst hr
    have hq26 : ResIs Try.prog _ _ (.cell 4 67) _ := res_cell hE rfl ty67 rfl (hM.rawAt (pre := [])) (Flat.len _) rfl
    have hM := M.fst (l := []) hM
    exact wp_ret (k_ret1 hE rfl hq26 ⟨_, rfl, rfl, hM.kept⟩)
noncomputable def L0_impl_Places_move (p0 : (Vector UInt8 16)) (p1 : (Vector UInt8 16)) (s12 : (Vector UInt8 16) × Int) : Option (Fl ((Vector UInt8 16) × Int) (Vector UInt8 16)) :=
  if (decide (s12.2 < 16)) = true then ((vidx p0 s12.2).bind fun (x17 : UInt8) => (vidx p1 (bI x17)).bind fun (x21 : UInt8) => (vidx s12.1 s12.2).bind fun (x24 : UInt8) => some (Fl.nx ((s12.1.setIfInBounds (s12.2).toNat x21), wr (s12.2 + 1)))) else (some (Fl.ex s12.1))
noncomputable def F_impl_Places_move (p0 : (Vector UInt8 16)) (p1 : (Vector UInt8 16)) : Option ((Vector UInt8 16)) :=
  (iter (L0_impl_Places_move p0 p1) ((Vector.replicate 16 (0 : UInt8)), 0) : Option ((Vector UInt8 16))).bind fun (j9 : (Vector UInt8 16)) => some j9
set_option maxRecDepth 20000 in
set_option maxHeartbeats 400000 in
theorem c_impl_Places_move (w0 : World) (p0 : (Vector UInt8 16)) (p1 : (Vector UInt8 16)) (r : (Vector UInt8 16)) (hF : F_impl_Places_move p0 p1 = some r) :
    Calls Try.prog 167 [(Value.agg (Flat.enc p0).toArray), (Value.agg (Flat.enc p1).toArray)].toArray w0 (fun en w' => ∃ v, en = .returned v ∧ (v = (Value.agg (Flat.enc r).toArray) ∧ Kept (Old w0) w0 w')) := by
  refine c_enter (n := 21) Try.func167 rfl rfl (Nat.le_of_ble_eq_true rfl) rfl ?_
  intro a hE
  have hM := M.start w0
  unfold F_impl_Places_move at hF
  refine c_region ?_
  refine s_box (cs := Flat.enc p0) hE hM goes_none (by decide) rfl rfl ?_; intro b1 w a hM hE
  refine s_box (cs := Flat.enc p1) hE hM goes_none (by decide) rfl rfl ?_; intro b3 w a hM hE
  refine s_alloc hE hM goes_none (by decide) ty67 ?_; intro b5 w a hM hE
  refine c_fin ?_
  refine c_region ?_
  refine s_buildA (parts := []) (vs := []) (cs := Flat.enc (Vector.replicate 16 (0 : UInt8))) hE goes_none (by decide) rfl rfl ty67 rfl ty5 filla_nil ?_; intro a hE
  refine s_alloc hE hM goes_none (by decide) ty67 ?_; intro b7 w a hM hE
  refine s_store (seg := Flat.enc (Vector.replicate 16 (0 : UInt8))) (cs' := Flat.enc (Vector.replicate 16 (0 : UInt8))) hE hM goes_none rfl rfl rfl ty67 (Flat.len _) (Nat.le_of_eq ((Nat.zero_add _).trans (Eq.trans (Flat.len _) (Eq.symm (Flat.len _))))) (Flat.cell _) (splice_all (Eq.trans (Flat.len _) (Eq.symm (Flat.len _)))) ?_; intro w a hM hE
  refine c_fin ?_
  refine wp_seq ?_
  refine c_region ?_
  refine s_loadA (cs := Flat.enc p0) hE goes_none (by decide) rfl ty56 rfl (hM.rawAt (pre := [_, _, _])) (Flat.len _) ?_; intro a hE
  refine s_move hE goes_none (by decide) rfl ?_; intro a hE
  refine c_fin ?_
  obtain ⟨j9, hl10, hF11⟩ := bind_some hF
  refine c_cut (fun a w => Env 21 a [(4, (ptr b5 0)), (5, (ptr b7 0))] ∧ M (Old w0) w0 w [raw b7 (Flat.enc j9), raw b5 (Flat.enc (Vector.replicate 16 (0 : UInt8)))]) ?_ ?_
  · skip
    refine wp_block ?_
    have hM := hM.pull (pre := [_, _])
    have hM := hM.pull (pre := [_, _])
    have hM := hM.pull (pre := [_, _])
    have hM := M.fst (l := [_, _, _]) hM
    refine c_loop (fun (s12 : (Vector UInt8 16) × Int) a w => Env 21 a [(3, (ptr b3 0)), (4, (ptr b5 0)), (5, (ptr b7 0)), (9, (Value.agg (Flat.enc p0).toArray)), (10, (vI s12.2))] ∧ M (Old w0) w0 w [raw b7 (Flat.enc s12.1), raw b5 (Flat.enc (Vector.replicate 16 (0 : UInt8))), raw b3 (Flat.enc p1)]) hl10 ⟨hE.sub ⟨rfl, rfl, rfl, rfl, rfl, trivial⟩, hM⟩ ?_
    rintro s12 a w ⟨hE, hM⟩ o15 hs13 hx14
    unfold L0_impl_Places_move at hs13
    refine c_region ?_
    refine s_int hE goes_none (by decide) rfl rfl rfl ?_; intro a hE
    refine c_fin ?_
    refine wp_seq ?_
    refine c_cond hE rfl ?_ ?_
    · intro hb16
      have hs13 := ite_t hs13 hb16
      refine wp_skip ?_
      refine c_nx ?_
      refine wp_seq ?_
      refine wp_block ?_
      refine c_region ?_
      refine s_move hE goes_none (by decide) rfl ?_; intro a hE
      obtain ⟨x17, e18, hs13⟩ := bind_some hs13
      have hi19 := vidx_some e18
      refine s_indexV hE goes_none (by decide) rfl rfl Try.underlying56 ty5 rfl rfl hi19 rfl ?_; intro a hE
      refine s_assign hE goes_none (by decide) rfl ?_; intro a hE
      refine s_assign hE goes_none (by decide) rfl ?_; intro a hE
      refine c_fin ?_
      refine wp_region_lit ?_
      refine s_move hE goes_none (by decide) rfl ?_; intro a hE
      refine s_move hE goes_none (by decide) rfl ?_; intro a hE
      obtain ⟨x21, e22, hs13⟩ := bind_some hs13
      have hi20 := vidx_some e22
      refine s_indexA hE goes_none (by decide) rfl rfl Try.underlying67 ty5 hi20.1 ?_; intro a hE
      refine s_load (v := (vB x21)) hE goes_none (by decide) rfl ty5 rfl (At.vec (hM.rawAt (pre := [_, _])) hi20.2) ?_; intro a hE
      obtain ⟨x24, e25, hs13⟩ := bind_some hs13
      have hi23 := vidx_some e25
      refine s_indexA hE goes_none (by decide) rfl rfl Try.underlying67 ty5 hi23.1 ?_; intro a hE
      refine s_store (seg := [(vB x21)]) (cs' := Flat.enc (s12.1.setIfInBounds (s12.2).toNat x21)) hE hM goes_none rfl rfl rfl ty5 rfl (fit_vec (v := s12.1) (x := x21) hi23.1) (Flat.cell (x21 : UInt8)) (splice_vec0 (v := s12.1) (x := x21) hi23.1) ?_; intro w a hM hE
      refine c_fin0 ?_
      refine c_nb ?_
      refine c_nx ?_
      refine wp_region_lit ?_
      refine s_int hE goes_none (by decide) rfl rfl rfl ?_; intro a hE
      refine s_move hE goes_none (by decide) rfl ?_; intro a hE
      refine c_fin0 ?_
      refine c_mid ?_
      exact ⟨_, (Option.some.inj hs13).symm, hE.sub ⟨rfl, rfl, rfl, rfl, rfl, trivial⟩, hM⟩
    · intro hb16
      have hs13 := ite_f hs13 hb16
      refine wp_exit (e_then (e_then (e_eq ?_)))
      have ht26 := hx14 _ (Option.some.inj hs13).symm
      subst ht26
      refine c_mid ?_
      have hM := hM.pull (pre := [_])
      have hM := hM.pull (pre := [_])
      have hM := M.fst (l := [_, _]) hM
      exact ⟨hE.sub ⟨rfl, rfl, trivial⟩, hM⟩
  · skip
    rintro a w ⟨hE, hM⟩
    refine c_nx ?_
    refine c_region ?_
    refine s_loadA (cs := Flat.enc j9) hE goes_none (by decide) rfl ty67 rfl (hM.rawAt (pre := [])) (Flat.len _) ?_; intro a hE
    have hM := hM.pull (pre := [_])
    refine s_store (seg := Flat.enc j9) (cs' := Flat.enc j9) hE hM goes_none rfl rfl rfl ty67 (Flat.len _) (Nat.le_of_eq ((Nat.zero_add _).trans (Eq.trans (Flat.len _) (Eq.symm (Flat.len _))))) (Flat.cell _) (splice_all (Eq.trans (Flat.len _) (Eq.symm (Flat.len _)))) ?_; intro w a hM hE
    refine c_fin ?_
    have hr := Option.some.inj hF11
    subst hr
    have hq27 : ResIs Try.prog _ _ (.cell 4 67) _ := res_cell hE rfl ty67 rfl (hM.rawAt (pre := [])) (Flat.len _) rfl
    have hM := M.fst (l := []) hM
    exact wp_ret (k_ret1 hE rfl hq27 ⟨_, rfl, rfl, hM.kept⟩)
noncomputable def L1_impl_mixer_mix (p0 : (Ref (Vector (Vector (Vector UInt8 256) 4) 4))) (s4 : (Vector UInt8 16) × Int) (j9 : UInt8 × UInt8 × UInt8 × UInt8) (s29 : (Vector UInt8 16) × Int) : Option (Fl ((Vector UInt8 16) × Int) (Vector UInt8 16)) :=
  if (decide (s29.2 < 4)) = true then ((vidx p0.v s29.2).bind fun (x42 : (Vector (Vector UInt8 256) 4)) => (vidx x42 (0 : Int)).bind fun (x45 : (Vector UInt8 256)) => (vidx x45 (bI j9.1)).bind fun (x48 : UInt8) => (vidx p0.v s29.2).bind fun (x57 : (Vector (Vector UInt8 256) 4)) => (vidx x57 (1 : Int)).bind fun (x60 : (Vector UInt8 256)) => (vidx x60 (bI j9.2.1)).bind fun (x63 : UInt8) => (vidx p0.v s29.2).bind fun (x72 : (Vector (Vector UInt8 256) 4)) => (vidx x72 (2 : Int)).bind fun (x75 : (Vector UInt8 256)) => (vidx x75 (bI j9.2.2.1)).bind fun (x78 : UInt8) => (vidx p0.v s29.2).bind fun (x87 : (Vector (Vector UInt8 256) 4)) => (vidx x87 (3 : Int)).bind fun (x90 : (Vector UInt8 256)) => (vidx x90 (bI j9.2.2.2)).bind fun (x93 : UInt8) => (vidx s29.1 (wr (s4.2 + s29.2))).bind fun (x95 : UInt8) => some (Fl.nx ((s29.1.setIfInBounds ((wr (s4.2 + s29.2))).toNat (((x48 ^^^ x63) ^^^ x78) ^^^ x93)), wr (s29.2 + 1)))) else (some (Fl.ex s29.1))
noncomputable def L0_impl_mixer_mix (p0 : (Ref (Vector (Vector (Vector UInt8 256) 4) 4))) (s4 : (Vector UInt8 16) × Int) : Option (Fl ((Vector UInt8 16) × Int) (Vector UInt8 16)) :=
  if (decide (s4.2 < (s4.1.toList.length : Int))) = true then (((vidx s4.1 s4.2).bind fun (x13 : UInt8) => (vidx s4.1 (wr (s4.2 + 1))).bind fun (x16 : UInt8) => (vidx s4.1 (wr (s4.2 + 2))).bind fun (x19 : UInt8) => (vidx s4.1 (wr (s4.2 + 3))).bind fun (x22 : UInt8) => some (x13, x16, x19, x22) : Option (UInt8 × UInt8 × UInt8 × UInt8)).bind fun (j9 : UInt8 × UInt8 × UInt8 × UInt8) => (iter (L1_impl_mixer_mix p0 s4 j9) (s4.1, 0) : Option ((Vector UInt8 16))).bind fun (j26 : (Vector UInt8 16)) => some (Fl.nx (j26, wr (s4.2 + 4)))) else (some (Fl.ex s4.1))
noncomputable def F_impl_mixer_mix (p0 : (Ref (Vector (Vector (Vector UInt8 256) 4) 4))) (p1 : (Vector UInt8 16)) : Option ((Vector UInt8 16)) :=
  (iter (L0_impl_mixer_mix p0) (p1, 0) : Option ((Vector UInt8 16))).bind fun (j1 : (Vector UInt8 16)) => some j1
set_option maxRecDepth 20000 in
set_option maxHeartbeats 400000 in
theorem c_impl_mixer_mix (St : Nat → Prop) (W w0 : World) (its : List Item) (p0 : (Ref (Vector (Vector (Vector UInt8 256) 4) 4))) (v0_1 : Value) (hv0_1 : Rep.sat St W p0 [v0_1] []) (pb1 : Nat) (p1 : (Vector UInt8 16)) (hM : M St W w0 (raw pb1 (Flat.enc p1) :: its)) (r : (Vector UInt8 16)) (hF : F_impl_mixer_mix p0 p1 = some r) :
    Calls Try.prog 166 [v0_1, (Value.slice (some ⟨pb1, 0, none⟩) 16 16)].toArray w0 (fun en w' => ∃ v, en = .returned v ∧ (v = (Value.tuple [].toArray) ∧ M St W w' (raw pb1 (Flat.enc r) :: its))) := by
  refine c_enter (n := 79) Try.func166 rfl rfl (Nat.le_of_ble_eq_true rfl) rfl ?_
  intro a hE
  unfold F_impl_mixer_mix at hF
  refine c_region ?_
  refine s_assign hE goes_none (by decide) rfl ?_; intro a hE
  refine c_fin ?_
  obtain ⟨j1, hl2, hF3⟩ := bind_some hF
  refine c_cut (fun a w => Env 79 a [(1, (Value.slice (some ⟨pb1, 0, none⟩) 16 16))] ∧ M St W w (raw pb1 (Flat.enc j1) :: its)) ?_ ?_
  · skip
    refine wp_block ?_
    refine c_loop (fun (s4 : (Vector UInt8 16) × Int) a w => Env 79 a [(0, v0_1), (1, (Value.slice (some ⟨pb1, 0, none⟩) 16 16)), (4, (vI s4.2))] ∧ M St W w (raw pb1 (Flat.enc s4.1) :: its)) hl2 ⟨hE.sub ⟨rfl, rfl, rfl, trivial⟩, hM⟩ ?_
    rintro s4 a w ⟨hE, hM⟩ o7 hs5 hx6
    unfold L0_impl_mixer_mix at hs5
    refine wp_seq ?_
    refine c_region ?_
    refine s_move hE goes_none (by decide) rfl ?_; intro a hE
    refine s_move hE goes_none (by decide) rfl ?_; intro a hE
    refine s_len hE goes_none (by decide) rfl Try.underlying24 (raw_full (hM.rawAt (pre := []))) ?_; intro a hE
    refine s_int hE goes_none (by decide) rfl rfl rfl ?_; intro a hE
    refine c_fin ?_
    refine c_cond hE rfl ?_ ?_
    · intro hb8
      have hs5 := ite_t hs5 hb8
      refine wp_skip ?_
      refine c_nx ?_
      refine wp_seq ?_
      refine wp_block ?_
      obtain ⟨j9, hl10, hF11⟩ := bind_some hs5
      refine c_join (fun a w => Env 79 a [(0, v0_1), (1, (Value.slice (some ⟨pb1, 0, none⟩) 16 16)), (4, (vI s4.2)), (5, (vB j9.1)), (6, (vB j9.2.1)), (7, (vB j9.2.2.1)), (8, (vB j9.2.2.2))] ∧ M St W w (raw pb1 (Flat.enc s4.1) :: its)) ?_ ?_
      · skip
        obtain ⟨x13, e14, hl10⟩ := bind_some hl10
        have hi15 := vidx_some e14
        obtain ⟨x16, e17, hl10⟩ := bind_some hl10
        have hi18 := vidx_some e17
        obtain ⟨x19, e20, hl10⟩ := bind_some hl10
        have hi21 := vidx_some e20
        obtain ⟨x22, e23, hl10⟩ := bind_some hl10
        have hi24 := vidx_some e23
        refine c_draw (n := 79) (hd := [_, _, _, _, _, _, _, _, _, _, _, _, _, _, _, _, _, _, _, _, _, _, _]) (tl := []) hmix rfl rfl [16, 17, 18, 19, 20, 21, 22, 23, 24, 25, 26, 27, 28, 29, 30, 31, 32, 33, 34, 5, 6, 7, 8] (by decide) (fun w => M St W w (raw pb1 (Flat.enc s4.1) :: its)) (fun j => ([fun v _ => v = (Value.slice (some ⟨pb1, 0, none⟩) 16 16), fun v _ => v = (vI s4.2), fun v _ => v = (ptr pb1 (0 + (s4.2).toNat * 1)), fun v _ => v = (vB x13), fun v _ => v = (Value.slice (some ⟨pb1, 0, none⟩) 16 16), fun v _ => v = (vI s4.2), fun v _ => v = (vI (wr (s4.2 + 1))), fun v _ => v = (ptr pb1 (0 + ((wr (s4.2 + 1))).toNat * 1)), fun v _ => v = (vB x16), fun v _ => v = (Value.slice (some ⟨pb1, 0, none⟩) 16 16), fun v _ => v = (vI s4.2), fun v _ => v = (vI (wr (s4.2 + 2))), fun v _ => v = (ptr pb1 (0 + ((wr (s4.2 + 2))).toNat * 1)), fun v _ => v = (vB x19), fun v _ => v = (Value.slice (some ⟨pb1, 0, none⟩) 16 16), fun v _ => v = (vI s4.2), fun v _ => v = (vI (wr (s4.2 + 3))), fun v _ => v = (ptr pb1 (0 + ((wr (s4.2 + 3))).toNat * 1)), fun v _ => v = (vB x22), fun v _ => v = (vB x13), fun v _ => v = (vB x16), fun v _ => v = (vB x19), fun v _ => v = (vB x22)] : List (Value → World → Prop)).getD j (fun _ _ => True)) (fun _ _ h hk => h.keep hk) (gup (gupE (gupE (gupE (gupE (gupE (gupE (gupE (gupE (gupE (gupE (gupE (gupE (gupE (gupE (gupE (gupE (gupE (gupE (gupE (gupE (gupE (gupE (gupE gupN)))))))))))))))))))))))) hE hM.drew (steps_of (steps_cons ?_ (steps_cons ?_ (steps_cons ?_ (steps_cons ?_ (steps_cons ?_ (steps_cons ?_ (steps_cons ?_ (steps_cons ?_ (steps_cons ?_ (steps_cons ?_ (steps_cons ?_ (steps_cons ?_ (steps_cons ?_ (steps_cons ?_ (steps_cons ?_ (steps_cons ?_ (steps_cons ?_ (steps_cons ?_ (steps_cons ?_ (steps_cons ?_ (steps_cons ?_ (steps_cons ?_ (steps_cons ?_ steps_nil)))))))))))))))))))))))) ?_
        · intro a w ux12 hE hM hp
          refine s_move hE goes_none (by decide) rfl ?_; intro a hE
          exact ⟨Kept.refl _ _, _, _, rfl, hE, rfl⟩
        · intro a w ux12 hE hM hp
          refine s_move hE goes_none (by decide) rfl ?_; intro a hE
          exact ⟨Kept.refl _ _, _, _, rfl, hE, rfl⟩
        · intro a w ux12 hE hM hp
          have f0 : ux12 0 = (Value.slice (some ⟨pb1, 0, none⟩) 16 16) := hp 0 _ rfl rfl
          have f1 : ux12 1 = (vI s4.2) := hp 1 _ rfl rfl
          refine s_indexFull hE goes_none (by decide) (lk rfl f0) (lk rfl f1) Try.underlying24 ty5 hi15.1 ?_; intro a hE
          exact ⟨Kept.refl _ _, _, _, rfl, hE, rfl⟩
        · intro a w ux12 hE hM hp
          have f2 : ux12 2 = (ptr pb1 (0 + (s4.2).toNat * 1)) := hp 0 _ rfl rfl
          refine s_load (v := (vB x13)) hE goes_none (by decide) (lk rfl f2) ty5 rfl (At.vec (hM.rawAt (pre := [])) hi15.2) ?_; intro a hE
          exact ⟨Kept.refl _ _, _, _, rfl, hE, rfl⟩
        · intro a w ux12 hE hM hp
          refine s_move hE goes_none (by decide) rfl ?_; intro a hE
          exact ⟨Kept.refl _ _, _, _, rfl, hE, rfl⟩
        · intro a w ux12 hE hM hp
          refine s_move hE goes_none (by decide) rfl ?_; intro a hE
          exact ⟨Kept.refl _ _, _, _, rfl, hE, rfl⟩
        · intro a w ux12 hE hM hp
          have f5 : ux12 5 = (vI s4.2) := hp 0 _ rfl rfl
          refine s_int hE goes_none (by decide) (lk rfl f5) rfl rfl ?_; intro a hE
          exact ⟨Kept.refl _ _, _, _, rfl, hE, rfl⟩
        · intro a w ux12 hE hM hp
          have f4 : ux12 4 = (Value.slice (some ⟨pb1, 0, none⟩) 16 16) := hp 0 _ rfl rfl
          have f6 : ux12 6 = (vI (wr (s4.2 + 1))) := hp 1 _ rfl rfl
          refine s_indexFull hE goes_none (by decide) (lk rfl f4) (lk rfl f6) Try.underlying24 ty5 hi18.1 ?_; intro a hE
          exact ⟨Kept.refl _ _, _, _, rfl, hE, rfl⟩
        · intro a w ux12 hE hM hp
          have f7 : ux12 7 = (ptr pb1 (0 + ((wr (s4.2 + 1))).toNat * 1)) := hp 0 _ rfl rfl
          refine s_load (v := (vB x16)) hE goes_none (by decide) (lk rfl f7) ty5 rfl (At.vec (hM.rawAt (pre := [])) hi18.2) ?_; intro a hE
          exact ⟨Kept.refl _ _, _, _, rfl, hE, rfl⟩
        · intro a w ux12 hE hM hp
          refine s_move hE goes_none (by decide) rfl ?_; intro a hE
          exact ⟨Kept.refl _ _, _, _, rfl, hE, rfl⟩
        · intro a w ux12 hE hM hp
          refine s_move hE goes_none (by decide) rfl ?_; intro a hE
          exact ⟨Kept.refl _ _, _, _, rfl, hE, rfl⟩
        · intro a w ux12 hE hM hp
          have f10 : ux12 10 = (vI s4.2) := hp 0 _ rfl rfl
          refine s_int hE goes_none (by decide) (lk rfl f10) rfl rfl ?_; intro a hE
          exact ⟨Kept.refl _ _, _, _, rfl, hE, rfl⟩
        · intro a w ux12 hE hM hp
          have f9 : ux12 9 = (Value.slice (some ⟨pb1, 0, none⟩) 16 16) := hp 0 _ rfl rfl
          have f11 : ux12 11 = (vI (wr (s4.2 + 2))) := hp 1 _ rfl rfl
          refine s_indexFull hE goes_none (by decide) (lk rfl f9) (lk rfl f11) Try.underlying24 ty5 hi21.1 ?_; intro a hE
          exact ⟨Kept.refl _ _, _, _, rfl, hE, rfl⟩
        · intro a w ux12 hE hM hp
          have f12 : ux12 12 = (ptr pb1 (0 + ((wr (s4.2 + 2))).toNat * 1)) := hp 0 _ rfl rfl
          refine s_load (v := (vB x19)) hE goes_none (by decide) (lk rfl f12) ty5 rfl (At.vec (hM.rawAt (pre := [])) hi21.2) ?_; intro a hE
          exact ⟨Kept.refl _ _, _, _, rfl, hE, rfl⟩
        · intro a w ux12 hE hM hp
          refine s_move hE goes_none (by decide) rfl ?_; intro a hE
          exact ⟨Kept.refl _ _, _, _, rfl, hE, rfl⟩
        · intro a w ux12 hE hM hp
          refine s_move hE goes_none (by decide) rfl ?_; intro a hE
          exact ⟨Kept.refl _ _, _, _, rfl, hE, rfl⟩
        · intro a w ux12 hE hM hp
          have f15 : ux12 15 = (vI s4.2) := hp 0 _ rfl rfl
          refine s_int hE goes_none (by decide) (lk rfl f15) rfl rfl ?_; intro a hE
          exact ⟨Kept.refl _ _, _, _, rfl, hE, rfl⟩
        · intro a w ux12 hE hM hp
          have f14 : ux12 14 = (Value.slice (some ⟨pb1, 0, none⟩) 16 16) := hp 0 _ rfl rfl
          have f16 : ux12 16 = (vI (wr (s4.2 + 3))) := hp 1 _ rfl rfl
          refine s_indexFull hE goes_none (by decide) (lk rfl f14) (lk rfl f16) Try.underlying24 ty5 hi24.1 ?_; intro a hE
          exact ⟨Kept.refl _ _, _, _, rfl, hE, rfl⟩
        · intro a w ux12 hE hM hp
          have f17 : ux12 17 = (ptr pb1 (0 + ((wr (s4.2 + 3))).toNat * 1)) := hp 0 _ rfl rfl
          refine s_load (v := (vB x22)) hE goes_none (by decide) (lk rfl f17) ty5 rfl (At.vec (hM.rawAt (pre := [])) hi24.2) ?_; intro a hE
          exact ⟨Kept.refl _ _, _, _, rfl, hE, rfl⟩
        · intro a w ux12 hE hM hp
          have f3 : ux12 3 = (vB x13) := hp 0 _ rfl rfl
          refine s_assign hE goes_none (by decide) (lk rfl f3) ?_; intro a hE
          exact ⟨Kept.refl _ _, _, _, rfl, hE, rfl⟩
        · intro a w ux12 hE hM hp
          have f8 : ux12 8 = (vB x16) := hp 0 _ rfl rfl
          refine s_assign hE goes_none (by decide) (lk rfl f8) ?_; intro a hE
          exact ⟨Kept.refl _ _, _, _, rfl, hE, rfl⟩
        · intro a w ux12 hE hM hp
          have f13 : ux12 13 = (vB x19) := hp 0 _ rfl rfl
          refine s_assign hE goes_none (by decide) (lk rfl f13) ?_; intro a hE
          exact ⟨Kept.refl _ _, _, _, rfl, hE, rfl⟩
        · intro a w ux12 hE hM hp
          have f18 : ux12 18 = (vB x22) := hp 0 _ rfl rfl
          refine s_assign hE goes_none (by decide) (lk rfl f18) ?_; intro a hE
          exact ⟨Kept.refl _ _, _, _, rfl, hE, rfl⟩
        · intro a w ux12 hE hM hg
          have f0 : ux12 0 = (Value.slice (some ⟨pb1, 0, none⟩) 16 16) := hg 0 (by decide)
          have f1 : ux12 1 = (vI s4.2) := hg 1 (by decide)
          have f2 : ux12 2 = (ptr pb1 (0 + (s4.2).toNat * 1)) := hg 2 (by decide)
          have f3 : ux12 3 = (vB x13) := hg 3 (by decide)
          have f4 : ux12 4 = (Value.slice (some ⟨pb1, 0, none⟩) 16 16) := hg 4 (by decide)
          have f5 : ux12 5 = (vI s4.2) := hg 5 (by decide)
          have f6 : ux12 6 = (vI (wr (s4.2 + 1))) := hg 6 (by decide)
          have f7 : ux12 7 = (ptr pb1 (0 + ((wr (s4.2 + 1))).toNat * 1)) := hg 7 (by decide)
          have f8 : ux12 8 = (vB x16) := hg 8 (by decide)
          have f9 : ux12 9 = (Value.slice (some ⟨pb1, 0, none⟩) 16 16) := hg 9 (by decide)
          have f10 : ux12 10 = (vI s4.2) := hg 10 (by decide)
          have f11 : ux12 11 = (vI (wr (s4.2 + 2))) := hg 11 (by decide)
          have f12 : ux12 12 = (ptr pb1 (0 + ((wr (s4.2 + 2))).toNat * 1)) := hg 12 (by decide)
          have f13 : ux12 13 = (vB x19) := hg 13 (by decide)
          have f14 : ux12 14 = (Value.slice (some ⟨pb1, 0, none⟩) 16 16) := hg 14 (by decide)
          have f15 : ux12 15 = (vI s4.2) := hg 15 (by decide)
          have f16 : ux12 16 = (vI (wr (s4.2 + 3))) := hg 16 (by decide)
          have f17 : ux12 17 = (ptr pb1 (0 + ((wr (s4.2 + 3))).toNat * 1)) := hg 17 (by decide)
          have f18 : ux12 18 = (vB x22) := hg 18 (by decide)
          have f19 : ux12 19 = (vB x13) := hg 19 (by decide)
          have f20 : ux12 20 = (vB x16) := hg 20 (by decide)
          have f21 : ux12 21 = (vB x19) := hg 21 (by decide)
          have f22 : ux12 22 = (vB x22) := hg 22 (by decide)
          have hE := hE.sub (e' := [(16, (Value.slice (some ⟨pb1, 0, none⟩) 16 16)), (17, (vI s4.2)), (18, (ptr pb1 (0 + (s4.2).toNat * 1))), (19, (vB x13)), (20, (Value.slice (some ⟨pb1, 0, none⟩) 16 16)), (21, (vI s4.2)), (22, (vI (wr (s4.2 + 1)))), (23, (ptr pb1 (0 + ((wr (s4.2 + 1))).toNat * 1))), (24, (vB x16)), (25, (Value.slice (some ⟨pb1, 0, none⟩) 16 16)), (26, (vI s4.2)), (27, (vI (wr (s4.2 + 2)))), (28, (ptr pb1 (0 + ((wr (s4.2 + 2))).toNat * 1))), (29, (vB x19)), (30, (Value.slice (some ⟨pb1, 0, none⟩) 16 16)), (31, (vI s4.2)), (32, (vI (wr (s4.2 + 3)))), (33, (ptr pb1 (0 + ((wr (s4.2 + 3))).toNat * 1))), (34, (vB x22)), (5, (vB x13)), (6, (vB x16)), (7, (vB x19)), (8, (vB x22)), (0, v0_1), (1, (Value.slice (some ⟨pb1, 0, none⟩) 16 16)), (4, (vI s4.2)), (10, (vI s4.2)), (11, (Value.slice (some ⟨pb1, 0, none⟩) 16 16)), (12, (vI (s4.1.toList.length : Int))), (13, (vT (decide (s4.2 < (s4.1.toList.length : Int)))))]) ⟨lk rfl f0, lk rfl f1, lk rfl f2, lk rfl f3, lk rfl f4, lk rfl f5, lk rfl f6, lk rfl f7, lk rfl f8, lk rfl f9, lk rfl f10, lk rfl f11, lk rfl f12, lk rfl f13, lk rfl f14, lk rfl f15, lk rfl f16, lk rfl f17, lk rfl f18, lk rfl f19, lk rfl f20, lk rfl f21, lk rfl f22, rfl, rfl, rfl, rfl, rfl, rfl, rfl, trivial⟩
          refine c_fin0 ?_
          have ht25 := Option.some.inj hl10
          subst ht25
          refine c_mid ?_
          exact ⟨hE.sub ⟨rfl, rfl, rfl, rfl, rfl, rfl, rfl, trivial⟩, hM⟩
      · skip
        rintro a w ⟨hE, hM⟩
        refine c_region ?_
        refine s_move hE goes_none (by decide) rfl ?_; intro a hE
        refine c_fin ?_
        obtain ⟨j26, hl27, hF28⟩ := bind_some hF11
        refine c_cut (fun a w => Env 79 a [(0, v0_1), (1, (Value.slice (some ⟨pb1, 0, none⟩) 16 16)), (4, (vI s4.2))] ∧ M St W w (raw pb1 (Flat.enc j26) :: its)) ?_ ?_
        · skip
          refine wp_block ?_
          refine c_loop (fun (s29 : (Vector UInt8 16) × Int) a w => Env 79 a [(0, v0_1), (1, (Value.slice (some ⟨pb1, 0, none⟩) 16 16)), (4, (vI s4.2)), (5, (vB j9.1)), (6, (vB j9.2.1)), (7, (vB j9.2.2.1)), (8, (vB j9.2.2.2)), (35, (vI s29.2))] ∧ M St W w (raw pb1 (Flat.enc s29.1) :: its)) hl27 ⟨hE.sub ⟨rfl, rfl, rfl, rfl, rfl, rfl, rfl, rfl, trivial⟩, hM⟩ ?_
          rintro s29 a w ⟨hE, hM⟩ o32 hs30 hx31
          unfold L1_impl_mixer_mix at hs30
          refine c_region ?_
          refine s_int hE goes_none (by decide) rfl rfl rfl ?_; intro a hE
          refine c_fin ?_
          refine wp_seq ?_
          refine c_cond hE rfl ?_ ?_
          · intro hb33
            have hs30 := ite_t hs30 hb33
            refine wp_skip ?_
            refine c_nx ?_
            refine wp_seq ?_
            refine wp_block ?_
            refine c_region ?_
            refine s_move hE goes_none (by decide) rfl ?_; intro a hE
            refine s_assign hE goes_none (by decide) rfl ?_; intro a hE
            refine c_fin ?_
            obtain ⟨pb35, ds36, hv37, hx38, hA39, hB40⟩ := ref_open hv0_1 -- ^
            obtain ⟨rfl, _⟩ := sat_flat.1 hx38 -- ^
            obtain ⟨x42, e43, hs30⟩ := bind_some hs30
            have hi41 := vidx_some e43
            obtain ⟨x45, e46, hs30⟩ := bind_some hs30
            have hi44 := vidx_some e46
            obtain ⟨x48, e49, hs30⟩ := bind_some hs30
            have hi47 := vidx_some e49
            obtain ⟨pb50, ds51, hv52, hx53, hA54, hB55⟩ := ref_open hv0_1 -- ^
            obtain ⟨rfl, _⟩ := sat_flat.1 hx53 -- ^
            obtain ⟨x57, e58, hs30⟩ := bind_some hs30
            have hi56 := vidx_some e58
            obtain ⟨x60, e61, hs30⟩ := bind_some hs30
            have hi59 := vidx_some e61
            obtain ⟨x63, e64, hs30⟩ := bind_some hs30
            have hi62 := vidx_some e64
            obtain ⟨pb65, ds66, hv67, hx68, hA69, hB70⟩ := ref_open hv0_1 -- ^
            obtain ⟨rfl, _⟩ := sat_flat.1 hx68 -- ^
            obtain ⟨x72, e73, hs30⟩ := bind_some hs30
            have hi71 := vidx_some e73
            obtain ⟨x75, e76, hs30⟩ := bind_some hs30
            have hi74 := vidx_some e76
            obtain ⟨x78, e79, hs30⟩ := bind_some hs30
            have hi77 := vidx_some e79
            obtain ⟨pb80, ds81, hv82, hx83, hA84, hB85⟩ := ref_open hv0_1 -- ^
            obtain ⟨rfl, _⟩ := sat_flat.1 hx83 -- ^
            obtain ⟨x87, e88, hs30⟩ := bind_some hs30
            have hi86 := vidx_some e88
            obtain ⟨x90, e91, hs30⟩ := bind_some hs30
            have hi89 := vidx_some e91
            obtain ⟨x93, e94, hs30⟩ := bind_some hs30
            have hi92 := vidx_some e94
            obtain ⟨x95, e96, hs30⟩ := bind_some hs30
            have hi97 := vidx_some e96
            refine c_draw (n := 79) (hd := [_, _, _, _, _, _, _, _, _, _, _, _, _, _, _, _, _, _, _, _, _, _, _, _, _, _, _, _, _, _, _, _, _, _, _, _, _, _, _, _]) (tl := [_]) hmix rfl rfl [38, 39, 40, 41, 42, 43, 44, 45, 46, 47, 48, 49, 50, 51, 52, 53, 54, 55, 56, 57, 58, 59, 60, 61, 62, 63, 64, 65, 66, 67, 68, 69, 70, 71, 72, 73, 74, 75, 76, 77] (by decide) (fun w => M St W w (raw pb1 (Flat.enc s29.1) :: its)) (fun j => ([fun v _ => v = (Value.slice (some ⟨pb1, 0, none⟩) 16 16), fun v _ => v = (vI s4.2), fun v _ => v = (vI s29.2), fun v _ => v = (vI (wr (s4.2 + s29.2))), fun v _ => v = v0_1, fun v _ => v = (vI s29.2), fun v _ => v = (vB j9.1), fun v _ => v = (ptr pb35 0), fun v _ => v = (ptr pb35 (0 + (s29.2).toNat * 1024)), fun v _ => v = (ptr pb35 (0 + (s29.2).toNat * 1024 + ((0 : Int)).toNat * 256)), fun v _ => v = (ptr pb35 (0 + (s29.2).toNat * 1024 + ((0 : Int)).toNat * 256 + ((bI j9.1)).toNat * 1)), fun v _ => v = (vB x48), fun v _ => v = v0_1, fun v _ => v = (vI s29.2), fun v _ => v = (vB j9.2.1), fun v _ => v = (ptr pb50 0), fun v _ => v = (ptr pb50 (0 + (s29.2).toNat * 1024)), fun v _ => v = (ptr pb50 (0 + (s29.2).toNat * 1024 + ((1 : Int)).toNat * 256)), fun v _ => v = (ptr pb50 (0 + (s29.2).toNat * 1024 + ((1 : Int)).toNat * 256 + ((bI j9.2.1)).toNat * 1)), fun v _ => v = (vB x63), fun v _ => v = (vB (x48 ^^^ x63)), fun v _ => v = v0_1, fun v _ => v = (vI s29.2), fun v _ => v = (vB j9.2.2.1), fun v _ => v = (ptr pb65 0), fun v _ => v = (ptr pb65 (0 + (s29.2).toNat * 1024)), fun v _ => v = (ptr pb65 (0 + (s29.2).toNat * 1024 + ((2 : Int)).toNat * 256)), fun v _ => v = (ptr pb65 (0 + (s29.2).toNat * 1024 + ((2 : Int)).toNat * 256 + ((bI j9.2.2.1)).toNat * 1)), fun v _ => v = (vB x78), fun v _ => v = (vB ((x48 ^^^ x63) ^^^ x78)), fun v _ => v = v0_1, fun v _ => v = (vI s29.2), fun v _ => v = (vB j9.2.2.2), fun v _ => v = (ptr pb80 0), fun v _ => v = (ptr pb80 (0 + (s29.2).toNat * 1024)), fun v _ => v = (ptr pb80 (0 + (s29.2).toNat * 1024 + ((3 : Int)).toNat * 256)), fun v _ => v = (ptr pb80 (0 + (s29.2).toNat * 1024 + ((3 : Int)).toNat * 256 + ((bI j9.2.2.2)).toNat * 1)), fun v _ => v = (vB x93), fun v _ => v = (vB (((x48 ^^^ x63) ^^^ x78) ^^^ x93)), fun v _ => v = (ptr pb1 (0 + ((wr (s4.2 + s29.2))).toNat * 1))] : List (Value → World → Prop)).getD j (fun _ _ => True)) (fun _ _ h hk => h.keep hk) (gup (gupE (gupE (gupE (gupE (gupE (gupE (gupE (gupE (gupE (gupE (gupE (gupE (gupE (gupE (gupE (gupE (gupE (gupE (gupE (gupE (gupE (gupE (gupE (gupE (gupE (gupE (gupE (gupE (gupE (gupE (gupE (gupE (gupE (gupE (gupE (gupE (gupE (gupE (gupE (gupE gupN))))))))))))))))))))))))))))))))))))))))) hE hM.drew (steps_of (steps_cons ?_ (steps_cons ?_ (steps_cons ?_ (steps_cons ?_ (steps_cons ?_ (steps_cons ?_ (steps_cons ?_ (steps_cons ?_ (steps_cons ?_ (steps_cons ?_ (steps_cons ?_ (steps_cons ?_ (steps_cons ?_ (steps_cons ?_ (steps_cons ?_ (steps_cons ?_ (steps_cons ?_ (steps_cons ?_ (steps_cons ?_ (steps_cons ?_ (steps_cons ?_ (steps_cons ?_ (steps_cons ?_ (steps_cons ?_ (steps_cons ?_ (steps_cons ?_ (steps_cons ?_ (steps_cons ?_ (steps_cons ?_ (steps_cons ?_ (steps_cons ?_ (steps_cons ?_ (steps_cons ?_ (steps_cons ?_ (steps_cons ?_ (steps_cons ?_ (steps_cons ?_ (steps_cons ?_ (steps_cons ?_ (steps_cons ?_ steps_nil))))))))))))))))))))))))))))))))))))))))) ?_
            · intro a w ux34 hE hM hp
              refine s_move hE goes_none (by decide) rfl ?_; intro a hE
              exact ⟨Kept.refl _ _, _, _, rfl, hE, rfl⟩
            · intro a w ux34 hE hM hp
              refine s_move hE goes_none (by decide) rfl ?_; intro a hE
              exact ⟨Kept.refl _ _, _, _, rfl, hE, rfl⟩
            · intro a w ux34 hE hM hp
              refine s_move hE goes_none (by decide) rfl ?_; intro a hE
              exact ⟨Kept.refl _ _, _, _, rfl, hE, rfl⟩
            · intro a w ux34 hE hM hp
              have f1 : ux34 1 = (vI s4.2) := hp 0 _ rfl rfl
              have f2 : ux34 2 = (vI s29.2) := hp 1 _ rfl rfl
              refine s_int hE goes_none (by decide) (lk rfl f1) (lk rfl f2) rfl ?_; intro a hE
              exact ⟨Kept.refl _ _, _, _, rfl, hE, rfl⟩
            · intro a w ux34 hE hM hp
              refine s_move hE goes_none (by decide) rfl ?_; intro a hE
              exact ⟨Kept.refl _ _, _, _, rfl, hE, rfl⟩
            · intro a w ux34 hE hM hp
              refine s_move hE goes_none (by decide) rfl ?_; intro a hE
              exact ⟨Kept.refl _ _, _, _, rfl, hE, rfl⟩
            · intro a w ux34 hE hM hp
              refine s_move hE goes_none (by decide) rfl ?_; intro a hE
              exact ⟨Kept.refl _ _, _, _, rfl, hE, rfl⟩
            · intro a w ux34 hE hM hp
              have f4 : ux34 4 = v0_1 := hp 0 _ rfl rfl
              refine s_nilCheck hE goes_none (by decide) (lk (lk rfl f4) hv37) ?_; intro a hE
              exact ⟨Kept.refl _ _, _, _, rfl, hE, rfl⟩
            · intro a w ux34 hE hM hp
              have f5 : ux34 5 = (vI s29.2) := hp 1 _ rfl rfl
              have f7 : ux34 7 = (ptr pb35 0) := hp 0 _ rfl rfl
              refine s_indexA hE goes_none (by decide) (lk rfl f7) (lk rfl f5) Try.underlying217 ty215 hi41.1 ?_; intro a hE
              exact ⟨Kept.refl _ _, _, _, rfl, hE, rfl⟩
            · intro a w ux34 hE hM hp
              have f8 : ux34 8 = (ptr pb35 (0 + (s29.2).toNat * 1024)) := hp 0 _ rfl rfl
              refine s_indexA hE goes_none (by decide) (lk rfl f8) rfl Try.underlying215 ty43 hi44.1 ?_; intro a hE
              exact ⟨Kept.refl _ _, _, _, rfl, hE, rfl⟩
            · intro a w ux34 hE hM hp
              have f6 : ux34 6 = (vB j9.1) := hp 1 _ rfl rfl
              have f9 : ux34 9 = (ptr pb35 (0 + (s29.2).toNat * 1024 + ((0 : Int)).toNat * 256)) := hp 0 _ rfl rfl
              refine s_indexA hE goes_none (by decide) (lk rfl f9) (lk rfl f6) Try.underlying43 ty5 hi47.1 ?_; intro a hE
              exact ⟨Kept.refl _ _, _, _, rfl, hE, rfl⟩
            · intro a w ux34 hE hM hp
              have f10 : ux34 10 = (ptr pb35 (0 + (s29.2).toNat * 1024 + ((0 : Int)).toNat * 256 + ((bI j9.1)).toNat * 1)) := hp 0 _ rfl rfl
              refine s_load (v := (vB x48)) hE goes_none (by decide) (lk rfl f10) ty5 rfl (At.vec (At.vec (At.vec (hM.atk hA39 hB40) hi41.2) hi44.2) hi47.2) ?_; intro a hE
              exact ⟨Kept.refl _ _, _, _, rfl, hE, rfl⟩
            · intro a w ux34 hE hM hp
              refine s_move hE goes_none (by decide) rfl ?_; intro a hE
              exact ⟨Kept.refl _ _, _, _, rfl, hE, rfl⟩
            · intro a w ux34 hE hM hp
              refine s_move hE goes_none (by decide) rfl ?_; intro a hE
              exact ⟨Kept.refl _ _, _, _, rfl, hE, rfl⟩
            · intro a w ux34 hE hM hp
              refine s_move hE goes_none (by decide) rfl ?_; intro a hE
              exact ⟨Kept.refl _ _, _, _, rfl, hE, rfl⟩
            · intro a w ux34 hE hM hp
              have f12 : ux34 12 = v0_1 := hp 0 _ rfl rfl
              refine s_nilCheck hE goes_none (by decide) (lk (lk rfl f12) hv52) ?_; intro a hE
              exact ⟨Kept.refl _ _, _, _, rfl, hE, rfl⟩
            · intro a w ux34 hE hM hp
              have f13 : ux34 13 = (vI s29.2) := hp 1 _ rfl rfl
              have f15 : ux34 15 = (ptr pb50 0) := hp 0 _ rfl rfl
              refine s_indexA hE goes_none (by decide) (lk rfl f15) (lk rfl f13) Try.underlying217 ty215 hi56.1 ?_; intro a hE
              exact ⟨Kept.refl _ _, _, _, rfl, hE, rfl⟩
            · intro a w ux34 hE hM hp
              have f16 : ux34 16 = (ptr pb50 (0 + (s29.2).toNat * 1024)) := hp 0 _ rfl rfl
              refine s_indexA hE goes_none (by decide) (lk rfl f16) rfl Try.underlying215 ty43 hi59.1 ?_; intro a hE
              exact ⟨Kept.refl _ _, _, _, rfl, hE, rfl⟩
            · intro a w ux34 hE hM hp
              have f14 : ux34 14 = (vB j9.2.1) := hp 1 _ rfl rfl
              have f17 : ux34 17 = (ptr pb50 (0 + (s29.2).toNat * 1024 + ((1 : Int)).toNat * 256)) := hp 0 _ rfl rfl
              refine s_indexA hE goes_none (by decide) (lk rfl f17) (lk rfl f14) Try.underlying43 ty5 hi62.1 ?_; intro a hE
              exact ⟨Kept.refl _ _, _, _, rfl, hE, rfl⟩
            · intro a w ux34 hE hM hp
              have f18 : ux34 18 = (ptr pb50 (0 + (s29.2).toNat * 1024 + ((1 : Int)).toNat * 256 + ((bI j9.2.1)).toNat * 1)) := hp 0 _ rfl rfl
              refine s_load (v := (vB x63)) hE goes_none (by decide) (lk rfl f18) ty5 rfl (At.vec (At.vec (At.vec (hM.atk hA54 hB55) hi56.2) hi59.2) hi62.2) ?_; intro a hE
              exact ⟨Kept.refl _ _, _, _, rfl, hE, rfl⟩
            · intro a w ux34 hE hM hp
              have f11 : ux34 11 = (vB x48) := hp 0 _ rfl rfl
              have f19 : ux34 19 = (vB x63) := hp 1 _ rfl rfl
              refine s_int hE goes_none (by decide) (lk rfl f11) (lk rfl f19) (bB_xor x48 x63) ?_; intro a hE
              exact ⟨Kept.refl _ _, _, _, rfl, hE, rfl⟩
            · intro a w ux34 hE hM hp
              refine s_move hE goes_none (by decide) rfl ?_; intro a hE
              exact ⟨Kept.refl _ _, _, _, rfl, hE, rfl⟩
            · intro a w ux34 hE hM hp
              refine s_move hE goes_none (by decide) rfl ?_; intro a hE
              exact ⟨Kept.refl _ _, _, _, rfl, hE, rfl⟩
            · intro a w ux34 hE hM hp
              refine s_move hE goes_none (by decide) rfl ?_; intro a hE
              exact ⟨Kept.refl _ _, _, _, rfl, hE, rfl⟩
            · intro a w ux34 hE hM hp
              have f21 : ux34 21 = v0_1 := hp 0 _ rfl rfl
              refine s_nilCheck hE goes_none (by decide) (lk (lk rfl f21) hv67) ?_; intro a hE
              exact ⟨Kept.refl _ _, _, _, rfl, hE, rfl⟩
            · intro a w ux34 hE hM hp
              have f22 : ux34 22 = (vI s29.2) := hp 1 _ rfl rfl
              have f24 : ux34 24 = (ptr pb65 0) := hp 0 _ rfl rfl
              refine s_indexA hE goes_none (by decide) (lk rfl f24) (lk rfl f22) Try.underlying217 ty215 hi71.1 ?_; intro a hE
              exact ⟨Kept.refl _ _, _, _, rfl, hE, rfl⟩
            · intro a w ux34 hE hM hp
              have f25 : ux34 25 = (ptr pb65 (0 + (s29.2).toNat * 1024)) := hp 0 _ rfl rfl
              refine s_indexA hE goes_none (by decide) (lk rfl f25) rfl Try.underlying215 ty43 hi74.1 ?_; intro a hE
              exact ⟨Kept.refl _ _, _, _, rfl, hE, rfl⟩
            · intro a w ux34 hE hM hp
              have f23 : ux34 23 = (vB j9.2.2.1) := hp 1 _ rfl rfl
              have f26 : ux34 26 = (ptr pb65 (0 + (s29.2).toNat * 1024 + ((2 : Int)).toNat * 256)) := hp 0 _ rfl rfl
              refine s_indexA hE goes_none (by decide) (lk rfl f26) (lk rfl f23) Try.underlying43 ty5 hi77.1 ?_; intro a hE
              exact ⟨Kept.refl _ _, _, _, rfl, hE, rfl⟩
            · intro a w ux34 hE hM hp
              have f27 : ux34 27 = (ptr pb65 (0 + (s29.2).toNat * 1024 + ((2 : Int)).toNat * 256 + ((bI j9.2.2.1)).toNat * 1)) := hp 0 _ rfl rfl
              refine s_load (v := (vB x78)) hE goes_none (by decide) (lk rfl f27) ty5 rfl (At.vec (At.vec (At.vec (hM.atk hA69 hB70) hi71.2) hi74.2) hi77.2) ?_; intro a hE
              exact ⟨Kept.refl _ _, _, _, rfl, hE, rfl⟩
            · intro a w ux34 hE hM hp
              have f20 : ux34 20 = (vB (x48 ^^^ x63)) := hp 0 _ rfl rfl
              have f28 : ux34 28 = (vB x78) := hp 1 _ rfl rfl
              refine s_int hE goes_none (by decide) (lk rfl f20) (lk rfl f28) (bB_xor (x48 ^^^ x63) x78) ?_; intro a hE
              exact ⟨Kept.refl _ _, _, _, rfl, hE, rfl⟩
            · intro a w ux34 hE hM hp
              refine s_move hE goes_none (by decide) rfl ?_; intro a hE
              exact ⟨Kept.refl _ _, _, _, rfl, hE, rfl⟩
            · intro a w ux34 hE hM hp
              refine s_move hE goes_none (by decide) rfl ?_; intro a hE
              exact ⟨Kept.refl _ _, _, _, rfl, hE, rfl⟩
            · intro a w ux34 hE hM hp
              refine s_move hE goes_none (by decide) rfl ?_; intro a hE
              exact ⟨Kept.refl _ _, _, _, rfl, hE, rfl⟩
            · intro a w ux34 hE hM hp
              have f30 : ux34 30 = v0_1 := hp 0 _ rfl rfl
              refine s_nilCheck hE goes_none (by decide) (lk (lk rfl f30) hv82) ?_; intro a hE
              exact ⟨Kept.refl _ _, _, _, rfl, hE, rfl⟩
            · intro a w ux34 hE hM hp
              have f31 : ux34 31 = (vI s29.2) := hp 1 _ rfl rfl
              have f33 : ux34 33 = (ptr pb80 0) := hp 0 _ rfl rfl
              refine s_indexA hE goes_none (by decide) (lk rfl f33) (lk rfl f31) Try.underlying217 ty215 hi86.1 ?_; intro a hE
              exact ⟨Kept.refl _ _, _, _, rfl, hE, rfl⟩
            · intro a w ux34 hE hM hp
              have f34 : ux34 34 = (ptr pb80 (0 + (s29.2).toNat * 1024)) := hp 0 _ rfl rfl
              refine s_indexA hE goes_none (by decide) (lk rfl f34) rfl Try.underlying215 ty43 hi89.1 ?_; intro a hE
              exact ⟨Kept.refl _ _, _, _, rfl, hE, rfl⟩
            · intro a w ux34 hE hM hp
              have f32 : ux34 32 = (vB j9.2.2.2) := hp 1 _ rfl rfl
              have f35 : ux34 35 = (ptr pb80 (0 + (s29.2).toNat * 1024 + ((3 : Int)).toNat * 256)) := hp 0 _ rfl rfl
              refine s_indexA hE goes_none (by decide) (lk rfl f35) (lk rfl f32) Try.underlying43 ty5 hi92.1 ?_; intro a hE
              exact ⟨Kept.refl _ _, _, _, rfl, hE, rfl⟩
            · intro a w ux34 hE hM hp
              have f36 : ux34 36 = (ptr pb80 (0 + (s29.2).toNat * 1024 + ((3 : Int)).toNat * 256 + ((bI j9.2.2.2)).toNat * 1)) := hp 0 _ rfl rfl
              refine s_load (v := (vB x93)) hE goes_none (by decide) (lk rfl f36) ty5 rfl (At.vec (At.vec (At.vec (hM.atk hA84 hB85) hi86.2) hi89.2) hi92.2) ?_; intro a hE
              exact ⟨Kept.refl _ _, _, _, rfl, hE, rfl⟩
            · intro a w ux34 hE hM hp
              have f29 : ux34 29 = (vB ((x48 ^^^ x63) ^^^ x78)) := hp 0 _ rfl rfl
              have f37 : ux34 37 = (vB x93) := hp 1 _ rfl rfl
              refine s_int hE goes_none (by decide) (lk rfl f29) (lk rfl f37) (bB_xor ((x48 ^^^ x63) ^^^ x78) x93) ?_; intro a hE
              exact ⟨Kept.refl _ _, _, _, rfl, hE, rfl⟩
            · intro a w ux34 hE hM hp
              have f0 : ux34 0 = (Value.slice (some ⟨pb1, 0, none⟩) 16 16) := hp 0 _ rfl rfl
              have f3 : ux34 3 = (vI (wr (s4.2 + s29.2))) := hp 1 _ rfl rfl
              refine s_indexFull hE goes_none (by decide) (lk rfl f0) (lk rfl f3) Try.underlying24 ty5 hi97.1 ?_; intro a hE
              exact ⟨Kept.refl _ _, _, _, rfl, hE, rfl⟩
            · intro a w ux34 hE hM hg
              have f0 : ux34 0 = (Value.slice (some ⟨pb1, 0, none⟩) 16 16) := hg 0 (by decide)
              have f1 : ux34 1 = (vI s4.2) := hg 1 (by decide)
              have f2 : ux34 2 = (vI s29.2) := hg 2 (by decide)
              have f3 : ux34 3 = (vI (wr (s4.2 + s29.2))) := hg 3 (by decide)
              have f4 : ux34 4 = v0_1 := hg 4 (by decide)
              have f5 : ux34 5 = (vI s29.2) := hg 5 (by decide)
              have f6 : ux34 6 = (vB j9.1) := hg 6 (by decide)
              have f7 : ux34 7 = (ptr pb35 0) := hg 7 (by decide)
              have f8 : ux34 8 = (ptr pb35 (0 + (s29.2).toNat * 1024)) := hg 8 (by decide)
              have f9 : ux34 9 = (ptr pb35 (0 + (s29.2).toNat * 1024 + ((0 : Int)).toNat * 256)) := hg 9 (by decide)
              have f10 : ux34 10 = (ptr pb35 (0 + (s29.2).toNat * 1024 + ((0 : Int)).toNat * 256 + ((bI j9.1)).toNat * 1)) := hg 10 (by decide)
              have f11 : ux34 11 = (vB x48) := hg 11 (by decide)
              have f12 : ux34 12 = v0_1 := hg 12 (by decide)
              have f13 : ux34 13 = (vI s29.2) := hg 13 (by decide)
              have f14 : ux34 14 = (vB j9.2.1) := hg 14 (by decide)
              have f15 : ux34 15 = (ptr pb50 0) := hg 15 (by decide)
              have f16 : ux34 16 = (ptr pb50 (0 + (s29.2).toNat * 1024)) := hg 16 (by decide)
              have f17 : ux34 17 = (ptr pb50 (0 + (s29.2).toNat * 1024 + ((1 : Int)).toNat * 256)) := hg 17 (by decide)
              have f18 : ux34 18 = (ptr pb50 (0 + (s29.2).toNat * 1024 + ((1 : Int)).toNat * 256 + ((bI j9.2.1)).toNat * 1)) := hg 18 (by decide)
              have f19 : ux34 19 = (vB x63) := hg 19 (by decide)
              have f20 : ux34 20 = (vB (x48 ^^^ x63)) := hg 20 (by decide)
              have f21 : ux34 21 = v0_1 := hg 21 (by decide)
              have f22 : ux34 22 = (vI s29.2) := hg 22 (by decide)
              have f23 : ux34 23 = (vB j9.2.2.1) := hg 23 (by decide)
              have f24 : ux34 24 = (ptr pb65 0) := hg 24 (by decide)
              have f25 : ux34 25 = (ptr pb65 (0 + (s29.2).toNat * 1024)) := hg 25 (by decide)
              have f26 : ux34 26 = (ptr pb65 (0 + (s29.2).toNat * 1024 + ((2 : Int)).toNat * 256)) := hg 26 (by decide)
              have f27 : ux34 27 = (ptr pb65 (0 + (s29.2).toNat * 1024 + ((2 : Int)).toNat * 256 + ((bI j9.2.2.1)).toNat * 1)) := hg 27 (by decide)
              have f28 : ux34 28 = (vB x78) := hg 28 (by decide)
              have f29 : ux34 29 = (vB ((x48 ^^^ x63) ^^^ x78)) := hg 29 (by decide)
              have f30 : ux34 30 = v0_1 := hg 30 (by decide)
              have f31 : ux34 31 = (vI s29.2) := hg 31 (by decide)
              have f32 : ux34 32 = (vB j9.2.2.2) := hg 32 (by decide)
              have f33 : ux34 33 = (ptr pb80 0) := hg 33 (by decide)
              have f34 : ux34 34 = (ptr pb80 (0 + (s29.2).toNat * 1024)) := hg 34 (by decide)
              have f35 : ux34 35 = (ptr pb80 (0 + (s29.2).toNat * 1024 + ((3 : Int)).toNat * 256)) := hg 35 (by decide)
              have f36 : ux34 36 = (ptr pb80 (0 + (s29.2).toNat * 1024 + ((3 : Int)).toNat * 256 + ((bI j9.2.2.2)).toNat * 1)) := hg 36 (by decide)
              have f37 : ux34 37 = (vB x93) := hg 37 (by decide)
              have f38 : ux34 38 = (vB (((x48 ^^^ x63) ^^^ x78) ^^^ x93)) := hg 38 (by decide)
              have f39 : ux34 39 = (ptr pb1 (0 + ((wr (s4.2 + s29.2))).toNat * 1)) := hg 39 (by decide)
              have hE := hE.sub (e' := [(38, (Value.slice (some ⟨pb1, 0, none⟩) 16 16)), (39, (vI s4.2)), (40, (vI s29.2)), (41, (vI (wr (s4.2 + s29.2)))), (42, v0_1), (43, (vI s29.2)), (44, (vB j9.1)), (45, (ptr pb35 0)), (46, (ptr pb35 (0 + (s29.2).toNat * 1024))), (47, (ptr pb35 (0 + (s29.2).toNat * 1024 + ((0 : Int)).toNat * 256))), (48, (ptr pb35 (0 + (s29.2).toNat * 1024 + ((0 : Int)).toNat * 256 + ((bI j9.1)).toNat * 1))), (49, (vB x48)), (50, v0_1), (51, (vI s29.2)), (52, (vB j9.2.1)), (53, (ptr pb50 0)), (54, (ptr pb50 (0 + (s29.2).toNat * 1024))), (55, (ptr pb50 (0 + (s29.2).toNat * 1024 + ((1 : Int)).toNat * 256))), (56, (ptr pb50 (0 + (s29.2).toNat * 1024 + ((1 : Int)).toNat * 256 + ((bI j9.2.1)).toNat * 1))), (57, (vB x63)), (58, (vB (x48 ^^^ x63))), (59, v0_1), (60, (vI s29.2)), (61, (vB j9.2.2.1)), (62, (ptr pb65 0)), (63, (ptr pb65 (0 + (s29.2).toNat * 1024))), (64, (ptr pb65 (0 + (s29.2).toNat * 1024 + ((2 : Int)).toNat * 256))), (65, (ptr pb65 (0 + (s29.2).toNat * 1024 + ((2 : Int)).toNat * 256 + ((bI j9.2.2.1)).toNat * 1))), (66, (vB x78)), (67, (vB ((x48 ^^^ x63) ^^^ x78))), (68, v0_1), (69, (vI s29.2)), (70, (vB j9.2.2.2)), (71, (ptr pb80 0)), (72, (ptr pb80 (0 + (s29.2).toNat * 1024))), (73, (ptr pb80 (0 + (s29.2).toNat * 1024 + ((3 : Int)).toNat * 256))), (74, (ptr pb80 (0 + (s29.2).toNat * 1024 + ((3 : Int)).toNat * 256 + ((bI j9.2.2.2)).toNat * 1))), (75, (vB x93)), (76, (vB (((x48 ^^^ x63) ^^^ x78) ^^^ x93))), (77, (ptr pb1 (0 + ((wr (s4.2 + s29.2))).toNat * 1))), (0, v0_1), (1, (Value.slice (some ⟨pb1, 0, none⟩) 16 16)), (4, (vI s4.2)), (5, (vB j9.1)), (6, (vB j9.2.1)), (7, (vB j9.2.2.1)), (8, (vB j9.2.2.2)), (9, (vI s29.2)), (35, (vI s29.2)), (36, (vT (decide (s29.2 < 4)))), (37, (vI s29.2))]) ⟨lk rfl f0, lk rfl f1, lk rfl f2, lk rfl f3, lk rfl f4, lk rfl f5, lk rfl f6, lk rfl f7, lk rfl f8, lk rfl f9, lk rfl f10, lk rfl f11, lk rfl f12, lk rfl f13, lk rfl f14, lk rfl f15, lk rfl f16, lk rfl f17, lk rfl f18, lk rfl f19, lk rfl f20, lk rfl f21, lk rfl f22, lk rfl f23, lk rfl f24, lk rfl f25, lk rfl f26, lk rfl f27, lk rfl f28, lk rfl f29, lk rfl f30, lk rfl f31, lk rfl f32, lk rfl f33, lk rfl f34, lk rfl f35, lk rfl f36, lk rfl f37, lk rfl f38, lk rfl f39, rfl, rfl, rfl, rfl, rfl, rfl, rfl, rfl, rfl, rfl, rfl, trivial⟩
              refine s_store (seg := [(vB (((x48 ^^^ x63) ^^^ x78) ^^^ x93))]) (cs' := Flat.enc (s29.1.setIfInBounds ((wr (s4.2 + s29.2))).toNat (((x48 ^^^ x63) ^^^ x78) ^^^ x93))) hE hM goes_none rfl rfl rfl ty5 rfl (fit_vec (v := s29.1) (x := ((x48 ^^^ x63) ^^^ x78) ^^^ x93) hi97.1) (Flat.cell (((x48 ^^^ x63) ^^^ x78) ^^^ x93 : UInt8)) (splice_vec0 (v := s29.1) (x := ((x48 ^^^ x63) ^^^ x78) ^^^ x93) hi97.1) ?_; intro w a hM hE
              refine c_fin0 ?_
              refine c_nb ?_
              refine c_nx ?_
              refine wp_region_lit ?_
              refine s_int hE goes_none (by decide) rfl rfl rfl ?_; intro a hE
              refine s_move hE goes_none (by decide) rfl ?_; intro a hE
              refine c_fin0 ?_
              refine c_mid ?_
              exact ⟨_, (Option.some.inj hs30).symm, hE.sub ⟨rfl, rfl, rfl, rfl, rfl, rfl, rfl, rfl, trivial⟩, hM⟩
          · intro hb33
            have hs30 := ite_f hs30 hb33
            refine wp_exit (e_then (e_then (e_eq ?_)))
            have ht98 := hx31 _ (Option.some.inj hs30).symm
            subst ht98
            refine c_mid ?_
            exact ⟨hE.sub ⟨rfl, rfl, rfl, trivial⟩, hM⟩
        · skip
          rintro a w ⟨hE, hM⟩
          refine c_nb ?_
          refine c_nx ?_
          refine wp_region_lit ?_
          refine s_move hE goes_none (by decide) rfl ?_; intro a hE
          refine s_int hE goes_none (by decide) rfl rfl rfl ?_; intro a hE
          refine s_assign hE goes_none (by decide) rfl ?_; intro a hE
          refine c_fin0 ?_
          refine c_mid ?_
          exact ⟨_, (Option.some.inj hF28).symm, hE.sub ⟨rfl, rfl, rfl, trivial⟩, hM⟩
    · intro hb8
      have hs5 := ite_f hs5 hb8
      refine wp_exit (e_then (e_then (e_eq ?_)))
      have ht99 := hx6 _ (Option.some.inj hs5).symm
      subst ht99
      refine c_mid ?_
      exact ⟨hE.sub ⟨rfl, trivial⟩, hM⟩
  · skip
    rintro a w ⟨hE, hM⟩
    have hr := Option.some.inj hF3
    subst hr
    exact k_ret0n hE (by rfl) ⟨_, rfl, rfl, hM⟩
noncomputable def L1_impl_engine_encipherWith (p0 : (Ref Gengine)) (s18 : (Vector UInt8 16) × Int) (s29 : (Vector UInt8 16) × Int) : Option (Fl ((Vector UInt8 16) × Int) (Vector UInt8 16)) :=
  if (decide (s29.2 < 16)) = true then ((vidx s18.1 s29.2).bind fun (x34 : UInt8) => (vidx p0.v.box (bI x34)).bind fun (x48 : UInt8) => (vidx s29.1 s29.2).bind fun (x51 : UInt8) => some (Fl.nx ((s29.1.setIfInBounds (s29.2).toNat x48), wr (s29.2 + 1)))) else (some (Fl.ex s29.1))
noncomputable def L0_impl_engine_encipherWith (p0 : (Ref Gengine)) (p1 : (List (Vector UInt8 16))) (s18 : (Vector UInt8 16) × Int) : Option (Fl ((Vector UInt8 16) × Int) (Vector UInt8 16)) :=
  if (decide (s18.2 < (p1.length : Int))) = true then (((iter (L1_impl_engine_encipherWith p0 s18) (s18.1, 0) : Option ((Vector UInt8 16))).bind fun (j26 : (Vector UInt8 16)) => ((F_impl_Places_move p0.v.places j26).bind fun (r68 : (Vector UInt8 16)) => some r68 : Option ((Vector UInt8 16))).bind fun (j54 : (Vector UInt8 16)) => (if (decide (s18.2 < (wr ((p1.length : Int) - 1)))) = true then ((slc j54.toList (0 : Int) (16 : Int)).bind fun (l86 : (List UInt8)) => (F_impl_mixer_mix p0.v.mixer j54).bind fun (r89 : (Vector UInt8 16)) => some r89) else (some j54) : Option ((Vector UInt8 16))).bind fun (j71 : (Vector UInt8 16)) => (idx p1 s18.2).bind fun (x94 : (Vector UInt8 16)) => (F_impl_XorBlocks j71 x94).bind fun (r97 : (Vector UInt8 16)) => some r97 : Option ((Vector UInt8 16))).bind fun (j23 : (Vector UInt8 16)) => some (Fl.nx (j23, wr (s18.2 + 1)))) else (some (Fl.ex s18.1))
noncomputable def F_impl_engine_encipherWith (p0 : (Ref Gengine)) (p1 : (List (Vector UInt8 16))) (p2 : (Vector UInt8 16)) : Option ((Vector UInt8 16)) :=
  ((idx p1 (0 : Int)).bind fun (x9 : (Vector UInt8 16)) => (F_impl_XorBlocks p2 x9).bind fun (r12 : (Vector UInt8 16)) => some r12 : Option ((Vector UInt8 16))).bind fun (j5 : (Vector UInt8 16)) => (iter (L0_impl_engine_encipherWith p0 p1) (j5, 1) : Option ((Vector UInt8 16))).bind fun (j15 : (Vector UInt8 16)) => some j15
set_option maxRecDepth 20000 in
set_option maxHeartbeats 400000 in
theorem c_impl_engine_encipherWith (w0 : World) (p0 : (Ref Gengine)) (v0_1 : Value) (hv0_1 : Ro w0 p0 [v0_1]) (p1 : (List (Vector UInt8 16))) (v1_1 : Value) (hv1_1 : Ro w0 p1 [v1_1]) (p2 : (Vector UInt8 16)) (r : (Vector UInt8 16)) (hF : F_impl_engine_encipherWith p0 p1 p2 = some r) :
    Calls Try.prog 160 [v0_1, v1_1, (Value.agg (Flat.enc p2).toArray)].toArray w0 (fun en w' => ∃ v, en = .returned v ∧ (v = (Value.agg (Flat.enc r).toArray) ∧ Kept (Old w0) w0 w')) := by
  refine c_enter (n := 59) Try.func160 rfl rfl (Nat.le_of_ble_eq_true rfl) rfl ?_
  intro a hE
  have hM := M.start w0
  unfold F_impl_engine_encipherWith at hF
  refine c_region ?_
  refine s_box (cs := Flat.enc p2) hE hM goes_none (by decide) rfl rfl ?_; intro b1 w a hM hE
  refine s_alloc hE hM goes_none (by decide) ty67 ?_; intro b3 w a hM hE
  refine c_fin ?_
  obtain ⟨j5, hl6, hF7⟩ := bind_some hF
  refine c_join (fun a w => Env 59 a [(0, v0_1), (1, v1_1), (5, (ptr b1 0)), (6, (ptr b3 0))] ∧ M (Old w0) w0 w [raw b3 (Flat.enc (Vector.replicate 16 (0 : UInt8))), raw b1 (Flat.enc j5)]) ?_ ?_
  · skip
    obtain ⟨x9, e10, hl6⟩ := bind_some hl6
    have hi11 := idx_some e10
    obtain ⟨r12, e13, hl6⟩ := bind_some hl6
    refine c_draw (n := 59) (hd := [_, _, _, _, _]) (tl := [_]) hmix rfl rfl [10, 11, 12, 13, 14] (by decide) (fun w => M (Old w0) w0 w [raw b3 (Flat.enc (Vector.replicate 16 (0 : UInt8))), raw b1 (Flat.enc p2)]) (fun j => ([fun v _ => v = (Value.agg (Flat.enc p2).toArray), fun v _ => v = v1_1, fun v _ => v = (ptr (sb v1_1) (so v1_1 + ((0 : Int)).toNat * 16)), fun v _ => v = (Value.agg (Flat.enc x9).toArray), fun v _ => v = (Value.agg (Flat.enc r12).toArray)] : List (Value → World → Prop)).getD j (fun _ _ => True)) (fun _ _ h hk => h.keep hk) (gup (gupE (gupE (gupE (gupE (gupE gupN)))))) hE hM.drew (steps_of (steps_cons ?_ (steps_cons ?_ (steps_cons ?_ (steps_cons ?_ (steps_cons ?_ steps_nil)))))) ?_
    · intro a w ux8 hE hM hp
      refine s_loadA (cs := Flat.enc p2) hE goes_none (by decide) rfl ty67 rfl (hM.rawAt (pre := [_])) (Flat.len _) ?_; intro a hE
      exact ⟨Kept.refl _ _, _, _, rfl, hE, rfl⟩
    · intro a w ux8 hE hM hp
      refine s_move hE goes_none (by decide) rfl ?_; intro a hE
      exact ⟨Kept.refl _ _, _, _, rfl, hE, rfl⟩
    · intro a w ux8 hE hM hp
      have f1 : ux8 1 = v1_1 := hp 0 _ rfl rfl
      refine s_indexS hE goes_none (by decide) (lk rfl f1) rfl Try.underlying60 ty67 (hM.rd hv1_1) hi11.1 ?_; intro a hE
      exact ⟨Kept.refl _ _, _, _, rfl, hE, rfl⟩
    · intro a w ux8 hE hM hp
      have f2 : ux8 2 = (ptr (sb v1_1) (so v1_1 + ((0 : Int)).toNat * 16)) := hp 0 _ rfl rfl
      refine s_loadA (cs := Flat.enc x9) hE goes_none (by decide) (lk rfl f2) ty67 rfl (sl_atF (hM.rd hv1_1) hi11.2) (Flat.len _) ?_; intro a hE
      exact ⟨Kept.refl _ _, _, _, rfl, hE, rfl⟩
    · intro a w ux8 hE hM hp
      have f0 : ux8 0 = (Value.agg (Flat.enc p2).toArray) := hp 0 _ rfl rfl
      have f3 : ux8 3 = (Value.agg (Flat.enc x9).toArray) := hp 1 _ rfl rfl
      refine s_call (vs := [(Value.agg (Flat.enc p2).toArray), (Value.agg (Flat.enc x9).toArray)]) hE goes_none (by decide) (evs_of (evsC (lk rfl f0) (evsC (lk rfl f3) evsN))) cb111 (c_impl_XorBlocks _ p2 x9 r12 e13) ?_
      rintro v w a ⟨rfl, hK⟩ hE
      exact ⟨hK, _, _, rfl, hE, rfl⟩
    · intro a w ux8 hE hM hg
      have f0 : ux8 0 = (Value.agg (Flat.enc p2).toArray) := hg 0 (by decide)
      have f1 : ux8 1 = v1_1 := hg 1 (by decide)
      have f2 : ux8 2 = (ptr (sb v1_1) (so v1_1 + ((0 : Int)).toNat * 16)) := hg 2 (by decide)
      have f3 : ux8 3 = (Value.agg (Flat.enc x9).toArray) := hg 3 (by decide)
      have f4 : ux8 4 = (Value.agg (Flat.enc r12).toArray) := hg 4 (by decide)
      have hE := hE.sub (e' := [(10, (Value.agg (Flat.enc p2).toArray)), (11, v1_1), (12, (ptr (sb v1_1) (so v1_1 + ((0 : Int)).toNat * 16))), (13, (Value.agg (Flat.enc x9).toArray)), (14, (Value.agg (Flat.enc r12).toArray)), (0, v0_1), (1, v1_1), (2, (Value.agg (Flat.enc p2).toArray)), (5, (ptr b1 0)), (6, (ptr b3 0))]) ⟨lk rfl f0, lk rfl f1, lk rfl f2, lk rfl f3, lk rfl f4, rfl, rfl, rfl, rfl, rfl, trivial⟩
      have hM := hM.pull (pre := [_])
      refine s_store (seg := Flat.enc r12) (cs' := Flat.enc r12) hE hM goes_none rfl rfl rfl ty67 (Flat.len _) (Nat.le_of_eq ((Nat.zero_add _).trans (Eq.trans (Flat.len _) (Eq.symm (Flat.len _))))) (Flat.cell _) (splice_all (Eq.trans (Flat.len _) (Eq.symm (Flat.len _)))) ?_; intro w a hM hE
      refine c_fin0 ?_
      have ht14 := Option.some.inj hl6
      subst ht14
      refine c_mid ?_
      have hM := hM.pull (pre := [_])
      exact ⟨hE.sub ⟨rfl, rfl, rfl, rfl, trivial⟩, hM⟩
  · skip
    rintro a w ⟨hE, hM⟩
    refine wp_seq ?_
    refine c_region ?_
    refine s_assign hE goes_none (by decide) rfl ?_; intro a hE
    refine c_fin ?_
    obtain ⟨j15, hl16, hF17⟩ := bind_some hF7
    refine c_cut (fun a w => Env 59 a [(5, (ptr b1 0)), (6, (ptr b3 0))] ∧ M (Old w0) w0 w [raw b3 (Flat.enc (Vector.replicate 16 (0 : UInt8))), raw b1 (Flat.enc j15)]) ?_ ?_
    · skip
      refine wp_block ?_
      refine c_loop (fun (s18 : (Vector UInt8 16) × Int) a w => Env 59 a [(0, v0_1), (1, v1_1), (5, (ptr b1 0)), (6, (ptr b3 0)), (7, (vI s18.2))] ∧ M (Old w0) w0 w [raw b3 (Flat.enc (Vector.replicate 16 (0 : UInt8))), raw b1 (Flat.enc s18.1)]) hl16 ⟨hE.sub ⟨rfl, rfl, rfl, rfl, rfl, trivial⟩, hM⟩ ?_
      rintro s18 a w ⟨hE, hM⟩ o21 hs19 hx20
      unfold L0_impl_engine_encipherWith at hs19
      refine wp_seq ?_
      refine c_region ?_
      refine s_move hE goes_none (by decide) rfl ?_; intro a hE
      refine s_move hE goes_none (by decide) rfl ?_; intro a hE
      refine s_len hE goes_none (by decide) rfl Try.underlying60 (hM.rd hv1_1) ?_; intro a hE
      refine s_int hE goes_none (by decide) rfl rfl rfl ?_; intro a hE
      refine c_fin ?_
      refine c_cond hE rfl ?_ ?_
      · intro hb22
        have hs19 := ite_t hs19 hb22
        refine wp_skip ?_
        refine c_nx ?_
        obtain ⟨j23, hl24, hF25⟩ := bind_some hs19
        refine c_join (fun a w => Env 59 a [(0, v0_1), (1, v1_1), (5, (ptr b1 0)), (6, (ptr b3 0)), (7, (vI s18.2))] ∧ M (Old w0) w0 w [raw b3 (Flat.enc (Vector.replicate 16 (0 : UInt8))), raw b1 (Flat.enc j23)]) ?_ ?_
        · skip
          refine wp_block ?_
          refine wp_seq ?_
          refine c_region ?_
          refine s_loadA (cs := Flat.enc s18.1) hE goes_none (by decide) rfl ty67 rfl (hM.rawAt (pre := [_])) (Flat.len _) ?_; intro a hE
          refine s_move hE goes_none (by decide) rfl ?_; intro a hE
          refine c_fin ?_
          obtain ⟨j26, hl27, hF28⟩ := bind_some hl24
          refine c_cut (fun a w => Env 59 a [(0, v0_1), (1, v1_1), (5, (ptr b1 0)), (6, (ptr b3 0)), (7, (vI s18.2))] ∧ M (Old w0) w0 w [raw b3 (Flat.enc (Vector.replicate 16 (0 : UInt8))), raw b1 (Flat.enc j26)]) ?_ ?_
          · skip
            refine wp_block ?_
            refine c_loop (fun (s29 : (Vector UInt8 16) × Int) a w => Env 59 a [(0, v0_1), (1, v1_1), (5, (ptr b1 0)), (6, (ptr b3 0)), (7, (vI s18.2)), (21, (Value.agg (Flat.enc s18.1).toArray)), (22, (vI s29.2))] ∧ M (Old w0) w0 w [raw b3 (Flat.enc (Vector.replicate 16 (0 : UInt8))), raw b1 (Flat.enc s29.1)]) hl27 ⟨hE.sub ⟨rfl, rfl, rfl, rfl, rfl, rfl, rfl, trivial⟩, hM⟩ ?_
            rintro s29 a w ⟨hE, hM⟩ o32 hs30 hx31
            unfold L1_impl_engine_encipherWith at hs30
            refine c_region ?_
            refine s_int hE goes_none (by decide) rfl rfl rfl ?_; intro a hE
            refine c_fin ?_
            refine wp_seq ?_
            refine c_cond hE rfl ?_ ?_
            · intro hb33
              have hs30 := ite_t hs30 hb33
              refine wp_skip ?_
              refine c_nx ?_
              refine wp_seq ?_
              refine wp_block ?_
              refine c_region ?_
              refine s_move hE goes_none (by decide) rfl ?_; intro a hE
              obtain ⟨x34, e35, hs30⟩ := bind_some hs30
              have hi36 := vidx_some e35
              refine s_indexV hE goes_none (by decide) rfl rfl Try.underlying67 ty5 rfl rfl hi36 rfl ?_; intro a hE
              refine s_assign hE goes_none (by decide) rfl ?_; intro a hE
              refine s_assign hE goes_none (by decide) rfl ?_; intro a hE
              refine c_fin ?_
              refine wp_region_lit ?_
              refine s_move hE goes_none (by decide) rfl ?_; intro a hE
              refine s_move hE goes_none (by decide) rfl ?_; intro a hE
              refine s_move hE goes_none (by decide) rfl ?_; intro a hE
              obtain ⟨pb37, ds38, hv39, hx40, hA41, hB42⟩ := ref_open hv0_1 -- ^
              obtain ⟨u43, u45, rfl, h44, h46⟩ := un_Gengine hx40 -- ^
              refine s_nilCheck hE goes_none (by decide) (lk rfl hv39) ?_; intro a hE
              refine s_fieldAddr hE goes_none (by decide) rfl (fd180_0) ?_; intro a hE
              obtain ⟨x48, e49, hs30⟩ := bind_some hs30
              have hi47 := vidx_some e49
              refine s_indexA hE goes_none (by decide) rfl rfl Try.underlying54 ty5 hi47.1 ?_; intro a hE
              refine s_load (v := (vB x48)) hE goes_none (by decide) rfl ty5 rfl (At.vec (At.cat (pre := []) (seg := Flat.enc p0.v.box) (post := [Flat.enc p0.v.backBox, Flat.enc p0.v.places, Flat.enc p0.v.backPlaces, [u43], [u45], [(vI p0.v.rounds)]]) (hM.atk hA41 hB42) cl0) hi47.2) ?_; intro a hE
              obtain ⟨x51, e52, hs30⟩ := bind_some hs30
              have hi50 := vidx_some e52
              refine s_indexA hE goes_none (by decide) rfl rfl Try.underlying67 ty5 hi50.1 ?_; intro a hE
              have hM := hM.pull (pre := [_])
              refine s_store (seg := [(vB x48)]) (cs' := Flat.enc (s29.1.setIfInBounds (s29.2).toNat x48)) hE hM goes_none rfl rfl rfl ty5 rfl (fit_vec (v := s29.1) (x := x48) hi50.1) (Flat.cell (x48 : UInt8)) (splice_vec0 (v := s29.1) (x := x48) hi50.1) ?_; intro w a hM hE
              refine c_fin0 ?_
              refine c_nb ?_
              refine c_nx ?_
              refine wp_region_lit ?_
              refine s_int hE goes_none (by decide) rfl rfl rfl ?_; intro a hE
              refine s_move hE goes_none (by decide) rfl ?_; intro a hE
              refine c_fin0 ?_
              refine c_mid ?_
              have hM := hM.pull (pre := [_])
              exact ⟨_, (Option.some.inj hs30).symm, hE.sub ⟨rfl, rfl, rfl, rfl, rfl, rfl, rfl, trivial⟩, hM⟩
            · intro hb33
              have hs30 := ite_f hs30 hb33
              refine wp_exit (e_then (e_then (e_eq ?_)))
              have ht53 := hx31 _ (Option.some.inj hs30).symm
              subst ht53
              refine c_mid ?_
              exact ⟨hE.sub ⟨rfl, rfl, rfl, rfl, rfl, trivial⟩, hM⟩
          · skip
            rintro a w ⟨hE, hM⟩
            refine c_nx ?_
            obtain ⟨j54, hl55, hF56⟩ := bind_some hF28
            refine c_join (fun a w => Env 59 a [(0, v0_1), (1, v1_1), (5, (ptr b1 0)), (6, (ptr b3 0)), (7, (vI s18.2))] ∧ M (Old w0) w0 w [raw b3 (Flat.enc (Vector.replicate 16 (0 : UInt8))), raw b1 (Flat.enc j54)]) ?_ ?_
            · skip
              obtain ⟨pb58, ds59, hv60, hx61, hA62, hB63⟩ := ref_open hv0_1 -- ^
              obtain ⟨u64, u66, rfl, h65, h67⟩ := un_Gengine hx61 -- ^
              obtain ⟨r68, e69, hl55⟩ := bind_some hl55
              refine c_draw (n := 59) (hd := [_, _, _, _, _, _]) (tl := [_]) hmix rfl rfl [35, 36, 37, 38, 39, 40] (by decide) (fun w => M (Old w0) w0 w [raw b3 (Flat.enc (Vector.replicate 16 (0 : UInt8))), raw b1 (Flat.enc j26)]) (fun j => ([fun v _ => v = v0_1, fun v _ => v = (ptr pb58 0), fun v _ => v = (ptr pb58 (0 + 512)), fun v _ => v = (Value.agg (Flat.enc p0.v.places).toArray), fun v _ => v = (Value.agg (Flat.enc j26).toArray), fun v _ => v = (Value.agg (Flat.enc r68).toArray)] : List (Value → World → Prop)).getD j (fun _ _ => True)) (fun _ _ h hk => h.keep hk) (gup (gupE (gupE (gupE (gupE (gupE (gupE gupN))))))) hE hM.drew (steps_of (steps_cons ?_ (steps_cons ?_ (steps_cons ?_ (steps_cons ?_ (steps_cons ?_ (steps_cons ?_ steps_nil))))))) ?_
              · intro a w ux57 hE hM hp
                refine s_move hE goes_none (by decide) rfl ?_; intro a hE
                exact ⟨Kept.refl _ _, _, _, rfl, hE, rfl⟩
              · intro a w ux57 hE hM hp
                have f0 : ux57 0 = v0_1 := hp 0 _ rfl rfl
                refine s_nilCheck hE goes_none (by decide) (lk (lk rfl f0) hv60) ?_; intro a hE
                exact ⟨Kept.refl _ _, _, _, rfl, hE, rfl⟩
              · intro a w ux57 hE hM hp
                have f1 : ux57 1 = (ptr pb58 0) := hp 0 _ rfl rfl
                refine s_fieldAddr hE goes_none (by decide) (lk rfl f1) (fd180_2) ?_; intro a hE
                exact ⟨Kept.refl _ _, _, _, rfl, hE, rfl⟩
              · intro a w ux57 hE hM hp
                have f2 : ux57 2 = (ptr pb58 (0 + 512)) := hp 0 _ rfl rfl
                refine s_loadA (cs := Flat.enc p0.v.places) hE goes_none (by decide) (lk rfl f2) ty56 rfl (At.cat (pre := [Flat.enc p0.v.box, Flat.enc p0.v.backBox]) (seg := Flat.enc p0.v.places) (post := [Flat.enc p0.v.backPlaces, [u64], [u66], [(vI p0.v.rounds)]]) (hM.atk hA62 hB63) (cl1 (n := 256) (m := 256) (Flat.len _) (cl1 (n := 256) (m := 0) (Flat.len _) cl0))) (Flat.len _) ?_; intro a hE
                exact ⟨Kept.refl _ _, _, _, rfl, hE, rfl⟩
              · intro a w ux57 hE hM hp
                refine s_loadA (cs := Flat.enc j26) hE goes_none (by decide) rfl ty67 rfl (hM.rawAt (pre := [_])) (Flat.len _) ?_; intro a hE
                exact ⟨Kept.refl _ _, _, _, rfl, hE, rfl⟩
              · intro a w ux57 hE hM hp
                have f3 : ux57 3 = (Value.agg (Flat.enc p0.v.places).toArray) := hp 0 _ rfl rfl
                have f4 : ux57 4 = (Value.agg (Flat.enc j26).toArray) := hp 1 _ rfl rfl
                refine s_call (vs := [(Value.agg (Flat.enc p0.v.places).toArray), (Value.agg (Flat.enc j26).toArray)]) hE goes_none (by decide) (evs_of (evsC (lk rfl f3) (evsC (lk rfl f4) evsN))) cb167 (c_impl_Places_move _ p0.v.places j26 r68 e69) ?_
                rintro v w a ⟨rfl, hK⟩ hE
                exact ⟨hK, _, _, rfl, hE, rfl⟩
              · intro a w ux57 hE hM hg
                have f0 : ux57 0 = v0_1 := hg 0 (by decide)
                have f1 : ux57 1 = (ptr pb58 0) := hg 1 (by decide)
                have f2 : ux57 2 = (ptr pb58 (0 + 512)) := hg 2 (by decide)
                have f3 : ux57 3 = (Value.agg (Flat.enc p0.v.places).toArray) := hg 3 (by decide)
                have f4 : ux57 4 = (Value.agg (Flat.enc j26).toArray) := hg 4 (by decide)
                have f5 : ux57 5 = (Value.agg (Flat.enc r68).toArray) := hg 5 (by decide)
                have hE := hE.sub (e' := [(35, v0_1), (36, (ptr pb58 0)), (37, (ptr pb58 (0 + 512))), (38, (Value.agg (Flat.enc p0.v.places).toArray)), (39, (Value.agg (Flat.enc j26).toArray)), (40, (Value.agg (Flat.enc r68).toArray)), (0, v0_1), (1, v1_1), (5, (ptr b1 0)), (6, (ptr b3 0)), (7, (vI s18.2))]) ⟨lk rfl f0, lk rfl f1, lk rfl f2, lk rfl f3, lk rfl f4, lk rfl f5, rfl, rfl, rfl, rfl, rfl, trivial⟩
                have hM := hM.pull (pre := [_])
                refine s_store (seg := Flat.enc r68) (cs' := Flat.enc r68) hE hM goes_none rfl rfl rfl ty67 (Flat.len _) (Nat.le_of_eq ((Nat.zero_add _).trans (Eq.trans (Flat.len _) (Eq.symm (Flat.len _))))) (Flat.cell _) (splice_all (Eq.trans (Flat.len _) (Eq.symm (Flat.len _)))) ?_; intro w a hM hE
                refine c_fin0 ?_
                have ht70 := Option.some.inj hl55
                subst ht70
                refine c_mid ?_
                have hM := hM.pull (pre := [_])
                exact ⟨hE.sub ⟨rfl, rfl, rfl, rfl, rfl, trivial⟩, hM⟩
            · skip
              rintro a w ⟨hE, hM⟩
              obtain ⟨j71, hl72, hF73⟩ := bind_some hF56
              refine c_join (fun a w => Env 59 a [(0, v0_1), (1, v1_1), (5, (ptr b1 0)), (6, (ptr b3 0)), (7, (vI s18.2))] ∧ M (Old w0) w0 w [raw b3 (Flat.enc (Vector.replicate 16 (0 : UInt8))), raw b1 (Flat.enc j71)]) ?_ ?_
              · skip
                refine c_region ?_
                refine s_move hE goes_none (by decide) rfl ?_; intro a hE
                refine s_move hE goes_none (by decide) rfl ?_; intro a hE
                refine s_len hE goes_none (by decide) rfl Try.underlying60 (hM.rd hv1_1) ?_; intro a hE
                refine s_int hE goes_none (by decide) rfl rfl rfl ?_; intro a hE
                refine s_int hE goes_none (by decide) rfl rfl rfl ?_; intro a hE
                refine c_fin ?_
                refine c_cond hE rfl ?_ ?_
                · intro hb74
                  have hl72 := ite_t hl72 hb74
                  obtain ⟨pb76, ds77, hv78, hx79, hA80, hB81⟩ := ref_open hv0_1 -- ^
                  obtain ⟨u82, u84, rfl, h83, h85⟩ := un_Gengine hx79 -- ^
                  obtain ⟨l86, e87, hl72⟩ := bind_some hl72
                  have hb88 := slc_arr e87 -- ^
                  refine c_draw (n := 59) (hd := [_, _, _, _, _]) (tl := [_]) hmix rfl rfl [46, 47, 48, 49, 50] (by decide) (fun w => M (Old w0) w0 w [raw b3 (Flat.enc (Vector.replicate 16 (0 : UInt8))), raw b1 (Flat.enc j54)]) (fun j => ([fun v _ => v = v0_1, fun v _ => v = (ptr pb76 0), fun v _ => v = (ptr pb76 (0 + 544)), fun v _ => v = u82, fun v _ => v = (sliceV (.slice (some ⟨b1, 0, none⟩) 16 16) ((0 : Int)).toNat ((16 : Int)).toNat 1)] : List (Value → World → Prop)).getD j (fun _ _ => True)) (fun _ _ h hk => h.keep hk) (gup (gupE (gupE (gupE (gupE (gupE gupN)))))) hE hM.drew (steps_of (steps_cons ?_ (steps_cons ?_ (steps_cons ?_ (steps_cons ?_ (steps_cons ?_ steps_nil)))))) ?_
                  · intro a w ux75 hE hM hp
                    refine s_move hE goes_none (by decide) rfl ?_; intro a hE
                    exact ⟨Kept.refl _ _, _, _, rfl, hE, rfl⟩
                  · intro a w ux75 hE hM hp
                    have f0 : ux75 0 = v0_1 := hp 0 _ rfl rfl
                    refine s_nilCheck hE goes_none (by decide) (lk (lk rfl f0) hv78) ?_; intro a hE
                    exact ⟨Kept.refl _ _, _, _, rfl, hE, rfl⟩
                  · intro a w ux75 hE hM hp
                    have f1 : ux75 1 = (ptr pb76 0) := hp 0 _ rfl rfl
                    refine s_fieldAddr hE goes_none (by decide) (lk rfl f1) (fd180_4) ?_; intro a hE
                    exact ⟨Kept.refl _ _, _, _, rfl, hE, rfl⟩
                  · intro a w ux75 hE hM hp
                    have f2 : ux75 2 = (ptr pb76 (0 + 544)) := hp 0 _ rfl rfl
                    refine s_load (v := u82) hE goes_none (by decide) (lk rfl f2) ty177 rfl (At.cat (pre := [Flat.enc p0.v.box, Flat.enc p0.v.backBox, Flat.enc p0.v.places, Flat.enc p0.v.backPlaces]) (seg := [u82]) (post := [[u84], [(vI p0.v.rounds)]]) (hM.atk hA80 hB81) (cl1 (n := 256) (m := 288) (Flat.len _) (cl1 (n := 256) (m := 32) (Flat.len _) (cl1 (n := 16) (m := 16) (Flat.len _) (cl1 (n := 16) (m := 0) (Flat.len _) cl0))))) ?_; intro a hE
                    exact ⟨Kept.refl _ _, _, _, rfl, hE, rfl⟩
                  · intro a w ux75 hE hM hp
                    refine s_sliceArr (N := 16) hE goes_none (by decide) rfl rfl rfl rfl rfl Try.underlying67 ty5 hb88 ?_; intro a hE
                    exact ⟨Kept.refl _ _, _, _, rfl, hE, rfl⟩
                  · intro a w ux75 hE hM hg
                    have f0 : ux75 0 = v0_1 := hg 0 (by decide)
                    have f1 : ux75 1 = (ptr pb76 0) := hg 1 (by decide)
                    have f2 : ux75 2 = (ptr pb76 (0 + 544)) := hg 2 (by decide)
                    have f3 : ux75 3 = u82 := hg 3 (by decide)
                    have f4 : ux75 4 = (sliceV (.slice (some ⟨b1, 0, none⟩) 16 16) ((0 : Int)).toNat ((16 : Int)).toNat 1) := hg 4 (by decide)
                    have hE := hE.sub (e' := [(46, v0_1), (47, (ptr pb76 0)), (48, (ptr pb76 (0 + 544))), (49, u82), (50, (sliceV (.slice (some ⟨b1, 0, none⟩) 16 16) ((0 : Int)).toNat ((16 : Int)).toNat 1)), (0, v0_1), (1, v1_1), (5, (ptr b1 0)), (6, (ptr b3 0)), (7, (vI s18.2)), (41, (vI s18.2)), (42, v1_1), (43, (vI (p1.length : Int))), (44, (vI (wr ((p1.length : Int) - 1)))), (45, (vT (decide (s18.2 < (wr ((p1.length : Int) - 1))))))]) ⟨lk rfl f0, lk rfl f1, lk rfl f2, lk rfl f3, lk rfl f4, rfl, rfl, rfl, rfl, rfl, rfl, rfl, rfl, rfl, rfl, trivial⟩
                    have hM := hM.pull (pre := [_])
                    obtain ⟨r89, e90, hl72⟩ := bind_some hl72
                    refine s_call (vs := [u82, (sliceV (.slice (some ⟨b1, 0, none⟩) 16 16) ((0 : Int)).toNat ((16 : Int)).toNat 1)]) hE goes_none (by decide) rfl cb166 (c_impl_mixer_mix _ _ _ _ p0.v.mixer u82 h83 b1 j54 hM r89 e90) ?_
                    rintro v w a ⟨rfl, hM⟩ hE
                    refine c_fin0 ?_
                    have ht91 := Option.some.inj hl72
                    subst ht91
                    refine c_mid ?_
                    have hM := hM.pull (pre := [_])
                    exact ⟨hE.sub ⟨rfl, rfl, rfl, rfl, rfl, trivial⟩, hM⟩
                · intro hb74
                  have hl72 := ite_f hl72 hb74
                  refine wp_skip ?_
                  have ht92 := Option.some.inj hl72
                  subst ht92
                  refine c_mid ?_
                  exact ⟨hE.sub ⟨rfl, rfl, rfl, rfl, rfl, trivial⟩, hM⟩
              · skip
                rintro a w ⟨hE, hM⟩
                obtain ⟨x94, e95, hF73⟩ := bind_some hF73
                have hi96 := idx_some e95
                obtain ⟨r97, e98, hF73⟩ := bind_some hF73
                refine c_draw (n := 59) (hd := [_, _, _, _, _, _]) (tl := [_]) hmix rfl rfl [52, 53, 54, 55, 56, 57] (by decide) (fun w => M (Old w0) w0 w [raw b3 (Flat.enc (Vector.replicate 16 (0 : UInt8))), raw b1 (Flat.enc j71)]) (fun j => ([fun v _ => v = (Value.agg (Flat.enc j71).toArray), fun v _ => v = v1_1, fun v _ => v = (vI s18.2), fun v _ => v = (ptr (sb v1_1) (so v1_1 + (s18.2).toNat * 16)), fun v _ => v = (Value.agg (Flat.enc x94).toArray), fun v _ => v = (Value.agg (Flat.enc r97).toArray)] : List (Value → World → Prop)).getD j (fun _ _ => True)) (fun _ _ h hk => h.keep hk) (gup (gupE (gupE (gupE (gupE (gupE (gupE gupN))))))) hE hM.drew (steps_of (steps_cons ?_ (steps_cons ?_ (steps_cons ?_ (steps_cons ?_ (steps_cons ?_ (steps_cons ?_ steps_nil))))))) ?_
                · intro a w ux93 hE hM hp
                  refine s_loadA (cs := Flat.enc j71) hE goes_none (by decide) rfl ty67 rfl (hM.rawAt (pre := [_])) (Flat.len _) ?_; intro a hE
                  exact ⟨Kept.refl _ _, _, _, rfl, hE, rfl⟩
                · intro a w ux93 hE hM hp
                  refine s_move hE goes_none (by decide) rfl ?_; intro a hE
                  exact ⟨Kept.refl _ _, _, _, rfl, hE, rfl⟩
                · intro a w ux93 hE hM hp
                  refine s_move hE goes_none (by decide) rfl ?_; intro a hE
                  exact ⟨Kept.refl _ _, _, _, rfl, hE, rfl⟩
                · intro a w ux93 hE hM hp
                  have f1 : ux93 1 = v1_1 := hp 0 _ rfl rfl
                  have f2 : ux93 2 = (vI s18.2) := hp 1 _ rfl rfl
                  refine s_indexS hE goes_none (by decide) (lk rfl f1) (lk rfl f2) Try.underlying60 ty67 (hM.rd hv1_1) hi96.1 ?_; intro a hE
                  exact ⟨Kept.refl _ _, _, _, rfl, hE, rfl⟩
                · intro a w ux93 hE hM hp
                  have f3 : ux93 3 = (ptr (sb v1_1) (so v1_1 + (s18.2).toNat * 16)) := hp 0 _ rfl rfl
                  refine s_loadA (cs := Flat.enc x94) hE goes_none (by decide) (lk rfl f3) ty67 rfl (sl_atF (hM.rd hv1_1) hi96.2) (Flat.len _) ?_; intro a hE
                  exact ⟨Kept.refl _ _, _, _, rfl, hE, rfl⟩
                · intro a w ux93 hE hM hp
                  have f0 : ux93 0 = (Value.agg (Flat.enc j71).toArray) := hp 0 _ rfl rfl
                  have f4 : ux93 4 = (Value.agg (Flat.enc x94).toArray) := hp 1 _ rfl rfl
                  refine s_call (vs := [(Value.agg (Flat.enc j71).toArray), (Value.agg (Flat.enc x94).toArray)]) hE goes_none (by decide) (evs_of (evsC (lk rfl f0) (evsC (lk rfl f4) evsN))) cb111 (c_impl_XorBlocks _ j71 x94 r97 e98) ?_
                  rintro v w a ⟨rfl, hK⟩ hE
                  exact ⟨hK, _, _, rfl, hE, rfl⟩
                · intro a w ux93 hE hM hg
                  have f0 : ux93 0 = (Value.agg (Flat.enc j71).toArray) := hg 0 (by decide)
                  have f1 : ux93 1 = v1_1 := hg 1 (by decide)
                  have f2 : ux93 2 = (vI s18.2) := hg 2 (by decide)
                  have f3 : ux93 3 = (ptr (sb v1_1) (so v1_1 + (s18.2).toNat * 16)) := hg 3 (by decide)
                  have f4 : ux93 4 = (Value.agg (Flat.enc x94).toArray) := hg 4 (by decide)
                  have f5 : ux93 5 = (Value.agg (Flat.enc r97).toArray) := hg 5 (by decide)
                  have hE := hE.sub (e' := [(52, (Value.agg (Flat.enc j71).toArray)), (53, v1_1), (54, (vI s18.2)), (55, (ptr (sb v1_1) (so v1_1 + (s18.2).toNat * 16))), (56, (Value.agg (Flat.enc x94).toArray)), (57, (Value.agg (Flat.enc r97).toArray)), (0, v0_1), (1, v1_1), (5, (ptr b1 0)), (6, (ptr b3 0)), (7, (vI s18.2))]) ⟨lk rfl f0, lk rfl f1, lk rfl f2, lk rfl f3, lk rfl f4, lk rfl f5, rfl, rfl, rfl, rfl, rfl, trivial⟩
                  have hM := hM.pull (pre := [_])
                  refine s_store (seg := Flat.enc r97) (cs' := Flat.enc r97) hE hM goes_none rfl rfl rfl ty67 (Flat.len _) (Nat.le_of_eq ((Nat.zero_add _).trans (Eq.trans (Flat.len _) (Eq.symm (Flat.len _))))) (Flat.cell _) (splice_all (Eq.trans (Flat.len _) (Eq.symm (Flat.len _)))) ?_; intro w a hM hE
                  refine c_fin0 ?_
                  refine c_nb ?_
                  have ht99 := Option.some.inj hF73
                  subst ht99
                  refine c_mid ?_
                  have hM := hM.pull (pre := [_])
                  exact ⟨hE.sub ⟨rfl, rfl, rfl, rfl, rfl, trivial⟩, hM⟩
        · skip
          rintro a w ⟨hE, hM⟩
          refine wp_region_lit ?_
          refine s_move hE goes_none (by decide) rfl ?_; intro a hE
          refine s_int hE goes_none (by decide) rfl rfl rfl ?_; intro a hE
          refine s_assign hE goes_none (by decide) rfl ?_; intro a hE
          refine c_fin0 ?_
          refine c_mid ?_
          exact ⟨_, (Option.some.inj hF25).symm, hE.sub ⟨rfl, rfl, rfl, rfl, rfl, trivial⟩, hM⟩
      · intro hb22
        have hs19 := ite_f hs19 hb22
        refine wp_exit (e_then (e_then (e_eq ?_)))
        have ht100 := hx20 _ (Option.some.inj hs19).symm
        subst ht100
        refine c_mid ?_
        exact ⟨hE.sub ⟨rfl, rfl, trivial⟩, hM⟩
    · skip
      rintro a w ⟨hE, hM⟩
      refine c_nx ?_
      refine c_region ?_
      refine s_loadA (cs := Flat.enc j15) hE goes_none (by decide) rfl ty67 rfl (hM.rawAt (pre := [_])) (Flat.len _) ?_; intro a hE
      refine s_store (seg := Flat.enc j15) (cs' := Flat.enc j15) hE hM goes_none rfl rfl rfl ty67 (Flat.len _) (Nat.le_of_eq ((Nat.zero_add _).trans (Eq.trans (Flat.len _) (Eq.symm (Flat.len _))))) (Flat.cell _) (splice_all (Eq.trans (Flat.len _) (Eq.symm (Flat.len _)))) ?_; intro w a hM hE
      refine c_fin ?_
      have hr := Option.some.inj hF17
      subst hr
      have hq101 : ResIs Try.prog _ _ (.cell 6 67) _ := res_cell hE rfl ty67 rfl (hM.rawAt (pre := [])) (Flat.len _) rfl
      have hM := M.fst (l := []) hM
      exact wp_ret (k_ret1 hE rfl hq101 ⟨_, rfl, rfl, hM.kept⟩)
noncomputable def L0_impl_engine_set (p0 : (Ref Gengine)) (p1 : (List (Vector UInt8 16))) (p3 : Int) (s10 : (Vector UInt8 16) × Int × (List (Vector UInt8 16))) : Option (Fl ((Vector UInt8 16) × Int × (List (Vector UInt8 16))) (List (Vector UInt8 16))) :=
  if (decide (s10.2.1 < 256)) = true then ((vidx s10.1 p3).bind fun (x18 : UInt8) => (F_impl_engine_encipherWith p0 p1 (s10.1.setIfInBounds (p3).toNat (byteI s10.2.1))).bind fun (r20 : (Vector UInt8 16)) => (app 16 s10.2.2 ([r20] : List (Vector UInt8 16))).bind fun (l24 : (List (Vector UInt8 16))) => some (Fl.nx ((s10.1.setIfInBounds (p3).toNat (byteI s10.2.1)), wr (s10.2.1 + 1), (s10.2.2 ++ ([r20] : List (Vector UInt8 16)))))) else (some (Fl.ex s10.2.2))
noncomputable def F_impl_engine_set (p0 : (Ref Gengine)) (p1 : (List (Vector UInt8 16))) (p2 : (Vector UInt8 16)) (p3 : Int) : Option ((List (Vector UInt8 16))) :=
  (iter (L0_impl_engine_set p0 p1 p3) (p2, 0, ([] : List (Vector UInt8 16))) : Option ((List (Vector UInt8 16)))).bind fun (j5 : (List (Vector UInt8 16))) => some j5
set_option maxRecDepth 20000 in
set_option maxHeartbeats 400000 in
theorem c_impl_engine_set (w0 : World) (p0 : (Ref Gengine)) (v0_1 : Value) (hv0_1 : Ro w0 p0 [v0_1]) (p1 : (List (Vector UInt8 16))) (v1_1 : Value) (hv1_1 : Ro w0 p1 [v1_1]) (p2 : (Vector UInt8 16)) (p3 : Int) (r : (List (Vector UInt8 16))) (hF : F_impl_engine_set p0 p1 p2 p3 = some r) :
    Calls Try.prog 123 [v0_1, v1_1, (Value.agg (Flat.enc p2).toArray), (vI p3)].toArray w0 (fun en w' => ∃ v, en = .returned v ∧ (∃ (y1 : Value), v = y1 ∧ Fr w0 w' [osl NoB (r : List (Vector UInt8 16)) y1] ∧ Kept (Old w0) w0 w')) := by
  refine c_enter (n := 28) Try.func123 rfl rfl (Nat.le_of_ble_eq_true rfl) rfl ?_
  intro a hE
  have hM := M.start w0
  unfold F_impl_engine_set at hF
  refine c_region ?_
  refine s_box (cs := Flat.enc p2) hE hM goes_none (by decide) rfl rfl ?_; intro b1 w a hM hE
  refine s_assign hE goes_none (by decide) rfl ?_; intro a hE
  refine c_fin ?_
  refine c_region ?_
  refine s_buildF (xs := []) (l := ([] : List (Vector UInt8 16))) (vs := []) hE hM goes_none (by decide) rfl rfl Try.underlying60 ty67 rfl (by decide) rfl ?_; intro u3 w a hM hE
  refine s_assign hE goes_none (by decide) rfl ?_; intro a hE
  refine c_fin ?_
  refine wp_seq ?_
  refine c_region ?_
  refine s_move hE goes_none (by decide) rfl ?_; intro a hE
  refine c_fin ?_
  obtain ⟨j5, hl6, hF7⟩ := bind_some hF
  refine c_cut (fun a w => ∃ (u8 : Value), Env 28 a [(9, u8)] ∧ M (Old w0) w0 w [osl NoB (j5 : List (Vector UInt8 16)) u8]) ?_ ?_
  · skip
    refine wp_block ?_
    have hM := hM.pull (pre := [_])
    refine c_loop (fun (s10 : (Vector UInt8 16) × Int × (List (Vector UInt8 16))) a w => ∃ (u11 : Value), Env 28 a [(0, v0_1), (1, v1_1), (3, (vI p3)), (6, (ptr b1 0)), (9, u11), (12, (vI s10.2.1))] ∧ M (Old w0) w0 w [raw b1 (Flat.enc s10.1), osl NoB (s10.2.2 : List (Vector UInt8 16)) u11]) hl6 ⟨u3, hE.sub ⟨rfl, rfl, rfl, rfl, rfl, rfl, trivial⟩, hM⟩ ?_
    rintro s10 a w ⟨u11, hE, hM⟩ o15 hs13 hx14
    unfold L0_impl_engine_set at hs13
    refine c_region ?_
    refine s_int hE goes_none (by decide) rfl rfl rfl ?_; intro a hE
    refine c_fin ?_
    refine wp_seq ?_
    refine c_cond hE rfl ?_ ?_
    · intro hb16
      have hs13 := ite_t hs13 hb16
      refine wp_skip ?_
      refine c_nx ?_
      refine wp_seq ?_
      refine wp_block ?_
      refine c_region ?_
      refine s_move hE goes_none (by decide) rfl ?_; intro a hE
      refine s_assign hE goes_none (by decide) rfl ?_; intro a hE
      refine c_fin ?_
      refine c_region ?_
      refine s_move hE goes_none (by decide) rfl ?_; intro a hE
      refine s_move hE goes_none (by decide) rfl ?_; intro a hE
      refine s_conv hE goes_none (by decide) rfl Try.underlying3 Try.underlying5 ?_; intro a hE
      rw [byteI_val] at hE
      obtain ⟨x18, e19, hs13⟩ := bind_some hs13
      have hi17 := vidx_some e19
      refine s_indexA hE goes_none (by decide) rfl rfl Try.underlying67 ty5 hi17.1 ?_; intro a hE
      refine s_store (seg := [(vB (byteI s10.2.1))]) (cs' := Flat.enc (s10.1.setIfInBounds (p3).toNat (byteI s10.2.1))) hE hM goes_none rfl rfl rfl ty5 rfl (fit_vec (v := s10.1) (x := byteI s10.2.1) hi17.1) (Flat.cell (byteI s10.2.1 : UInt8)) (splice_vec0 (v := s10.1) (x := byteI s10.2.1) hi17.1) ?_; intro w a hM hE
      refine c_fin ?_
      refine wp_region_lit ?_
      refine s_move hE goes_none (by decide) rfl ?_; intro a hE
      refine s_move hE goes_none (by decide) rfl ?_; intro a hE
      refine s_move hE goes_none (by decide) rfl ?_; intro a hE
      refine s_loadA (cs := Flat.enc (s10.1.setIfInBounds (p3).toNat (byteI s10.2.1))) hE goes_none (by decide) rfl ty67 rfl (hM.rawAt (pre := [])) (Flat.len _) ?_; intro a hE
      obtain ⟨r20, e21, hs13⟩ := bind_some hs13
      refine s_call (vs := [v0_1, v1_1, (Value.agg (Flat.enc (s10.1.setIfInBounds (p3).toNat (byteI s10.2.1))).toArray)]) hE goes_none (by decide) rfl cb160 (c_impl_engine_encipherWith _ p0 v0_1 (hM.rdo hv0_1) p1 v1_1 (hM.rdo hv1_1) (s10.1.setIfInBounds (p3).toNat (byteI s10.2.1)) r20 e21) ?_
      rintro v w a ⟨rfl, hK⟩ hE
      have hM := hM.keep hK
      refine s_buildF (xs := [.tmp 23]) (l := ([r20] : List (Vector UInt8 16))) (vs := [(Value.agg (Flat.enc r20).toArray)]) hE hM goes_none (by decide) rfl rfl Try.underlying60 ty67 rfl (by decide) rfl ?_; intro u22 w a hM hE
      obtain ⟨l24, e25, hs13⟩ := bind_some hs13
      obtain ⟨e28, rfl⟩ := app_some e25
      have hM := hM.pull (pre := [_, _])
      refine s_appendF hE hM goes_none (by decide) rfl rfl (hM.sl (pre := [_]) noB) Try.underlying60 ty67 rfl (by decide) e28 ?_; intro u26 w a hM hE
      refine s_assign hE goes_none (by decide) rfl ?_; intro a hE
      refine c_fin0 ?_
      refine c_nb ?_
      refine c_nx ?_
      refine wp_region_lit ?_
      refine s_int hE goes_none (by decide) rfl rfl rfl ?_; intro a hE
      refine s_move hE goes_none (by decide) rfl ?_; intro a hE
      refine c_fin0 ?_
      refine c_mid ?_
      have hM := hM.pull (pre := [_, _])
      have hM := M.fst (l := [_, _]) hM
      exact ⟨_, (Option.some.inj hs13).symm, u26, hE.sub ⟨rfl, rfl, rfl, rfl, rfl, rfl, trivial⟩, hM⟩
    · intro hb16
      have hs13 := ite_f hs13 hb16
      refine wp_exit (e_then (e_then (e_eq ?_)))
      have ht29 := hx14 _ (Option.some.inj hs13).symm
      subst ht29
      refine c_mid ?_
      have hM := hM.pull (pre := [_])
      have hM := M.fst (l := [_]) hM
      exact ⟨u11, hE.sub ⟨rfl, trivial⟩, hM⟩
  · skip
    rintro a w ⟨u8, hE, hM⟩
    refine c_nx ?_
    refine c_region ?_
    refine s_move hE goes_none (by decide) rfl ?_; intro a hE
    refine s_assign hE goes_none (by decide) rfl ?_; intro a hE
    refine c_fin ?_
    have hr := Option.some.inj hF7
    subst hr
    exact wp_ret (k_ret1 hE rfl (res_tmp hE rfl) ⟨_, rfl, u8, rfl, hM.outF (locN1 locN0), hM.kept⟩)
noncomputable def F_impl_setOf (p0 : GCipher) (p1 : (Vector UInt8 16)) (p2 : (Vector UInt8 16)) (p3 : Int) (p4 : Int) : Option ((List (Vector UInt8 16))) :=
  (F_impl_newEngine p0).bind fun (r7 : (Ref Gengine)) => ((F_impl_engine_keys r7 p1 p4).bind fun (r16 : (List (Vector UInt8 16))) => (F_impl_engine_set r7 r16 p2 p3).bind fun (r19 : (List (Vector UInt8 16))) => some r19 : Option ((List (Vector UInt8 16)))).bind fun (j10 : (List (Vector UInt8 16))) => some j10
set_option maxRecDepth 20000 in
set_option maxHeartbeats 400000 in
theorem c_impl_setOf (w0 : World) (p0 : GCipher) (p1 : (Vector UInt8 16)) (p2 : (Vector UInt8 16)) (p3 : Int) (p4 : Int) (r : (List (Vector UInt8 16))) (hF : F_impl_setOf p0 p1 p2 p3 p4 = some r) :
    Calls Try.prog 110 [(Value.agg (Flat.enc p0).toArray), (Value.agg (Flat.enc p1).toArray), (Value.agg (Flat.enc p2).toArray), (vI p3), (vI p4)].toArray w0 (fun en w' => ∃ v, en = .returned v ∧ (∃ (y1 : Value), v = y1 ∧ Fr w0 w' [osl NoB (r : List (Vector UInt8 16)) y1] ∧ Kept (Old w0) w0 w')) := by
  refine c_enter (n := 22) Try.func110 rfl rfl (Nat.le_of_ble_eq_true rfl) rfl ?_
  intro a hE
  have hM := M.start w0
  unfold F_impl_setOf at hF
  refine c_region ?_
  refine s_box (cs := cat [[(vI p0.Field)], Flat.enc p0.Box, Flat.enc p0.Mix, Flat.enc p0.Places, [(vI p0.Rounds)]]) hE hM goes_none (by decide) rfl rfl ?_; intro b1 w a hM hE
  refine s_box (cs := Flat.enc p1) hE hM goes_none (by decide) rfl rfl ?_; intro b3 w a hM hE
  refine s_box (cs := Flat.enc p2) hE hM goes_none (by decide) rfl rfl ?_; intro b5 w a hM hE
  refine s_assign hE goes_none (by decide) rfl ?_; intro a hE
  refine c_fin ?_
  refine c_region ?_
  refine s_loadA (cs := Flat.enc p0) hE goes_none (by decide) rfl ty58 rfl (hM.rawAt (pre := [_, _])) (cat_len (cl1 (n := 1) (m := 289) rfl (cl1 (n := 256) (m := 33) (Flat.len _) (cl1 (n := 16) (m := 17) (Flat.len _) (cl1 (n := 16) (m := 1) (Flat.len _) (cl1 (n := 1) (m := 0) rfl cl0)))))) ?_; intro a hE
  obtain ⟨r7, e8, hF⟩ := bind_some hF
  refine s_call (vs := [(Value.agg (Flat.enc p0).toArray)]) hE goes_none (by decide) rfl cb96 (c_impl_newEngine _ p0 r7 e8) ?_
  rintro u9 w a ⟨_, rfl, hFr, hK⟩ hE
  have hM := hM.add hK hFr
  refine s_assign hE goes_none (by decide) rfl ?_; intro a hE
  refine c_fin ?_
  obtain ⟨j10, hl11, hF12⟩ := bind_some hF
  refine c_join (fun a w => ∃ (u13 : Value), Env 22 a [(10, u13)] ∧ M (Old w0) w0 w [osl NoB (j10 : List (Vector UInt8 16)) u13]) ?_ ?_
  · skip
    obtain ⟨r16, e17, hl11⟩ := bind_some hl11
    refine c_draw2 (n := 22) (hd := [_, _, _, _, _, _, _]) (tl := [_, _]) (its := [own NoB (r7 : (Ref Gengine)) [u9], raw b5 (Flat.enc p2), raw b3 (Flat.enc p1), raw b1 (cat [[(vI p0.Field)], Flat.enc p0.Box, Flat.enc p0.Mix, Flat.enc p0.Places, [(vI p0.Rounds)]])]) hmix rfl rfl [14, 15, 16, 17, 18, 19, 20] (by decide) [(4, fun v => osl NoB (r16 : List (Vector UInt8 16)) v)] rfl (fun j => ([fun v => v = u9, fun v => v = u9, fun v => v = (Value.agg (Flat.enc p1).toArray), fun v => v = (vI p4), fun v => True, fun v => v = (Value.agg (Flat.enc p2).toArray), fun v => v = (vI p3)] : List (Value → Prop)).getD j (fun _ => True)) hE hM.drew (steps_of (steps_cons ?_ (steps_cons ?_ (steps_cons ?_ (steps_cons ?_ (steps_cons ?_ (steps_cons ?_ (steps_cons ?_ steps_nil)))))))) ?_
    · intro a w ux15 D hE hM hD hp
      have hM0 := hM
      refine s_move hE goes_none (by decide) rfl ?_; intro a hE
      exact ⟨_, _, rfl, hE, rfl, hM0.optKeep rfl⟩
    · intro a w ux15 D hE hM hD hp
      have hM0 := hM
      refine s_move hE goes_none (by decide) rfl ?_; intro a hE
      exact ⟨_, _, rfl, hE, rfl, hM0.optKeep rfl⟩
    · intro a w ux15 D hE hM hD hp
      have hM0 := hM
      have hM : M (Old w0) w0 w [own NoB (r7 : (Ref Gengine)) [u9], raw b5 (Flat.enc p2), raw b3 (Flat.enc p1), raw b1 (cat [[(vI p0.Field)], Flat.enc p0.Box, Flat.enc p0.Mix, Flat.enc p0.Places, [(vI p0.Rounds)]]), opt (D 4) (osl NoB (r16 : List (Vector UInt8 16)) (ux15 4))] := hM
      refine s_loadA (cs := Flat.enc p1) hE goes_none (by decide) rfl ty67 rfl (hM.rawAt (pre := [_, _])) (Flat.len _) ?_; intro a hE
      exact ⟨_, _, rfl, hE, rfl, hM0.optKeep rfl⟩
    · intro a w ux15 D hE hM hD hp
      have hM0 := hM
      refine s_move hE goes_none (by decide) rfl ?_; intro a hE
      exact ⟨_, _, rfl, hE, rfl, hM0.optKeep rfl⟩
    · intro a w ux15 D hE hM hD hp
      have f1 : ux15 1 = u9 := (hp 0 _ rfl rfl).2
      have f2 : ux15 2 = (Value.agg (Flat.enc p1).toArray) := (hp 1 _ rfl rfl).2
      have f3 : ux15 3 = (vI p4) := (hp 2 _ rfl rfl).2
      have hM0 := hM
      have hM : M (Old w0) w0 w [own NoB (r7 : (Ref Gengine)) [u9], raw b5 (Flat.enc p2), raw b3 (Flat.enc p1), raw b1 (cat [[(vI p0.Field)], Flat.enc p0.Box, Flat.enc p0.Mix, Flat.enc p0.Places, [(vI p0.Rounds)]]), opt (D 4) (osl NoB (r16 : List (Vector UInt8 16)) (ux15 4))] := hM
      refine s_call (vs := [u9, (Value.agg (Flat.enc p1).toArray), (vI p4)]) hE goes_none (by decide) (evs_of (evsC (lk rfl f1) (evsC (lk rfl f2) (evsC (lk rfl f3) evsN)))) cb115 (c_impl_engine_keys _ r7 u9 (hM.ro (pre := []) noB) p1 p4 r16 e17) ?_
      rintro _ w a ⟨_, rfl, hFr, hK⟩ hE
      have hM := hM0.add hK hFr
      exact ⟨_, _, rfl, hE, trivial, M.optFill (mk1 := []) (mk2 := []) (f := (fun v => osl NoB (r16 : List (Vector UInt8 16)) v)) hM rfl hD⟩
    · intro a w ux15 D hE hM hD hp
      have hM0 := hM
      have hM : M (Old w0) w0 w [own NoB (r7 : (Ref Gengine)) [u9], raw b5 (Flat.enc p2), raw b3 (Flat.enc p1), raw b1 (cat [[(vI p0.Field)], Flat.enc p0.Box, Flat.enc p0.Mix, Flat.enc p0.Places, [(vI p0.Rounds)]]), opt (D 4) (osl NoB (r16 : List (Vector UInt8 16)) (ux15 4))] := hM
      refine s_loadA (cs := Flat.enc p2) hE goes_none (by decide) rfl ty67 rfl (hM.rawAt (pre := [_])) (Flat.len _) ?_; intro a hE
      exact ⟨_, _, rfl, hE, rfl, hM0.optKeep rfl⟩
    · intro a w ux15 D hE hM hD hp
      have hM0 := hM
      refine s_move hE goes_none (by decide) rfl ?_; intro a hE
      exact ⟨_, _, rfl, hE, rfl, hM0.optKeep rfl⟩
    · intro a w ux15 hE hM hg
      have f0 : ux15 0 = u9 := hg 0 (by decide)
      have f1 : ux15 1 = u9 := hg 1 (by decide)
      have f2 : ux15 2 = (Value.agg (Flat.enc p1).toArray) := hg 2 (by decide)
      have f3 : ux15 3 = (vI p4) := hg 3 (by decide)
      have f5 : ux15 5 = (Value.agg (Flat.enc p2).toArray) := hg 5 (by decide)
      have f6 : ux15 6 = (vI p3) := hg 6 (by decide)
      have hM : M (Old w0) w0 w [own NoB (r7 : (Ref Gengine)) [u9], raw b5 (Flat.enc p2), raw b3 (Flat.enc p1), raw b1 (cat [[(vI p0.Field)], Flat.enc p0.Box, Flat.enc p0.Mix, Flat.enc p0.Places, [(vI p0.Rounds)]]), osl NoB (r16 : List (Vector UInt8 16)) (ux15 4)] := hM
      have hE := hE.sub (e' := [(14, u9), (15, u9), (16, (Value.agg (Flat.enc p1).toArray)), (17, (vI p4)), (18, (ux15 4)), (19, (Value.agg (Flat.enc p2).toArray)), (20, (vI p3)), (0, (Value.agg (Flat.enc p0).toArray)), (1, (Value.agg (Flat.enc p1).toArray)), (2, (Value.agg (Flat.enc p2).toArray)), (3, (vI p3)), (4, (vI p4)), (5, (ptr b1 0)), (6, (ptr b3 0)), (7, (ptr b5 0)), (10, (Value.slice none 0 0)), (11, u9), (12, (Value.agg (Flat.enc p0).toArray)), (13, u9)]) ⟨lk rfl f0, lk rfl f1, lk rfl f2, lk rfl f3, rfl, lk rfl f5, lk rfl f6, rfl, rfl, rfl, rfl, rfl, rfl, rfl, rfl, rfl, rfl, rfl, rfl, trivial⟩
      obtain ⟨r19, e20, hl11⟩ := bind_some hl11
      refine s_call (vs := [u9, (ux15 4), (Value.agg (Flat.enc p2).toArray), (vI p3)]) hE goes_none (by decide) rfl cb123 (c_impl_engine_set _ r7 u9 (hM.ro (pre := []) noB) r16 (ux15 4) (hM.sl (pre := [_, _, _, _]) noB) p2 p3 r19 e20) ?_
      rintro u21 w a ⟨_, rfl, hFr, hK⟩ hE
      have hM := hM.add hK hFr
      refine s_assign hE goes_none (by decide) rfl ?_; intro a hE
      refine c_fin0 ?_
      have ht22 := Option.some.inj hl11
      subst ht22
      refine c_mid ?_
      have hM := M.fst (l := [_]) hM
      exact ⟨u21, hE.sub ⟨rfl, trivial⟩, hM⟩
  · skip
    rintro a w ⟨u13, hE, hM⟩
    have hr := Option.some.inj hF12
    subst hr
    exact wp_ret (k_ret1 hE rfl (res_tmp hE rfl) ⟨_, rfl, u13, rfl, hM.outF (locN1 locN0), hM.kept⟩)
noncomputable def L1_impl_DistinguishedBytes (r11 : (List (Vector UInt8 16))) (s21 : (List Int) × Int) (s38 : (Vector Bool 256) × Int) : Option (Fl ((Vector Bool 256) × Int) (Vector Bool 256)) :=
  if (decide (s38.2 < (r11.length : Int))) = true then ((idx r11 s38.2).bind fun (x43 : (Vector UInt8 16)) => (vidx x43 s21.2).bind fun (x49 : UInt8) => (vidx s38.1 (bI x49)).bind fun (x52 : Bool) => some (Fl.nx ((s38.1.setIfInBounds ((bI x49)).toNat true), wr (s38.2 + 1)))) else (some (Fl.ex s38.1))
noncomputable def L0_impl_DistinguishedBytes (r11 : (List (Vector UInt8 16))) (s21 : (List Int) × Int) : Option (Fl ((List Int) × Int) (List Int)) :=
  if (decide (s21.2 < 16)) = true then (((iter (L1_impl_DistinguishedBytes r11 s21) ((Vector.replicate 256 false), 0) : Option ((Vector Bool 256))).bind fun (j35 : (Vector Bool 256)) => (slc j35.toList (0 : Int) (256 : Int)).bind fun (l55 : (List Bool)) => (F_slices_Contains_bool_bool l55 false).bind fun (r58 : Bool) => (if (!r58) = true then ((app 8 s21.1 ([s21.2] : List Int)).bind fun (l68 : (List Int)) => some (s21.1 ++ ([s21.2] : List Int))) else (some s21.1) : Option ((List Int))).bind fun (j60 : (List Int)) => some j60 : Option ((List Int))).bind fun (j28 : (List Int)) => some (Fl.nx (j28, wr (s21.2 + 1)))) else (some (Fl.ex s21.1))
noncomputable def F_impl_DistinguishedBytes (p0 : GCipher) (p1 : (Vector UInt8 16)) (p2 : (Vector UInt8 16)) (p3 : Int) (p4 : Int) : Option ((List Int) × Int) :=
  (F_impl_checkSet p0 p3 p4).bind fun (r7 : Int) => if (r7 != 0) = true then (some ([], r7)) else ((F_impl_setOf p0 p1 p2 p3 p4).bind fun (r11 : (List (Vector UInt8 16))) => (iter (L0_impl_DistinguishedBytes r11) (([] : List Int), 0) : Option ((List Int))).bind fun (j16 : (List Int)) => some (j16, 0))
set_option maxRecDepth 20000 in
set_option maxHeartbeats 400000 in
theorem c_impl_DistinguishedBytes (w0 : World) (p0 : GCipher) (p1 : (Vector UInt8 16)) (p2 : (Vector UInt8 16)) (p3 : Int) (p4 : Int) (r : (List Int) × Int) (hF : F_impl_DistinguishedBytes p0 p1 p2 p3 p4 = some r) :
    Calls Try.prog 55 [(Value.agg (Flat.enc p0).toArray), (Value.agg (Flat.enc p1).toArray), (Value.agg (Flat.enc p2).toArray), (vI p3), (vI p4)].toArray w0 (fun en w' => ∃ v, en = .returned v ∧ (∃ (y1 : Value), v = (Value.tuple [y1, (vI r.2)].toArray) ∧ Fr w0 w' [osl NoB (r.1 : List Int) y1] ∧ Kept (Old w0) w0 w')) := by
  refine c_enter (n := 57) Try.func55 rfl rfl (Nat.le_of_ble_eq_true rfl) rfl ?_
  intro a hE
  have hM := M.start w0
  unfold F_impl_DistinguishedBytes at hF
  refine c_region ?_
  refine s_box (cs := cat [[(vI p0.Field)], Flat.enc p0.Box, Flat.enc p0.Mix, Flat.enc p0.Places, [(vI p0.Rounds)]]) hE hM goes_none (by decide) rfl rfl ?_; intro b1 w a hM hE
  refine s_box (cs := Flat.enc p1) hE hM goes_none (by decide) rfl rfl ?_; intro b3 w a hM hE
  refine s_box (cs := Flat.enc p2) hE hM goes_none (by decide) rfl rfl ?_; intro b5 w a hM hE
  refine s_assign hE goes_none (by decide) rfl ?_; intro a hE
  refine s_assign hE goes_none (by decide) rfl ?_; intro a hE
  refine c_fin ?_
  refine wp_seq ?_
  refine c_region ?_
  refine s_loadA (cs := Flat.enc p0) hE goes_none (by decide) rfl ty58 rfl (hM.rawAt (pre := [_, _])) (cat_len (cl1 (n := 1) (m := 289) rfl (cl1 (n := 256) (m := 33) (Flat.len _) (cl1 (n := 16) (m := 17) (Flat.len _) (cl1 (n := 16) (m := 1) (Flat.len _) (cl1 (n := 1) (m := 0) rfl cl0)))))) ?_; intro a hE
  refine s_move hE goes_none (by decide) rfl ?_; intro a hE
  refine s_move hE goes_none (by decide) rfl ?_; intro a hE
  obtain ⟨r7, e8, hF⟩ := bind_some hF
  refine s_call (vs := [(Value.agg (Flat.enc p0).toArray), (vI p3), (vI p4)]) hE goes_none (by decide) rfl cb109 (c_impl_checkSet _ p0 p3 p4 r7 e8) ?_
  rintro v w a ⟨rfl, hK⟩ hE
  have hM := hM.keep hK
  refine s_assign hE goes_none (by decide) rfl ?_; intro a hE
  refine c_fin ?_
  refine c_region ?_
  refine s_move hE goes_none (by decide) rfl ?_; intro a hE
  refine s_int hE goes_none (by decide) rfl rfl rfl ?_; intro a hE
  refine c_fin ?_
  refine c_cond hE rfl ?_ ?_
  · intro hb9
    have hF := ite_t hF hb9
    refine c_region ?_
    refine s_move hE goes_none (by decide) rfl ?_; intro a hE
    refine s_assign hE goes_none (by decide) rfl ?_; intro a hE
    refine s_assign hE goes_none (by decide) rfl ?_; intro a hE
    refine c_fin ?_
    have hM := M.nilS (α := Int) NoB noB hM
    have hr := Option.some.inj hF
    subst hr
    have hM := M.fst (l := [_]) hM
    exact wp_ret (r_then (k_ret2 hE rfl (res_tmp hE rfl) (res_tmp hE rfl) ⟨_, rfl, (Value.slice none 0 0), rfl, hM.outF (locN1 locN0), hM.kept⟩))
  · intro hb9
    have hF := ite_f hF hb9
    refine wp_skip ?_
    refine c_nx ?_
    refine c_region ?_
    refine s_loadA (cs := Flat.enc p0) hE goes_none (by decide) rfl ty58 rfl (hM.rawAt (pre := [_, _])) (cat_len (cl1 (n := 1) (m := 289) rfl (cl1 (n := 256) (m := 33) (Flat.len _) (cl1 (n := 16) (m := 17) (Flat.len _) (cl1 (n := 16) (m := 1) (Flat.len _) (cl1 (n := 1) (m := 0) rfl cl0)))))) ?_; intro a hE
    refine s_loadA (cs := Flat.enc p1) hE goes_none (by decide) rfl ty67 rfl (hM.rawAt (pre := [_])) (Flat.len _) ?_; intro a hE
    refine s_loadA (cs := Flat.enc p2) hE goes_none (by decide) rfl ty67 rfl (hM.rawAt (pre := [])) (Flat.len _) ?_; intro a hE
    refine s_move hE goes_none (by decide) rfl ?_; intro a hE
    refine s_move hE goes_none (by decide) rfl ?_; intro a hE
    obtain ⟨r11, e12, hF⟩ := bind_some hF
    refine s_call (vs := [(Value.agg (Flat.enc p0).toArray), (Value.agg (Flat.enc p1).toArray), (Value.agg (Flat.enc p2).toArray), (vI p3), (vI p4)]) hE goes_none (by decide) rfl cb110 (c_impl_setOf _ p0 p1 p2 p3 p4 r11 e12) ?_
    rintro u13 w a ⟨_, rfl, hFr, hK⟩ hE
    have hM := hM.add hK hFr
    refine s_buildF (xs := []) (l := ([] : List Int)) (vs := []) hE hM goes_none (by decide) rfl rfl Try.underlying51 ty2 rfl (by decide) rfl ?_; intro u14 w a hM hE
    refine s_assign hE goes_none (by decide) rfl ?_; intro a hE
    refine s_assign hE goes_none (by decide) rfl ?_; intro a hE
    refine c_fin ?_
    refine wp_seq ?_
    refine c_region ?_
    refine s_move hE goes_none (by decide) rfl ?_; intro a hE
    refine c_fin ?_
    obtain ⟨j16, hl17, hF18⟩ := bind_some hF
    refine c_cut (fun a w => ∃ (u19 : Value), Env 57 a [(14, u19)] ∧ M (Old w0) w0 w [osl NoB (j16 : List Int) u19]) ?_ ?_
    · skip
      refine wp_block ?_
      have hM := hM.pull (pre := [_])
      have hM := M.fst (l := [_, _]) hM
      refine c_loop (fun (s21 : (List Int) × Int) a w => ∃ (u22 : Value), Env 57 a [(13, u13), (14, u22), (33, (vI s21.2))] ∧ M (Old w0) w0 w [osl NoB (r11 : List (Vector UInt8 16)) u13, osl NoB (s21.1 : List Int) u22]) hl17 ⟨u14, hE.sub ⟨rfl, rfl, rfl, trivial⟩, hM⟩ ?_
      rintro s21 a w ⟨u22, hE, hM⟩ o26 hs24 hx25
      unfold L0_impl_DistinguishedBytes at hs24
      refine c_region ?_
      refine s_int hE goes_none (by decide) rfl rfl rfl ?_; intro a hE
      refine c_fin ?_
      refine wp_seq ?_
      refine c_cond hE rfl ?_ ?_
      · intro hb27
        have hs24 := ite_t hs24 hb27
        refine wp_skip ?_
        refine c_nx ?_
        obtain ⟨j28, hl29, hF30⟩ := bind_some hs24
        refine c_join (fun a w => ∃ (u31 : Value), Env 57 a [(13, u13), (14, u31), (33, (vI s21.2))] ∧ M (Old w0) w0 w [osl NoB (r11 : List (Vector UInt8 16)) u13, osl NoB (j28 : List Int) u31]) ?_ ?_
        · skip
          refine wp_block ?_
          refine c_region ?_
          refine s_move hE goes_none (by decide) rfl ?_; intro a hE
          refine s_assign hE goes_none (by decide) rfl ?_; intro a hE
          refine c_fin ?_
          refine c_region ?_
          refine s_buildA (parts := []) (vs := []) (cs := Flat.enc (Vector.replicate 256 false)) hE goes_none (by decide) rfl rfl ty112 rfl ty4 filla_nil ?_; intro a hE
          refine s_alloc hE hM goes_none (by decide) ty112 ?_; intro b33 w a hM hE
          refine s_store (seg := Flat.enc (Vector.replicate 256 false)) (cs' := Flat.enc (Vector.replicate 256 false)) hE hM goes_none rfl rfl rfl ty112 (Flat.len _) (Nat.le_of_eq ((Nat.zero_add _).trans (Eq.trans (Flat.len _) (Eq.symm (Flat.len _))))) (Flat.cell _) (splice_all (Eq.trans (Flat.len _) (Eq.symm (Flat.len _)))) ?_; intro w a hM hE
          refine c_fin ?_
          refine wp_seq ?_
          refine c_region ?_
          refine s_move hE goes_none (by decide) rfl ?_; intro a hE
          refine s_len hE goes_none (by decide) rfl Try.underlying60 (hM.sl (pre := [_]) noB) ?_; intro a hE
          refine s_move hE goes_none (by decide) rfl ?_; intro a hE
          refine c_fin ?_
          obtain ⟨j35, hl36, hF37⟩ := bind_some hl29
          refine c_cut (fun a w => Env 57 a [(13, u13), (14, u22), (15, (vI s21.2)), (16, (ptr b33 0)), (33, (vI s21.2))] ∧ M (Old w0) w0 w [raw b33 (Flat.enc j35), osl NoB (r11 : List (Vector UInt8 16)) u13, osl NoB (s21.1 : List Int) u22]) ?_ ?_
          · skip
            refine wp_block ?_
            refine c_loop (fun (s38 : (Vector Bool 256) × Int) a w => Env 57 a [(13, u13), (14, u22), (15, (vI s21.2)), (16, (ptr b33 0)), (33, (vI s21.2)), (37, u13), (38, (vI (r11.length : Int))), (39, (vI s38.2))] ∧ M (Old w0) w0 w [raw b33 (Flat.enc s38.1), osl NoB (r11 : List (Vector UInt8 16)) u13, osl NoB (s21.1 : List Int) u22]) hl36 ⟨hE.sub ⟨rfl, rfl, rfl, rfl, rfl, rfl, rfl, rfl, trivial⟩, hM⟩ ?_
            rintro s38 a w ⟨hE, hM⟩ o41 hs39 hx40
            unfold L1_impl_DistinguishedBytes at hs39
            refine c_region ?_
            refine s_int hE goes_none (by decide) rfl rfl rfl ?_; intro a hE
            refine c_fin ?_
            refine wp_seq ?_
            refine c_cond hE rfl ?_ ?_
            · intro hb42
              have hs39 := ite_t hs39 hb42
              refine wp_skip ?_
              refine c_nx ?_
              refine wp_seq ?_
              refine wp_block ?_
              refine c_region ?_
              obtain ⟨x43, e44, hs39⟩ := bind_some hs39
              have hi45 := idx_some e44
              refine s_indexS hE goes_none (by decide) rfl rfl Try.underlying60 ty67 (hM.sl (pre := [_]) noB) hi45.1 ?_; intro a hE
              refine s_loadA (cs := Flat.enc x43) hE goes_none (by decide) rfl ty67 rfl (sl_atF (hM.sl (pre := [_]) noB) hi45.2) (Flat.len _) ?_; intro a hE
              refine s_alloc hE hM goes_none (by decide) ty67 ?_; intro b46 w a hM hE
              refine s_store (seg := Flat.enc x43) (cs' := Flat.enc x43) hE hM goes_none rfl rfl rfl ty67 (Flat.len _) (Nat.le_of_eq ((Nat.zero_add _).trans (Eq.trans (Flat.len _) (Eq.symm (Flat.len _))))) (Flat.cell _) (splice_all (Eq.trans (Flat.len _) (Eq.symm (Flat.len _)))) ?_; intro w a hM hE
              refine c_fin ?_
              refine wp_region_lit ?_
              refine s_move hE goes_none (by decide) rfl ?_; intro a hE
              obtain ⟨x49, e50, hs39⟩ := bind_some hs39
              have hi48 := vidx_some e50
              refine s_indexA hE goes_none (by decide) rfl rfl Try.underlying67 ty5 hi48.1 ?_; intro a hE
              refine s_load (v := (vB x49)) hE goes_none (by decide) rfl ty5 rfl (At.vec (hM.rawAt (pre := [])) hi48.2) ?_; intro a hE
              obtain ⟨x52, e53, hs39⟩ := bind_some hs39
              have hi51 := vidx_some e53
              refine s_indexA hE goes_none (by decide) rfl rfl Try.underlying112 ty4 hi51.1 ?_; intro a hE
              have hM := hM.pull (pre := [_])
              refine s_store (seg := [(vT true)]) (cs' := Flat.enc (s38.1.setIfInBounds ((bI x49)).toNat true)) hE hM goes_none rfl rfl rfl ty4 rfl (fit_vec (v := s38.1) (x := true) hi51.1) (Flat.cell (true : Bool)) (splice_vec0 (v := s38.1) (x := true) hi51.1) ?_; intro w a hM hE
              refine c_fin0 ?_
              refine c_nb ?_
              refine c_nx ?_
              refine wp_region_lit ?_
              refine s_int hE goes_none (by decide) rfl rfl rfl ?_; intro a hE
              refine s_move hE goes_none (by decide) rfl ?_; intro a hE
              refine c_fin0 ?_
              refine c_mid ?_
              have hM := hM.pull (pre := [_, _, _])
              have hM := hM.pull (pre := [_, _, _])
              have hM := hM.pull (pre := [_, _])
              have hM := M.fst (l := [_, _, _]) hM
              exact ⟨_, (Option.some.inj hs39).symm, hE.sub ⟨rfl, rfl, rfl, rfl, rfl, rfl, rfl, rfl, trivial⟩, hM⟩
            · intro hb42
              have hs39 := ite_f hs39 hb42
              refine wp_exit (e_then (e_then (e_eq ?_)))
              have ht54 := hx40 _ (Option.some.inj hs39).symm
              subst ht54
              refine c_mid ?_
              exact ⟨hE.sub ⟨rfl, rfl, rfl, rfl, rfl, trivial⟩, hM⟩
          · skip
            rintro a w ⟨hE, hM⟩
            refine c_nx ?_
            refine c_region ?_
            obtain ⟨l55, e56, hF37⟩ := bind_some hF37
            have hb57 := slc_arr e56 -- ^
            refine s_sliceArr (N := 256) hE goes_none (by decide) rfl rfl rfl rfl rfl Try.underlying112 ty4 hb57 ?_; intro a hE
            obtain ⟨r58, e59, hF37⟩ := bind_some hF37
            refine s_call (vs := [(sliceV (.slice (some ⟨b33, 0, none⟩) 256 256) ((0 : Int)).toNat ((256 : Int)).toNat 1), (vT false)]) hE goes_none (by decide) rfl cb112 (c_slices_Contains_bool_bool _ l55 (sliceV (.slice (some ⟨b33, 0, none⟩) 256 256) ((0 : Int)).toNat ((256 : Int)).toNat 1) (ro_slice (At.sat (hM.rawAt (pre := [])) (by simp) (by decide)) e56) false r58 e59) ?_
            rintro v w a ⟨rfl, hK⟩ hE
            have hM := hM.keep hK
            refine s_not hE goes_none (by decide) rfl ?_; intro a hE
            refine c_fin ?_
            obtain ⟨j60, hl61, hF62⟩ := bind_some hF37
            refine c_cut (fun a w => ∃ (u63 : Value), Env 57 a [(13, u13), (14, u63), (33, (vI s21.2))] ∧ M (Old w0) w0 w [osl NoB (r11 : List (Vector UInt8 16)) u13, osl NoB (j60 : List Int) u63]) ?_ ?_
            · skip
              refine c_cond hE rfl ?_ ?_
              · intro hb65
                have hl61 := ite_t hl61 hb65
                refine wp_region_lit ?_
                refine s_move hE goes_none (by decide) rfl ?_; intro a hE
                refine s_move hE goes_none (by decide) rfl ?_; intro a hE
                refine s_buildF (xs := [.tmp 52]) (l := ([s21.2] : List Int)) (vs := [(vI s21.2)]) hE hM goes_none (by decide) rfl rfl Try.underlying51 ty2 rfl (by decide) rfl ?_; intro u66 w a hM hE
                obtain ⟨l68, e69, hl61⟩ := bind_some hl61
                obtain ⟨e72, rfl⟩ := app_some e69
                have hM := hM.pull (pre := [_, _, _])
                refine s_appendF hE hM goes_none (by decide) rfl rfl (hM.sl (pre := [_]) noB) Try.underlying51 ty2 rfl (by decide) e72 ?_; intro u70 w a hM hE
                refine s_assign hE goes_none (by decide) rfl ?_; intro a hE
                refine c_fin0 ?_
                have ht73 := Option.some.inj hl61
                subst ht73
                refine c_mid ?_
                have hM := hM.pull (pre := [_, _, _])
                have hM := M.fst (l := [_, _]) hM
                exact ⟨u70, hE.sub ⟨rfl, rfl, rfl, trivial⟩, hM⟩
              · intro hb65
                have hl61 := ite_f hl61 hb65
                refine wp_skip ?_
                have ht74 := Option.some.inj hl61
                subst ht74
                refine c_mid ?_
                have hM := hM.pull (pre := [_, _])
                have hM := hM.pull (pre := [_, _])
                have hM := M.fst (l := [_, _]) hM
                exact ⟨u22, hE.sub ⟨rfl, rfl, rfl, trivial⟩, hM⟩
            · skip
              rintro a w ⟨u63, hE, hM⟩
              refine c_nb ?_
              have ht75 := Option.some.inj hF62
              subst ht75
              refine c_mid ?_
              exact ⟨u63, hE.sub ⟨rfl, rfl, rfl, trivial⟩, hM⟩
        · skip
          rintro a w ⟨u31, hE, hM⟩
          refine wp_region_lit ?_
          refine s_int hE goes_none (by decide) rfl rfl rfl ?_; intro a hE
          refine s_move hE goes_none (by decide) rfl ?_; intro a hE
          refine c_fin0 ?_
          refine c_mid ?_
          exact ⟨_, (Option.some.inj hF30).symm, u31, hE.sub ⟨rfl, rfl, rfl, trivial⟩, hM⟩
      · intro hb27
        have hs24 := ite_f hs24 hb27
        refine wp_exit (e_then (e_then (e_eq ?_)))
        have ht76 := hx25 _ (Option.some.inj hs24).symm
        subst ht76
        refine c_mid ?_
        have hM := hM.pull (pre := [_])
        have hM := M.fst (l := [_]) hM
        exact ⟨u22, hE.sub ⟨rfl, trivial⟩, hM⟩
    · skip
      rintro a w ⟨u19, hE, hM⟩
      refine c_nx ?_
      refine c_region ?_
      refine s_move hE goes_none (by decide) rfl ?_; intro a hE
      refine s_assign hE goes_none (by decide) rfl ?_; intro a hE
      refine s_assign hE goes_none (by decide) rfl ?_; intro a hE
      refine c_fin ?_
      have hr := Option.some.inj hF18
      subst hr
      exact wp_ret (k_ret2 hE rfl (res_tmp hE rfl) (res_tmp hE rfl) ⟨_, rfl, u19, rfl, hM.outF (locN1 locN0), hM.kept⟩)
noncomputable def L0_laws_eqInt64S (p0 : (List Int)) (p1 : (List Int)) (s6 : Int) : Option (Fl Int (Fl Unit Bool)) :=
  if (decide (s6 < (p0.length : Int))) = true then (((idx p0 s6).bind fun (x15 : Int) => (idx p1 s6).bind fun (x18 : Int) => some (x15 != x18) : Option (Bool)).bind fun (j11 : Bool) => if j11 = true then (some (Fl.ex (Fl.ex false))) else (some (Fl.nx (wr (s6 + 1))))) else (some (Fl.ex (Fl.nx ())))
noncomputable def F_laws_eqInt64S (p0 : (List Int)) (p1 : (List Int)) : Option (Bool) :=
  if ((p0.length : Int) != (p1.length : Int)) = true then (some false) else ((iter (L0_laws_eqInt64S p0 p1) 0 : Option (Fl Unit Bool)).bind fun (j2 : Fl Unit Bool) => j2.el (fun (s5 : Unit) => some true) (fun r => some r))
set_option maxRecDepth 20000 in
set_option maxHeartbeats 400000 in
theorem c_laws_eqInt64S (w0 : World) (p0 : (List Int)) (v0_1 : Value) (hv0_1 : Ro w0 p0 [v0_1]) (p1 : (List Int)) (v1_1 : Value) (hv1_1 : Ro w0 p1 [v1_1]) (r : Bool) (hF : F_laws_eqInt64S p0 p1 = some r) :
    Calls Try.prog 36 [v0_1, v1_1].toArray w0 (fun en w' => ∃ v, en = .returned v ∧ (v = (vT r) ∧ Kept (Old w0) w0 w')) := by
  refine c_enter (n := 26) Try.func36 rfl rfl (Nat.le_of_ble_eq_true rfl) rfl ?_
  intro a hE
  have hM := M.start w0
  unfold F_laws_eqInt64S at hF
  refine c_region ?_
  refine s_assign hE goes_none (by decide) rfl ?_; intro a hE
  refine c_fin ?_
  refine wp_seq ?_
  refine c_region ?_
  refine s_move hE goes_none (by decide) rfl ?_; intro a hE
  refine s_len hE goes_none (by decide) rfl Try.underlying51 (hM.rd hv0_1) ?_; intro a hE
  refine s_move hE goes_none (by decide) rfl ?_; intro a hE
  refine s_len hE goes_none (by decide) rfl Try.underlying51 (hM.rd hv1_1) ?_; intro a hE
  refine s_int hE goes_none (by decide) rfl rfl rfl ?_; intro a hE
  refine c_fin ?_
  refine c_cond hE rfl ?_ ?_
  · intro hb1
    have hF := ite_t hF hb1
    refine c_region ?_
    refine s_assign hE goes_none (by decide) rfl ?_; intro a hE
    refine c_fin ?_
    have hr := Option.some.inj hF
    subst hr
    exact wp_ret (r_then (k_ret1 hE rfl (res_tmp hE rfl) ⟨_, rfl, rfl, hM.kept⟩))
  · intro hb1
    have hF := ite_f hF hb1
    refine wp_skip ?_
    refine c_nx ?_
    refine wp_seq ?_
    refine c_region ?_
    refine s_assign hE goes_none (by decide) rfl ?_; intro a hE
    refine c_fin ?_
    obtain ⟨j2, hl3, hF4⟩ := bind_some hF
    refine c_cut (fun a w => ∃ s5 : Unit, j2 = Fl.nx s5 ∧ Env 26 a [] ∧ M (Old w0) w0 w []) ?_ ?_
    · skip
      refine wp_block ?_
      refine c_loop (fun (s6 : Int) a w => Env 26 a [(0, v0_1), (1, v1_1), (5, (vI s6))] ∧ M (Old w0) w0 w []) hl3 ⟨hE.sub ⟨rfl, rfl, rfl, trivial⟩, hM⟩ ?_
      rintro s6 a w ⟨hE, hM⟩ o9 hs7 hx8
      unfold L0_laws_eqInt64S at hs7
      refine wp_seq ?_
      refine c_region ?_
      refine s_move hE goes_none (by decide) rfl ?_; intro a hE
      refine s_move hE goes_none (by decide) rfl ?_; intro a hE
      refine s_len hE goes_none (by decide) rfl Try.underlying51 (hM.rd hv0_1) ?_; intro a hE
      refine s_int hE goes_none (by decide) rfl rfl rfl ?_; intro a hE
      refine c_fin ?_
      refine c_cond hE rfl ?_ ?_
      · intro hb10
        have hs7 := ite_t hs7 hb10
        refine wp_skip ?_
        refine c_nx ?_
        refine wp_seq ?_
        refine wp_block ?_
        obtain ⟨j11, hl12, hF13⟩ := bind_some hs7
        refine c_join (fun a w => Env 26 a [(0, v0_1), (1, v1_1), (5, (vI s6)), (25, (vT j11))] ∧ M (Old w0) w0 w []) ?_ ?_
        · skip
          obtain ⟨x15, e16, hl12⟩ := bind_some hl12
          have hi17 := idx_some e16
          obtain ⟨x18, e19, hl12⟩ := bind_some hl12
          have hi20 := idx_some e19
          refine c_draw (n := 26) (hd := [_, _, _, _, _, _, _, _, _]) (tl := []) hmix rfl rfl [17, 18, 19, 20, 21, 22, 23, 24, 25] (by decide) (fun w => M (Old w0) w0 w []) (fun j => ([fun v _ => v = v0_1, fun v _ => v = (vI s6), fun v _ => v = (ptr (sb v0_1) (so v0_1 + (s6).toNat * 1)), fun v _ => v = (vI x15), fun v _ => v = v1_1, fun v _ => v = (vI s6), fun v _ => v = (ptr (sb v1_1) (so v1_1 + (s6).toNat * 1)), fun v _ => v = (vI x18), fun v _ => v = (vT (x15 != x18))] : List (Value → World → Prop)).getD j (fun _ _ => True)) (fun _ _ h hk => h.keep hk) (gup (gupE (gupE (gupE (gupE (gupE (gupE (gupE (gupE (gupE gupN)))))))))) hE hM.drew (steps_of (steps_cons ?_ (steps_cons ?_ (steps_cons ?_ (steps_cons ?_ (steps_cons ?_ (steps_cons ?_ (steps_cons ?_ (steps_cons ?_ (steps_cons ?_ steps_nil)))))))))) ?_
          · intro a w ux14 hE hM hp
            refine s_move hE goes_none (by decide) rfl ?_; intro a hE
            exact ⟨Kept.refl _ _, _, _, rfl, hE, rfl⟩
          · intro a w ux14 hE hM hp
            refine s_move hE goes_none (by decide) rfl ?_; intro a hE
            exact ⟨Kept.refl _ _, _, _, rfl, hE, rfl⟩
          · intro a w ux14 hE hM hp
            have f0 : ux14 0 = v0_1 := hp 0 _ rfl rfl
            have f1 : ux14 1 = (vI s6) := hp 1 _ rfl rfl
            refine s_indexS hE goes_none (by decide) (lk rfl f0) (lk rfl f1) Try.underlying51 ty2 (hM.rd hv0_1) hi17.1 ?_; intro a hE
            exact ⟨Kept.refl _ _, _, _, rfl, hE, rfl⟩
          · intro a w ux14 hE hM hp
            have f2 : ux14 2 = (ptr (sb v0_1) (so v0_1 + (s6).toNat * 1)) := hp 0 _ rfl rfl
            refine s_load (v := (vI x15)) hE goes_none (by decide) (lk rfl f2) ty2 rfl (sl_atF (hM.rd hv0_1) hi17.2) ?_; intro a hE
            exact ⟨Kept.refl _ _, _, _, rfl, hE, rfl⟩
          · intro a w ux14 hE hM hp
            refine s_move hE goes_none (by decide) rfl ?_; intro a hE
            exact ⟨Kept.refl _ _, _, _, rfl, hE, rfl⟩
          · intro a w ux14 hE hM hp
            refine s_move hE goes_none (by decide) rfl ?_; intro a hE
            exact ⟨Kept.refl _ _, _, _, rfl, hE, rfl⟩
          · intro a w ux14 hE hM hp
            have f4 : ux14 4 = v1_1 := hp 0 _ rfl rfl
            have f5 : ux14 5 = (vI s6) := hp 1 _ rfl rfl
            refine s_indexS hE goes_none (by decide) (lk rfl f4) (lk rfl f5) Try.underlying51 ty2 (hM.rd hv1_1) hi20.1 ?_; intro a hE
            exact ⟨Kept.refl _ _, _, _, rfl, hE, rfl⟩
          · intro a w ux14 hE hM hp
            have f6 : ux14 6 = (ptr (sb v1_1) (so v1_1 + (s6).toNat * 1)) := hp 0 _ rfl rfl
            refine s_load (v := (vI x18)) hE goes_none (by decide) (lk rfl f6) ty2 rfl (sl_atF (hM.rd hv1_1) hi20.2) ?_; intro a hE
            exact ⟨Kept.refl _ _, _, _, rfl, hE, rfl⟩
          · intro a w ux14 hE hM hp
            have f3 : ux14 3 = (vI x15) := hp 0 _ rfl rfl
            have f7 : ux14 7 = (vI x18) := hp 1 _ rfl rfl
            refine s_int hE goes_none (by decide) (lk rfl f3) (lk rfl f7) rfl ?_; intro a hE
            exact ⟨Kept.refl _ _, _, _, rfl, hE, rfl⟩
          · intro a w ux14 hE hM hg
            have f0 : ux14 0 = v0_1 := hg 0 (by decide)
            have f1 : ux14 1 = (vI s6) := hg 1 (by decide)
            have f2 : ux14 2 = (ptr (sb v0_1) (so v0_1 + (s6).toNat * 1)) := hg 2 (by decide)
            have f3 : ux14 3 = (vI x15) := hg 3 (by decide)
            have f4 : ux14 4 = v1_1 := hg 4 (by decide)
            have f5 : ux14 5 = (vI s6) := hg 5 (by decide)
            have f6 : ux14 6 = (ptr (sb v1_1) (so v1_1 + (s6).toNat * 1)) := hg 6 (by decide)
            have f7 : ux14 7 = (vI x18) := hg 7 (by decide)
            have f8 : ux14 8 = (vT (x15 != x18)) := hg 8 (by decide)
            have hE := hE.sub (e' := [(17, v0_1), (18, (vI s6)), (19, (ptr (sb v0_1) (so v0_1 + (s6).toNat * 1))), (20, (vI x15)), (21, v1_1), (22, (vI s6)), (23, (ptr (sb v1_1) (so v1_1 + (s6).toNat * 1))), (24, (vI x18)), (25, (vT (x15 != x18))), (0, v0_1), (1, v1_1), (5, (vI s6)), (11, (vI s6)), (12, v0_1), (13, (vI (p0.length : Int))), (14, (vT (decide (s6 < (p0.length : Int)))))]) ⟨lk rfl f0, lk rfl f1, lk rfl f2, lk rfl f3, lk rfl f4, lk rfl f5, lk rfl f6, lk rfl f7, lk rfl f8, rfl, rfl, rfl, rfl, rfl, rfl, rfl, trivial⟩
            refine c_fin0 ?_
            have ht21 := Option.some.inj hl12
            subst ht21
            refine c_mid ?_
            exact ⟨hE.sub ⟨rfl, rfl, rfl, rfl, trivial⟩, hM⟩
        · skip
          rintro a w ⟨hE, hM⟩
          refine c_cond hE rfl ?_ ?_
          · intro hb22
            have hF13 := ite_t hF13 hb22
            refine c_region ?_
            refine s_assign hE goes_none (by decide) rfl ?_; intro a hE
            refine c_fin ?_
            have ht23 := hx8 _ (Option.some.inj hF13).symm
            subst ht23
            have hr := Option.some.inj hF4
            subst hr
            exact wp_ret (r_inb (r_then (r_then (r_inb (r_then (r_then (k_ret1 hE rfl (res_tmp hE rfl) ⟨_, rfl, rfl, hM.kept⟩)))))))
          · intro hb22
            have hF13 := ite_f hF13 hb22
            refine wp_skip ?_
            refine c_nb ?_
            refine c_nx ?_
            refine wp_region_lit ?_
            refine s_move hE goes_none (by decide) rfl ?_; intro a hE
            refine s_int hE goes_none (by decide) rfl rfl rfl ?_; intro a hE
            refine s_assign hE goes_none (by decide) rfl ?_; intro a hE
            refine c_fin0 ?_
            refine c_mid ?_
            exact ⟨_, (Option.some.inj hF13).symm, hE.sub ⟨rfl, rfl, rfl, trivial⟩, hM⟩
      · intro hb10
        have hs7 := ite_f hs7 hb10
        refine wp_exit (e_then (e_then (e_eq ?_)))
        have ht24 := hx8 _ (Option.some.inj hs7).symm
        subst ht24
        refine c_mid ?_
        exact ⟨(), rfl, hE.sub trivial, hM⟩
    · skip
      rintro a w ⟨s5, ht, hE, hM⟩
      subst ht
      have hF4 := el_nx hF4
      refine c_nx ?_
      refine c_region ?_
      refine s_assign hE goes_none (by decide) rfl ?_; intro a hE
      refine c_fin ?_
      have hr := Option.some.inj hF4
      subst hr
      exact wp_ret (k_ret1 hE rfl (res_tmp hE rfl) ⟨_, rfl, rfl, hM.kept⟩)
noncomputable def L0_laws_markInt64S (s4 : (List Int) × Int × Int) : Option (Fl ((List Int) × Int × Int) ((List Int) × Int)) :=
  if (decide (s4.2.2 < (s4.1.length : Int))) = true then ((idx s4.1 s4.2.2).bind fun (x9 : Int) => some (Fl.nx ((s4.1.set (s4.2.2).toNat s4.2.1), wr (s4.2.1 + 1), wr (s4.2.2 + 1)))) else (some (Fl.ex (s4.1, s4.2.1)))
noncomputable def F_laws_markInt64S (p0 : (List Int)) (p1 : Int) : Option ((List Int) × Int) :=
  (iter (L0_laws_markInt64S) (p0, p1, 0) : Option ((List Int) × Int)).bind fun (j1 : (List Int) × Int) => some (j1.1, j1.2)
set_option maxRecDepth 20000 in
set_option maxHeartbeats 400000 in
theorem c_laws_markInt64S (St : Nat → Prop) (W w0 : World) (its : List Item) (p0 : (List Int)) (v0_1 : Value) (p1 : Int) (hM : M St W w0 (own NoB (p0 : (List Int)) [v0_1] :: its)) (r : (List Int) × Int) (hF : F_laws_markInt64S p0 p1 = some r) :
    Calls Try.prog 39 [v0_1, (vI p1)].toArray w0 (fun en w' => ∃ v, en = .returned v ∧ (v = (vI r.2) ∧ M St W w' (own NoB (r.1 : (List Int)) [v0_1] :: its))) := by
  refine c_enter (n := 19) Try.func39 rfl rfl (Nat.le_of_ble_eq_true rfl) rfl ?_
  intro a hE
  unfold F_laws_markInt64S at hF
  refine c_region ?_
  refine s_assign hE goes_none (by decide) rfl ?_; intro a hE
  refine c_fin ?_
  refine wp_seq ?_
  refine c_region ?_
  refine s_assign hE goes_none (by decide) rfl ?_; intro a hE
  refine c_fin ?_
  obtain ⟨j1, hl2, hF3⟩ := bind_some hF
  refine c_cut (fun a w => Env 19 a [(0, v0_1), (1, (vI j1.2))] ∧ M St W w (own NoB (j1.1 : (List Int)) [v0_1] :: its)) ?_ ?_
  · skip
    refine wp_block ?_
    refine c_loop (fun (s4 : (List Int) × Int × Int) a w => Env 19 a [(0, v0_1), (1, (vI s4.2.1)), (5, (vI s4.2.2))] ∧ M St W w (own NoB (s4.1 : (List Int)) [v0_1] :: its)) hl2 ⟨hE.sub ⟨rfl, rfl, rfl, trivial⟩, hM⟩ ?_
    rintro s4 a w ⟨hE, hM⟩ o7 hs5 hx6
    unfold L0_laws_markInt64S at hs5
    refine wp_seq ?_
    refine c_region ?_
    refine s_move hE goes_none (by decide) rfl ?_; intro a hE
    refine s_move hE goes_none (by decide) rfl ?_; intro a hE
    refine s_len hE goes_none (by decide) rfl Try.underlying51 (hM.ro (pre := []) noB) ?_; intro a hE
    refine s_int hE goes_none (by decide) rfl rfl rfl ?_; intro a hE
    refine c_fin ?_
    refine c_cond hE rfl ?_ ?_
    · intro hb8
      have hs5 := ite_t hs5 hb8
      refine wp_skip ?_
      refine c_nx ?_
      refine wp_seq ?_
      refine wp_block ?_
      refine c_region ?_
      refine s_move hE goes_none (by decide) rfl ?_; intro a hE
      refine s_move hE goes_none (by decide) rfl ?_; intro a hE
      refine s_move hE goes_none (by decide) rfl ?_; intro a hE
      obtain ⟨x9, e10, hs5⟩ := bind_some hs5
      have hi11 := idx_some e10
      refine s_indexS hE goes_none (by decide) rfl rfl Try.underlying51 ty2 (hM.ro (pre := []) noB) hi11.1 ?_; intro a hE
      have hM := hM.toOsl (List.getElem?_eq_some_iff.1 hi11.2).1
      refine s_storeS (i := (s4.2.2).toNat) (k0 := 0) (seg := [(vI s4.2.1)]) (xo := x9) (xn := s4.2.1) hE hM goes_none rfl rfl rfl ty2 rfl (Flat.cell (s4.2.1 : Int)) hi11.2 (fit_num (m := 1) rfl (by decide)) (splice_all (Eq.trans rfl (Eq.symm rfl))) ?_; intro w a hM hE
      have hM := hM.toOwn noB
      refine c_fin ?_
      refine wp_region_lit ?_
      refine s_move hE goes_none (by decide) rfl ?_; intro a hE
      refine s_int hE goes_none (by decide) rfl rfl rfl ?_; intro a hE
      refine s_assign hE goes_none (by decide) rfl ?_; intro a hE
      refine c_fin0 ?_
      refine c_nb ?_
      refine c_nx ?_
      refine wp_region_lit ?_
      refine s_move hE goes_none (by decide) rfl ?_; intro a hE
      refine s_int hE goes_none (by decide) rfl rfl rfl ?_; intro a hE
      refine s_assign hE goes_none (by decide) rfl ?_; intro a hE
      refine c_fin0 ?_
      refine c_mid ?_
      exact ⟨_, (Option.some.inj hs5).symm, hE.sub ⟨rfl, rfl, rfl, trivial⟩, hM⟩
    · intro hb8
      have hs5 := ite_f hs5 hb8
      refine wp_exit (e_then (e_then (e_eq ?_)))
      have ht12 := hx6 _ (Option.some.inj hs5).symm
      subst ht12
      refine c_mid ?_
      exact ⟨hE.sub ⟨rfl, rfl, trivial⟩, hM⟩
  · skip
    rintro a w ⟨hE, hM⟩
    refine c_nx ?_
    refine c_region ?_
    refine s_move hE goes_none (by decide) rfl ?_; intro a hE
    refine s_assign hE goes_none (by decide) rfl ?_; intro a hE
    refine c_fin ?_
    have hr := Option.some.inj hF3
    subst hr
    exact wp_ret (k_ret1 hE (by rfl) (res_tmp hE rfl) ⟨_, rfl, rfl, hM⟩)
noncomputable def L0_laws_heldInt64S (p0 : (List Int)) (s5 : Int × Int) : Option (Fl (Int × Int) (Fl Int Int)) :=
  if (decide (s5.2 < (p0.length : Int))) = true then ((idx p0 s5.2).bind fun (x10 : Int) => if (x10 != s5.1) = true then (some (Fl.ex (Fl.ex (-1)))) else (some (Fl.nx (wr (s5.1 + 1), wr (s5.2 + 1))))) else (some (Fl.ex (Fl.nx s5.1)))
noncomputable def F_laws_heldInt64S (p0 : (List Int)) (p1 : Int) : Option (Int) :=
  (iter (L0_laws_heldInt64S p0) (p1, 0) : Option (Fl Int Int)).bind fun (j1 : Fl Int Int) => j1.el (fun (s4 : Int) => some s4) (fun r => some r)
set_option maxRecDepth 20000 in
set_option maxHeartbeats 400000 in
theorem c_laws_heldInt64S (w0 : World) (p0 : (List Int)) (v0_1 : Value) (hv0_1 : Ro w0 p0 [v0_1]) (p1 : Int) (r : Int) (hF : F_laws_heldInt64S p0 p1 = some r) :
    Calls Try.prog 40 [v0_1, (vI p1)].toArray w0 (fun en w' => ∃ v, en = .returned v ∧ (v = (vI r) ∧ Kept (Old w0) w0 w')) := by
  refine c_enter (n := 21) Try.func40 rfl rfl (Nat.le_of_ble_eq_true rfl) rfl ?_
  intro a hE
  have hM := M.start w0
  unfold F_laws_heldInt64S at hF
  refine c_region ?_
  refine s_assign hE goes_none (by decide) rfl ?_; intro a hE
  refine c_fin ?_
  refine wp_seq ?_
  refine c_region ?_
  refine s_assign hE goes_none (by decide) rfl ?_; intro a hE
  refine c_fin ?_
  obtain ⟨j1, hl2, hF3⟩ := bind_some hF
  refine c_cut (fun a w => ∃ s4 : Int, j1 = Fl.nx s4 ∧ Env 21 a [(1, (vI s4))] ∧ M (Old w0) w0 w []) ?_ ?_
  · skip
    refine wp_block ?_
    refine c_loop (fun (s5 : Int × Int) a w => Env 21 a [(0, v0_1), (1, (vI s5.1)), (5, (vI s5.2))] ∧ M (Old w0) w0 w []) hl2 ⟨hE.sub ⟨rfl, rfl, rfl, trivial⟩, hM⟩ ?_
    rintro s5 a w ⟨hE, hM⟩ o8 hs6 hx7
    unfold L0_laws_heldInt64S at hs6
    refine wp_seq ?_
    refine c_region ?_
    refine s_move hE goes_none (by decide) rfl ?_; intro a hE
    refine s_move hE goes_none (by decide) rfl ?_; intro a hE
    refine s_len hE goes_none (by decide) rfl Try.underlying51 (hM.rd hv0_1) ?_; intro a hE
    refine s_int hE goes_none (by decide) rfl rfl rfl ?_; intro a hE
    refine c_fin ?_
    refine c_cond hE rfl ?_ ?_
    · intro hb9
      have hs6 := ite_t hs6 hb9
      refine wp_skip ?_
      refine c_nx ?_
      refine wp_seq ?_
      refine wp_block ?_
      refine wp_seq ?_
      refine c_region ?_
      refine s_move hE goes_none (by decide) rfl ?_; intro a hE
      refine s_move hE goes_none (by decide) rfl ?_; intro a hE
      obtain ⟨x10, e11, hs6⟩ := bind_some hs6
      have hi12 := idx_some e11
      refine s_indexS hE goes_none (by decide) rfl rfl Try.underlying51 ty2 (hM.rd hv0_1) hi12.1 ?_; intro a hE
      refine s_load (v := (vI x10)) hE goes_none (by decide) rfl ty2 rfl (sl_atF (hM.rd hv0_1) hi12.2) ?_; intro a hE
      refine s_move hE goes_none (by decide) rfl ?_; intro a hE
      refine s_int hE goes_none (by decide) rfl rfl rfl ?_; intro a hE
      refine c_fin ?_
      refine c_cond hE rfl ?_ ?_
      · intro hb13
        have hs6 := ite_t hs6 hb13
        refine c_region ?_
        refine s_assign hE goes_none (by decide) rfl ?_; intro a hE
        refine c_fin ?_
        have ht14 := hx7 _ (Option.some.inj hs6).symm
        subst ht14
        have hr := Option.some.inj hF3
        subst hr
        exact wp_ret (r_then (r_inb (r_then (r_then (r_inb (r_then (r_then (k_ret1 hE rfl (res_tmp hE rfl) ⟨_, rfl, rfl, hM.kept⟩))))))))
      · intro hb13
        have hs6 := ite_f hs6 hb13
        refine wp_skip ?_
        refine c_nx ?_
        refine wp_region_lit ?_
        refine s_move hE goes_none (by decide) rfl ?_; intro a hE
        refine s_int hE goes_none (by decide) rfl rfl rfl ?_; intro a hE
        refine s_assign hE goes_none (by decide) rfl ?_; intro a hE
        refine c_fin0 ?_
        refine c_nb ?_
        refine c_nx ?_
        refine wp_region_lit ?_
        refine s_move hE goes_none (by decide) rfl ?_; intro a hE
        refine s_int hE goes_none (by decide) rfl rfl rfl ?_; intro a hE
        refine s_assign hE goes_none (by decide) rfl ?_; intro a hE
        refine c_fin0 ?_
        refine c_mid ?_
        exact ⟨_, (Option.some.inj hs6).symm, hE.sub ⟨rfl, rfl, rfl, trivial⟩, hM⟩
    · intro hb9
      have hs6 := ite_f hs6 hb9
      refine wp_exit (e_then (e_then (e_eq ?_)))
      have ht15 := hx7 _ (Option.some.inj hs6).symm
      subst ht15
      refine c_mid ?_
      exact ⟨s5.1, rfl, hE.sub ⟨rfl, trivial⟩, hM⟩
  · skip
    rintro a w ⟨s4, ht, hE, hM⟩
    subst ht
    have hF3 := el_nx hF3
    refine c_nx ?_
    refine c_region ?_
    refine s_move hE goes_none (by decide) rfl ?_; intro a hE
    refine s_assign hE goes_none (by decide) rfl ?_; intro a hE
    refine c_fin ?_
    have hr := Option.some.inj hF3
    subst hr
    exact wp_ret (k_ret1 hE rfl (res_tmp hE rfl) ⟨_, rfl, rfl, hM.kept⟩)
noncomputable def F_laws_FnExactDistinguishedBytes (p0 : GCipher) (p1 : (Vector UInt8 16)) (p2 : (Vector UInt8 16)) (p3 : Int) (p4 : Int) : Option (Bool) :=
  ((F_laws_toCipher p0).bind fun (r13 : GCipher) => (F_laws_toBlock p1).bind fun (r15 : (Vector UInt8 16)) => (F_laws_toBlock p2).bind fun (r17 : (Vector UInt8 16)) => (F_spec_DistinguishedBytes r13 r15 r17 p3 p4).bind fun (r19 : (List Int) × Int) => some (r19.1, r19.2) : Option ((List Int) × Int)).bind fun (j7 : (List Int) × Int) => ((F_laws_toCipher p0).bind fun (r29 : GCipher) => (F_laws_toBlock p1).bind fun (r31 : (Vector UInt8 16)) => (F_laws_toBlock p2).bind fun (r33 : (Vector UInt8 16)) => (F_impl_DistinguishedBytes r29 r31 r33 p3 p4).bind fun (r35 : (List Int) × Int) => some (r35.1, r35.2) : Option ((List Int) × Int)).bind fun (j23 : (List Int) × Int) => ((F_laws_eqInt64S j23.1 j7.1).bind fun (r42 : Bool) => if (!r42) = true then (some true) else (some (j23.2 != j7.2)) : Option (Bool)).bind fun (j39 : Bool) => if j39 = true then (some false) else ((F_laws_markInt64S j23.1 1).bind fun (r48 : (List Int) × Int) => (F_laws_heldInt64S r48.1 1).bind fun (r50 : Int) => if (decide (r50 < 0)) = true then (some false) else (if (r50 != r48.2) = true then (some false) else (((F_laws_toCipher p0).bind fun (r60 : GCipher) => (F_laws_toBlock p1).bind fun (r62 : (Vector UInt8 16)) => (F_laws_toBlock p2).bind fun (r64 : (Vector UInt8 16)) => (F_impl_DistinguishedBytes r60 r62 r64 p3 p4).bind fun (r66 : (List Int) × Int) => some (r66.1, r66.2) : Option ((List Int) × Int)).bind fun (j54 : (List Int) × Int) => ((F_laws_eqInt64S j54.1 j7.1).bind fun (r73 : Bool) => if (!r73) = true then (some true) else (some (j54.2 != j7.2)) : Option (Bool)).bind fun (j70 : Bool) => if j70 = true then (some false) else ((F_laws_heldInt64S r48.1 1).bind fun (r79 : Int) => if (decide (r79 < 0)) = true then (some false) else (if (r79 != r48.2) = true then (some false) else (some true))))))
end Go.Proofs.Ythlmkdjednppkaa
