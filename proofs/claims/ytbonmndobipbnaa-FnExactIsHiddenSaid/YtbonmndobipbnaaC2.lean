/- The walk of what the law reaches: contracts of functions. -/
import Derived.Test.YtbonmndobipbnaaC1
set_option linter.unusedVariables false
set_option linter.unusedSimpArgs false
namespace Go.Proofs.Ytbonmndobipbnaa
open Go
set_option maxRecDepth 20000 in
set_option maxHeartbeats 400000 in
theorem c_impl_areDifferent (w0 : World) (p0 : (List UInt8)) (v0_1 : Value) (hv0_1 : Ro w0 p0 [v0_1]) (r : Bool) (hF : F_impl_areDifferent p0 = some r) :
    Calls Try.prog 61 [v0_1].toArray w0 (fun en w' => ∃ v, en = .returned v ∧ (v = (vT r) ∧ Kept (Old w0) w0 w')) := by
  refine c_enter (n := 19) Try.func61 rfl rfl (Nat.le_of_ble_eq_true rfl) rfl ?_
  intro a hE
  have hM := M.start w0
  unfold F_impl_areDifferent at hF
  refine c_region ?_
  refine s_assign hE goes_none (by decide) rfl ?_; intro a hE
  refine c_fin ?_
  refine wp_seq ?_
  refine c_region ?_
  refine s_move hE goes_none (by decide) rfl ?_; intro a hE
  refine s_len hE goes_none (by decide) rfl Try.underlying29 (hM.rd hv0_1) ?_; intro a hE
  refine s_move hE goes_none (by decide) rfl ?_; intro a hE
  refine c_fin ?_
  obtain ⟨j1, hl2, hF3⟩ := bind_some hF
  refine c_cut (fun a w => ∃ s4 : Unit, j1 = Fl.nx s4 ∧ Env 19 a [] ∧ M (Old w0) w0 w []) ?_ ?_
  · skip
    refine wp_block ?_
    refine c_loop (fun (s5 : Int) a w => Env 19 a [(0, v0_1), (5, v0_1), (6, (vI (p0.length : Int))), (7, (vI s5))] ∧ M (Old w0) w0 w []) hl2 ⟨hE.sub ⟨rfl, rfl, rfl, rfl, trivial⟩, hM⟩ ?_
    rintro s5 a w ⟨hE, hM⟩ o8 hs6 hx7
    unfold L0_impl_areDifferent at hs6
    refine c_region ?_
    refine s_int hE goes_none (by decide) rfl rfl rfl ?_; intro a hE
    refine c_fin ?_
    refine wp_seq ?_
    refine c_cond hE rfl ?_ ?_
    · intro hb9
      have hs6 := ite_t hs6 hb9
      refine wp_skip ?_
      refine c_nx ?_
      refine wp_seq ?_
      refine wp_block ?_
      refine c_region ?_
      refine s_move hE goes_none (by decide) rfl ?_; intro a hE
      obtain ⟨x10, e11, hs6⟩ := bind_some hs6
      have hi12 := idx_some e11
      refine s_indexS hE goes_none (by decide) rfl rfl Try.underlying29 ty5 (hM.rd hv0_1) hi12.1 ?_; intro a hE
      refine s_load (v := (vB x10)) hE goes_none (by decide) rfl ty5 rfl (sl_atF (hM.rd hv0_1) hi12.2) ?_; intro a hE
      refine s_assign hE goes_none (by decide) rfl ?_; intro a hE
      refine s_assign hE goes_none (by decide) rfl ?_; intro a hE
      refine c_fin ?_
      refine c_region ?_
      refine s_move hE goes_none (by decide) rfl ?_; intro a hE
      refine s_move hE goes_none (by decide) rfl ?_; intro a hE
      obtain ⟨l13, e14, hs6⟩ := bind_some hs6
      refine s_slice hE goes_none (by decide) rfl rfl rfl rfl rfl Try.underlying29 ty5 (hM.rd hv0_1) e14 ?_; intro a hE
      have h15 : Rep.sat (Old w0) w0 l13 [(sliceV v0_1 ((0 : Int)).toNat (s5).toNat 1)] [] := ro_slice hv0_1 e14 -- ^
      refine s_move hE goes_none (by decide) rfl ?_; intro a hE
      obtain ⟨r16, e17, hs6⟩ := bind_some hs6
      refine s_call (vs := [(sliceV v0_1 ((0 : Int)).toNat (s5).toNat 1), (vB x10)]) hE goes_none (by decide) rfl cb116 (c_bytes_IndexByte _ l13 (sliceV v0_1 ((0 : Int)).toNat (s5).toNat 1) (hM.rdo h15) x10 r16 e17) ?_
      rintro v w a ⟨rfl, hK⟩ hE
      have hM := hM.keep hK
      refine s_int hE goes_none (by decide) rfl rfl rfl ?_; intro a hE
      refine c_fin ?_
      refine c_cond hE rfl ?_ ?_
      · intro hb18
        have hs6 := ite_t hs6 hb18
        refine c_region ?_
        refine s_assign hE goes_none (by decide) rfl ?_; intro a hE
        refine c_fin ?_
        have ht19 := hx7 _ (Option.some.inj hs6).symm
        subst ht19
        have hr := Option.some.inj hF3
        subst hr
        exact wp_ret (r_inb (r_then (r_then (r_inb (r_then (r_then (k_ret1 hE rfl (res_tmp hE rfl) ⟨_, rfl, rfl, hM.kept⟩)))))))
      · intro hb18
        have hs6 := ite_f hs6 hb18
        refine wp_skip ?_
        refine c_nb ?_
        refine c_nx ?_
        refine wp_region_lit ?_
        refine s_int hE goes_none (by decide) rfl rfl rfl ?_; intro a hE
        refine s_move hE goes_none (by decide) rfl ?_; intro a hE
        refine c_fin0 ?_
        refine c_mid ?_
        exact ⟨_, (Option.some.inj hs6).symm, hE.sub ⟨rfl, rfl, rfl, rfl, trivial⟩, hM⟩
    · intro hb9
      have hs6 := ite_f hs6 hb9
      refine wp_exit (e_then (e_then (e_eq ?_)))
      have ht20 := hx7 _ (Option.some.inj hs6).symm
      subst ht20
      refine c_mid ?_
      exact ⟨(), rfl, hE.sub trivial, hM⟩
  · skip
    rintro a w ⟨s4, ht, hE, hM⟩
    subst ht
    have hF3 := el_nx hF3
    refine c_nx ?_
    refine c_region ?_
    refine s_assign hE goes_none (by decide) rfl ?_; intro a hE
    refine c_fin ?_
    have hr := Option.some.inj hF3
    subst hr
    exact wp_ret (k_ret1 hE rfl (res_tmp hE rfl) ⟨_, rfl, rfl, hM.kept⟩)
noncomputable def F_impl_length_impl_Share (p0 : (List GShare)) : Option (Int) :=
  some (p0.length : Int)
set_option maxRecDepth 20000 in
set_option maxHeartbeats 400000 in
theorem c_impl_length_impl_Share (w0 : World) (p0 : (List GShare)) (v0_1 : Value) (hv0_1 : Ro w0 p0 [v0_1]) (r : Int) (hF : F_impl_length_impl_Share p0 = some r) :
    Calls Try.prog 57 [v0_1].toArray w0 (fun en w' => ∃ v, en = .returned v ∧ (v = (vI r) ∧ Kept (Old w0) w0 w')) := by
  refine c_enter (n := 5) Try.func57 rfl rfl (Nat.le_of_ble_eq_true rfl) rfl ?_
  intro a hE
  have hM := M.start w0
  unfold F_impl_length_impl_Share at hF
  refine c_region ?_
  refine s_assign hE goes_none (by decide) rfl ?_; intro a hE
  refine c_fin ?_
  refine c_region ?_
  refine s_move hE goes_none (by decide) rfl ?_; intro a hE
  refine s_len hE goes_none (by decide) rfl Try.underlying25 (hM.rd hv0_1) ?_; intro a hE
  refine s_assign hE goes_none (by decide) rfl ?_; intro a hE
  refine c_fin ?_
  have hr := Option.some.inj hF
  subst hr
  exact wp_ret (k_ret1 hE rfl (res_tmp hE rfl) ⟨_, rfl, rfl, hM.kept⟩)
noncomputable def F_impl_areEven_1 (p0 : GShare) (p1 : (List GShare)) : Option (Bool) :=
  ((idx p1 (0 : Int)).bind fun (x7 : GShare) => some ((p0.Data.length : Int) != (x7.Data.length : Int)) : Option (Bool)).bind fun (j3 : Bool) => some j3
set_option maxRecDepth 20000 in
set_option maxHeartbeats 400000 in
theorem c_impl_areEven_1 (w0 : World) (p0 : GShare) (v0_1 : Value) (hv0_1 : Ro w0 p0.Data [v0_1]) (pb1 : Nat) (p1 : (List GShare)) (v1_2 : Value) (hv1_2 : Ro w0 p1 [v1_2]) (hA1 : At w0 pb1 0 ([v1_2])) (hB1 : Old w0 pb1) (r : Bool) (hF : F_impl_areEven_1 p0 p1 = some r) :
    Calls Try.prog 117 [(Value.agg (cat [[(vB p0.Place)], [v0_1]]).toArray), (ptr pb1 0)].toArray w0 (fun en w' => ∃ v, en = .returned v ∧ (v = (vT r) ∧ Kept (Old w0) w0 w')) := by
  refine c_enter (n := 13) Try.func117 rfl rfl (Nat.le_of_ble_eq_true rfl) rfl ?_
  intro a hE
  have hM := M.start w0
  unfold F_impl_areEven_1 at hF
  refine c_region ?_
  refine s_box (cs := cat [[(vB p0.Place)], [v0_1]]) hE hM goes_none (by decide) rfl rfl ?_; intro b1 w a hM hE
  refine s_assign hE goes_none (by decide) rfl ?_; intro a hE
  refine c_fin ?_
  obtain ⟨j3, hl4, hF5⟩ := bind_some hF
  refine c_join (fun a w => Env 13 a [(3, (vT j3))] ∧ M (Old w0) w0 w []) ?_ ?_
  · skip
    obtain ⟨x7, e8, hl4⟩ := bind_some hl4
    have hi9 := idx_some e8
    obtain ⟨cs10, hs11, hA12⟩ := sl_atRo hv1_2 hi9.2 -- ^
    obtain ⟨u13, rfl, h14⟩ := un_GShare hs11 -- ^
    refine c_draw (n := 13) (hd := [_, _, _, _, _, _, _, _, _, _]) (tl := []) hmix rfl rfl [4, 5, 6, 7, 8, 9, 10, 11, 12, 3] (by decide) (fun w => M (Old w0) w0 w [raw b1 (cat [[(vB p0.Place)], [v0_1]])]) (fun j => ([fun v _ => v = (ptr b1 (0 + 1)), fun v _ => v = v0_1, fun v _ => v = (vI (p0.Data.length : Int)), fun v _ => v = v1_2, fun v _ => v = (ptr (sb v1_2) (so v1_2 + ((0 : Int)).toNat * 2)), fun v _ => v = (ptr (sb v1_2) (so v1_2 + ((0 : Int)).toNat * 2 + 1)), fun v _ => v = u13, fun v _ => v = (vI (x7.Data.length : Int)), fun v _ => v = (vT ((p0.Data.length : Int) != (x7.Data.length : Int))), fun v _ => v = (vT ((p0.Data.length : Int) != (x7.Data.length : Int)))] : List (Value → World → Prop)).getD j (fun _ _ => True)) (fun _ _ h hk => h.keep hk) (gup (gupE (gupE (gupE (gupE (gupE (gupE (gupE (gupE (gupE (gupE gupN))))))))))) hE hM.drew (steps_of (steps_cons ?_ (steps_cons ?_ (steps_cons ?_ (steps_cons ?_ (steps_cons ?_ (steps_cons ?_ (steps_cons ?_ (steps_cons ?_ (steps_cons ?_ (steps_cons ?_ steps_nil))))))))))) ?_
    · intro a w ux6 hE hM hp
      refine s_fieldAddr hE goes_none (by decide) rfl (fd81_1) ?_; intro a hE
      exact ⟨Kept.refl _ _, _, _, rfl, hE, rfl⟩
    · intro a w ux6 hE hM hp
      have f0 : ux6 0 = (ptr b1 (0 + 1)) := hp 0 _ rfl rfl
      refine s_load (v := v0_1) hE goes_none (by decide) (lk rfl f0) ty29 rfl (At.cat (pre := [[(vB p0.Place)]]) (seg := [v0_1]) (post := []) (hM.rawAt (pre := [])) (cl1 (n := 1) (m := 0) rfl cl0)) ?_; intro a hE
      exact ⟨Kept.refl _ _, _, _, rfl, hE, rfl⟩
    · intro a w ux6 hE hM hp
      have f1 : ux6 1 = v0_1 := hp 0 _ rfl rfl
      refine s_len hE goes_none (by decide) (lk rfl f1) Try.underlying29 (hM.rd hv0_1) ?_; intro a hE
      exact ⟨Kept.refl _ _, _, _, rfl, hE, rfl⟩
    · intro a w ux6 hE hM hp
      refine s_load (v := v1_2) hE goes_none (by decide) rfl ty25 rfl (hM.atk hA1 hB1) ?_; intro a hE
      exact ⟨Kept.refl _ _, _, _, rfl, hE, rfl⟩
    · intro a w ux6 hE hM hp
      have f3 : ux6 3 = v1_2 := hp 0 _ rfl rfl
      refine s_indexS hE goes_none (by decide) (lk rfl f3) rfl Try.underlying25 ty81 (hM.rd hv1_2) hi9.1 ?_; intro a hE
      exact ⟨Kept.refl _ _, _, _, rfl, hE, rfl⟩
    · intro a w ux6 hE hM hp
      have f4 : ux6 4 = (ptr (sb v1_2) (so v1_2 + ((0 : Int)).toNat * 2)) := hp 0 _ rfl rfl
      refine s_fieldAddr hE goes_none (by decide) (lk rfl f4) (fd81_1) ?_; intro a hE
      exact ⟨Kept.refl _ _, _, _, rfl, hE, rfl⟩
    · intro a w ux6 hE hM hp
      have f5 : ux6 5 = (ptr (sb v1_2) (so v1_2 + ((0 : Int)).toNat * 2 + 1)) := hp 0 _ rfl rfl
      refine s_load (v := u13) hE goes_none (by decide) (lk rfl f5) ty29 rfl (At.cat (pre := [[(vB x7.Place)]]) (seg := [u13]) (post := []) (hM.atk hA12 (sl_blk hv1_2 hi9.2)) (cl1 (n := 1) (m := 0) rfl cl0)) ?_; intro a hE
      exact ⟨Kept.refl _ _, _, _, rfl, hE, rfl⟩
    · intro a w ux6 hE hM hp
      have f6 : ux6 6 = u13 := hp 0 _ rfl rfl
      refine s_len hE goes_none (by decide) (lk rfl f6) Try.underlying29 (hM.rd h14) ?_; intro a hE
      exact ⟨Kept.refl _ _, _, _, rfl, hE, rfl⟩
    · intro a w ux6 hE hM hp
      have f2 : ux6 2 = (vI (p0.Data.length : Int)) := hp 0 _ rfl rfl
      have f7 : ux6 7 = (vI (x7.Data.length : Int)) := hp 1 _ rfl rfl
      refine s_int hE goes_none (by decide) (lk rfl f2) (lk rfl f7) rfl ?_; intro a hE
      exact ⟨Kept.refl _ _, _, _, rfl, hE, rfl⟩
    · intro a w ux6 hE hM hp
      have f8 : ux6 8 = (vT ((p0.Data.length : Int) != (x7.Data.length : Int))) := hp 0 _ rfl rfl
      refine s_assign hE goes_none (by decide) (lk rfl f8) ?_; intro a hE
      exact ⟨Kept.refl _ _, _, _, rfl, hE, rfl⟩
    · intro a w ux6 hE hM hg
      have f0 : ux6 0 = (ptr b1 (0 + 1)) := hg 0 (by decide)
      have f1 : ux6 1 = v0_1 := hg 1 (by decide)
      have f2 : ux6 2 = (vI (p0.Data.length : Int)) := hg 2 (by decide)
      have f3 : ux6 3 = v1_2 := hg 3 (by decide)
      have f4 : ux6 4 = (ptr (sb v1_2) (so v1_2 + ((0 : Int)).toNat * 2)) := hg 4 (by decide)
      have f5 : ux6 5 = (ptr (sb v1_2) (so v1_2 + ((0 : Int)).toNat * 2 + 1)) := hg 5 (by decide)
      have f6 : ux6 6 = u13 := hg 6 (by decide)
      have f7 : ux6 7 = (vI (x7.Data.length : Int)) := hg 7 (by decide)
      have f8 : ux6 8 = (vT ((p0.Data.length : Int) != (x7.Data.length : Int))) := hg 8 (by decide)
      have f9 : ux6 9 = (vT ((p0.Data.length : Int) != (x7.Data.length : Int))) := hg 9 (by decide)
      have hE := hE.sub (e' := [(4, (ptr b1 (0 + 1))), (5, v0_1), (6, (vI (p0.Data.length : Int))), (7, v1_2), (8, (ptr (sb v1_2) (so v1_2 + ((0 : Int)).toNat * 2))), (9, (ptr (sb v1_2) (so v1_2 + ((0 : Int)).toNat * 2 + 1))), (10, u13), (11, (vI (x7.Data.length : Int))), (12, (vT ((p0.Data.length : Int) != (x7.Data.length : Int)))), (3, (vT ((p0.Data.length : Int) != (x7.Data.length : Int)))), (0, (Value.agg (cat [[(vB p0.Place)], [v0_1]]).toArray)), (1, (ptr pb1 0)), (2, (ptr b1 0))]) ⟨lk rfl f0, lk rfl f1, lk rfl f2, lk rfl f3, lk rfl f4, lk rfl f5, lk rfl f6, lk rfl f7, lk rfl f8, lk rfl f9, rfl, rfl, rfl, trivial⟩
      refine c_fin0 ?_
      have ht15 := Option.some.inj hl4
      subst ht15
      refine c_mid ?_
      have hM := M.fst (l := []) hM
      exact ⟨hE.sub ⟨rfl, trivial⟩, hM⟩
  · skip
    rintro a w ⟨hE, hM⟩
    have hr := Option.some.inj hF5
    subst hr
    exact wp_ret (k_ret1 hE rfl (res_tmp hE rfl) ⟨_, rfl, rfl, hM.kept⟩)
noncomputable def F_impl_areEven (p0 : (List GShare)) : Option (Bool) :=
  (F_slices_ContainsFunc_impl_Share_impl_Share p0 (fun z0 => F_impl_areEven_1 z0 p0)).bind fun (r3 : Bool) => some (!r3)
set_option maxRecDepth 20000 in
set_option maxHeartbeats 400000 in
theorem c_impl_areEven (w0 : World) (p0 : (List GShare)) (v0_1 : Value) (hv0_1 : Ro w0 p0 [v0_1]) (r : Bool) (hF : F_impl_areEven p0 = some r) :
    Calls Try.prog 63 [v0_1].toArray w0 (fun en w' => ∃ v, en = .returned v ∧ (v = (vT r) ∧ Kept (Old w0) w0 w')) := by
  refine c_enter (n := 7) Try.func63 rfl rfl (Nat.le_of_ble_eq_true rfl) rfl ?_
  intro a hE
  have hM := M.start w0
  unfold F_impl_areEven at hF
  refine c_region ?_
  refine s_box (cs := [v0_1]) hE hM goes_none (by decide) rfl (sl_cells (hM.rd hv0_1)) ?_; intro b1 w a hM hE
  refine s_assign hE goes_none (by decide) rfl ?_; intro a hE
  refine c_fin ?_
  refine c_region ?_
  refine s_load (v := v0_1) hE goes_none (by decide) rfl ty25 rfl (hM.rawAt (pre := [])) ?_; intro a hE
  refine s_makeFunc hE goes_none (by decide) rfl ?_; intro a hE
  obtain ⟨r3, e4, hF⟩ := bind_some hF
  refine s_call (vs := [v0_1, (Value.func (.func 117) #[] [(ptr b1 0)].toArray)]) hE goes_none (by decide) rfl cb58 (c_slices_ContainsFunc_impl_Share_impl_Share _ p0 v0_1 (hM.rdo hv0_1) (fun z0 => F_impl_areEven_1 z0 p0) 117 [(ptr b1 0)] cb117 (fun w2 hk2 z0 zu0_0 zh0_0 zr zhr => c_impl_areEven_1 w2 z0 zu0_0 zh0_0 b1 p0 v0_1 (ro_later (hM.rdo hv0_1) hk2) (at_later (hM.rawAt (pre := [])) hk2 (by simp [cat])) (at_lt_later (hM.rawAt (pre := [])) hk2 (by simp [cat])) zr zhr) r3 e4) ?_
  rintro v w a ⟨rfl, hK⟩ hE
  have hM := hM.keep hK
  refine s_not hE goes_none (by decide) rfl ?_; intro a hE
  refine s_assign hE goes_none (by decide) rfl ?_; intro a hE
  refine c_fin ?_
  have hr := Option.some.inj hF
  subst hr
  have hM := M.fst (l := []) hM
  exact wp_ret (k_ret1 hE rfl (res_tmp hE rfl) ⟨_, rfl, rfl, hM.kept⟩)
noncomputable def F_impl_checkShares (p0 : Int) (p1 : (List GShare)) (p2 : Int) : Option (Int) :=
  ((F_impl_IsField p0).bind fun (r4 : Bool) => if (!r4) = true then (some true) else ((F_slices_ContainsFunc_impl_Share_impl_Share p1 (fun z0 => F_impl_checkShares_1 z0)).bind fun (r8 : Bool) => if r8 = true then (some true) else ((F_impl_placesOf p1).bind fun (r12 : (List UInt8)) => (F_impl_areDifferent r12).bind fun (r15 : Bool) => some (!r15))) : Option (Bool)).bind fun (j1 : Bool) => if j1 = true then (some 1) else (((F_impl_length_impl_Share p1).bind fun (r22 : Int) => (F_impl_inRange r22 1 12).bind fun (r24 : Bool) => if (!r24) = true then (some true) else ((F_impl_areEven p1).bind fun (r28 : Bool) => if (!r28) = true then (some true) else ((F_impl_inRange p2 1 8).bind fun (r32 : Bool) => some (!r32))) : Option (Bool)).bind fun (j19 : Bool) => if j19 = true then (some 2) else (some 0))
set_option maxRecDepth 20000 in
set_option maxHeartbeats 400000 in
theorem c_impl_checkShares (w0 : World) (p0 : Int) (p1 : (List GShare)) (v1_1 : Value) (hv1_1 : Ro w0 p1 [v1_1]) (p2 : Int) (r : Int) (hF : F_impl_checkShares p0 p1 p2 = some r) :
    Calls Try.prog 97 [(vI p0), v1_1, (vI p2)].toArray w0 (fun en w' => ∃ v, en = .returned v ∧ (v = (vI r) ∧ Kept (Old w0) w0 w')) := by
  refine c_enter (n := 36) Try.func97 rfl rfl (Nat.le_of_ble_eq_true rfl) rfl ?_
  intro a hE
  have hM := M.start w0
  unfold F_impl_checkShares at hF
  refine c_region ?_
  refine s_assign hE goes_none (by decide) rfl ?_; intro a hE
  refine c_fin ?_
  refine wp_seq ?_
  refine wp_block ?_
  obtain ⟨j1, hl2, hF3⟩ := bind_some hF
  refine c_join (fun a w => Env 36 a [(1, v1_1), (2, (vI p2)), (7, (vT j1))] ∧ M (Old w0) w0 w []) ?_ ?_
  · skip
    refine wp_region_lit ?_
    refine s_move hE goes_none (by decide) rfl ?_; intro a hE
    obtain ⟨r4, e5, hl2⟩ := bind_some hl2
    refine s_call (vs := [(vI p0)]) hE goes_none (by decide) rfl cb68 (c_impl_IsField _ p0 r4 e5) ?_
    rintro v w a ⟨rfl, hK⟩ hE
    have hM := hM.keep hK
    refine s_not hE goes_none (by decide) rfl ?_; intro a hE
    refine s_move hE goes_none (by decide) rfl ?_; intro a hE
    refine splitB (!r4) (fun hb6 => ?_) (fun hb6 => ?_)
    · have hl2 := ite_t hl2 hb6
      refine s_skip hE rfl (lkb rfl hb6) rfl (by decide) ?_; intro a hE
      refine s_skip hE rfl (lkb rfl hb6) rfl (by decide) ?_; intro a hE
      refine s_pickT hE goes_none (by decide) (lkb rfl hb6) rfl ?_; intro a hE
      refine s_move hE goes_none (by decide) rfl ?_; intro a hE
      refine s_skip hE rfl rfl rfl (by decide) ?_; intro a hE
      refine s_skip hE rfl rfl rfl (by decide) ?_; intro a hE
      refine s_skip hE rfl rfl rfl (by decide) ?_; intro a hE
      refine s_skip hE rfl rfl rfl (by decide) ?_; intro a hE
      refine s_pickT hE goes_none (by decide) rfl rfl ?_; intro a hE
      refine s_assign hE goes_none (by decide) rfl ?_; intro a hE
      refine c_fin0 ?_
      have ht7 := Option.some.inj hl2
      subst ht7
      refine c_mid ?_
      exact ⟨hE.sub ⟨rfl, rfl, rfl, trivial⟩, hM⟩
    · have hl2 := ite_f hl2 hb6
      refine s_move hE (goes_yes hE rfl (lkb rfl hb6)) (by decide) rfl ?_; intro a hE
      obtain ⟨r8, e9, hl2⟩ := bind_some hl2
      refine s_call (vs := [v1_1, (Value.func (.func 139) #[] [].toArray)]) hE (goes_yes hE rfl (lkb rfl hb6)) (by decide) rfl cb58 (c_slices_ContainsFunc_impl_Share_impl_Share _ p1 v1_1 (hM.rdo hv1_1) (fun z0 => F_impl_checkShares_1 z0) 139 [] cb139 (fun w2 hk2 z0 zu0_0 zh0_0 zr zhr => c_impl_checkShares_1 w2 z0 zu0_0 zh0_0 zr zhr) r8 e9) ?_
      rintro v w a ⟨rfl, hK⟩ hE
      have hM := hM.keep hK
      refine s_pickF hE goes_none (by decide) (lkb rfl hb6) rfl ?_; intro a hE
      refine s_move hE goes_none (by decide) rfl ?_; intro a hE
      refine splitB r8 (fun hb10 => ?_) (fun hb10 => ?_)
      · have hl2 := ite_t hl2 hb10
        refine s_skip hE rfl (lkb rfl hb10) rfl (by decide) ?_; intro a hE
        refine s_skip hE rfl (lkb rfl hb10) rfl (by decide) ?_; intro a hE
        refine s_skip hE rfl (lkb rfl hb10) rfl (by decide) ?_; intro a hE
        refine s_skip hE rfl (lkb rfl hb10) rfl (by decide) ?_; intro a hE
        refine s_pickT hE goes_none (by decide) (lkb rfl hb10) rfl ?_; intro a hE
        refine s_assign hE goes_none (by decide) rfl ?_; intro a hE
        refine c_fin0 ?_
        have ht11 := Option.some.inj hl2
        subst ht11
        refine c_mid ?_
        exact ⟨hE.sub ⟨rfl, rfl, rfl, trivial⟩, hM⟩
      · have hl2 := ite_f hl2 hb10
        refine s_move hE (goes_yes hE rfl (lkb rfl hb10)) (by decide) rfl ?_; intro a hE
        obtain ⟨r12, e13, hl2⟩ := bind_some hl2
        refine s_call (vs := [v1_1]) hE (goes_yes hE rfl (lkb rfl hb10)) (by decide) rfl cb62 (c_impl_placesOf _ p1 v1_1 (hM.rdo hv1_1) r12 e13) ?_
        rintro u14 w a ⟨_, rfl, hFr, hK⟩ hE
        have hM := hM.add hK hFr
        obtain ⟨r15, e16, hl2⟩ := bind_some hl2
        refine s_call (vs := [u14]) hE (goes_yes hE rfl (lkb rfl hb10)) (by decide) rfl cb61 (c_impl_areDifferent _ r12 u14 (hM.sl (pre := []) noB) r15 e16) ?_
        rintro v w a ⟨rfl, hK⟩ hE
        have hM := hM.keep hK
        refine s_not hE (goes_yes hE rfl (lkb rfl hb10)) (by decide) rfl ?_; intro a hE
        refine s_pickF hE goes_none (by decide) (lkb rfl hb10) rfl ?_; intro a hE
        refine s_assign hE goes_none (by decide) rfl ?_; intro a hE
        refine c_fin0 ?_
        have ht17 := Option.some.inj hl2
        subst ht17
        refine c_mid ?_
        have hM := M.fst (l := []) hM
        exact ⟨hE.sub ⟨rfl, rfl, rfl, trivial⟩, hM⟩
  · skip
    rintro a w ⟨hE, hM⟩
    refine c_cond hE rfl ?_ ?_
    · intro hb18
      have hF3 := ite_t hF3 hb18
      refine c_region ?_
      refine s_assign hE goes_none (by decide) rfl ?_; intro a hE
      refine c_fin ?_
      have hr := Option.some.inj hF3
      subst hr
      exact wp_ret (r_inb (r_then (k_ret1 hE rfl (res_tmp hE rfl) ⟨_, rfl, rfl, hM.kept⟩)))
    · intro hb18
      have hF3 := ite_f hF3 hb18
      obtain ⟨j19, hl20, hF21⟩ := bind_some hF3
      refine c_join (fun a w => Env 36 a [(21, (vT j19))] ∧ M (Old w0) w0 w []) ?_ ?_
      · skip
        refine wp_region_lit ?_
        refine s_move hE goes_none (by decide) rfl ?_; intro a hE
        obtain ⟨r22, e23, hl20⟩ := bind_some hl20
        refine s_call (vs := [v1_1]) hE goes_none (by decide) rfl cb57 (c_impl_length_impl_Share _ p1 v1_1 (hM.rdo hv1_1) r22 e23) ?_
        rintro v w a ⟨rfl, hK⟩ hE
        have hM := hM.keep hK
        obtain ⟨r24, e25, hl20⟩ := bind_some hl20
        refine s_call (vs := [(vI r22), (vI 1), (vI 12)]) hE goes_none (by decide) rfl cb56 (c_impl_inRange _ r22 1 12 r24 e25) ?_
        rintro v w a ⟨rfl, hK⟩ hE
        have hM := hM.keep hK
        refine s_not hE goes_none (by decide) rfl ?_; intro a hE
        refine s_move hE goes_none (by decide) rfl ?_; intro a hE
        refine splitB (!r24) (fun hb26 => ?_) (fun hb26 => ?_)
        · have hl20 := ite_t hl20 hb26
          refine s_skip hE rfl (lkb rfl hb26) rfl (by decide) ?_; intro a hE
          refine s_skip hE rfl (lkb rfl hb26) rfl (by decide) ?_; intro a hE
          refine s_skip hE rfl (lkb rfl hb26) rfl (by decide) ?_; intro a hE
          refine s_pickT hE goes_none (by decide) (lkb rfl hb26) rfl ?_; intro a hE
          refine s_move hE goes_none (by decide) rfl ?_; intro a hE
          refine s_skip hE rfl rfl rfl (by decide) ?_; intro a hE
          refine s_skip hE rfl rfl rfl (by decide) ?_; intro a hE
          refine s_skip hE rfl rfl rfl (by decide) ?_; intro a hE
          refine s_pickT hE goes_none (by decide) rfl rfl ?_; intro a hE
          refine s_assign hE goes_none (by decide) rfl ?_; intro a hE
          refine c_fin0 ?_
          have ht27 := Option.some.inj hl20
          subst ht27
          refine c_mid ?_
          exact ⟨hE.sub ⟨rfl, trivial⟩, hM⟩
        · have hl20 := ite_f hl20 hb26
          refine s_move hE (goes_yes hE rfl (lkb rfl hb26)) (by decide) rfl ?_; intro a hE
          obtain ⟨r28, e29, hl20⟩ := bind_some hl20
          refine s_call (vs := [v1_1]) hE (goes_yes hE rfl (lkb rfl hb26)) (by decide) rfl cb63 (c_impl_areEven _ p1 v1_1 (hM.rdo hv1_1) r28 e29) ?_
          rintro v w a ⟨rfl, hK⟩ hE
          have hM := hM.keep hK
          refine s_not hE (goes_yes hE rfl (lkb rfl hb26)) (by decide) rfl ?_; intro a hE
          refine s_pickF hE goes_none (by decide) (lkb rfl hb26) rfl ?_; intro a hE
          refine s_move hE goes_none (by decide) rfl ?_; intro a hE
          refine splitB (!r28) (fun hb30 => ?_) (fun hb30 => ?_)
          · have hl20 := ite_t hl20 hb30
            refine s_skip hE rfl (lkb rfl hb30) rfl (by decide) ?_; intro a hE
            refine s_skip hE rfl (lkb rfl hb30) rfl (by decide) ?_; intro a hE
            refine s_skip hE rfl (lkb rfl hb30) rfl (by decide) ?_; intro a hE
            refine s_pickT hE goes_none (by decide) (lkb rfl hb30) rfl ?_; intro a hE
            refine s_assign hE goes_none (by decide) rfl ?_; intro a hE
            refine c_fin0 ?_
            have ht31 := Option.some.inj hl20
            subst ht31
            refine c_mid ?_
            exact ⟨hE.sub ⟨rfl, trivial⟩, hM⟩
          · have hl20 := ite_f hl20 hb30
            refine s_move hE (goes_yes hE rfl (lkb rfl hb30)) (by decide) rfl ?_; intro a hE
            obtain ⟨r32, e33, hl20⟩ := bind_some hl20
            refine s_call (vs := [(vI p2), (vI 1), (vI 8)]) hE (goes_yes hE rfl (lkb rfl hb30)) (by decide) rfl cb56 (c_impl_inRange _ p2 1 8 r32 e33) ?_
            rintro v w a ⟨rfl, hK⟩ hE
            have hM := hM.keep hK
            refine s_not hE (goes_yes hE rfl (lkb rfl hb30)) (by decide) rfl ?_; intro a hE
            refine s_pickF hE goes_none (by decide) (lkb rfl hb30) rfl ?_; intro a hE
            refine s_assign hE goes_none (by decide) rfl ?_; intro a hE
            refine c_fin0 ?_
            have ht34 := Option.some.inj hl20
            subst ht34
            refine c_mid ?_
            exact ⟨hE.sub ⟨rfl, trivial⟩, hM⟩
      · skip
        rintro a w ⟨hE, hM⟩
        refine c_cond hE rfl ?_ ?_
        · intro hb35
          have hF21 := ite_t hF21 hb35
          refine c_region ?_
          refine s_assign hE goes_none (by decide) rfl ?_; intro a hE
          refine c_fin ?_
          have hr := Option.some.inj hF21
          subst hr
          exact wp_ret (r_inb (r_then (k_ret1 hE rfl (res_tmp hE rfl) ⟨_, rfl, rfl, hM.kept⟩)))
        · intro hb35
          have hF21 := ite_f hF21 hb35
          refine wp_skip ?_
          refine c_nb ?_
          refine c_nx ?_
          refine c_region ?_
          refine s_assign hE goes_none (by decide) rfl ?_; intro a hE
          refine c_fin ?_
          have hr := Option.some.inj hF21
          subst hr
          exact wp_ret (k_ret1 hE rfl (res_tmp hE rfl) ⟨_, rfl, rfl, hM.kept⟩)
noncomputable def F_slices_Grow_impl_Share_impl_Share_nil (p1 : Int) : Option ((List GShare)) :=
  (if (decide (p1 < 0)) = true then (none) else (some ()) : Option (Unit)).bind fun (j1 : Unit) => (if (decide ((wr (p1 - (wr (0 - 0)))) > 0)) = true then ((mkS 32 (⟨(0 : UInt8), ([] : (List UInt8))⟩ : GShare) (wr (p1 - (wr (0 - 0))))).bind fun (l14 : (List GShare)) => (slc l14 (0 : Int) (0 : Int)).bind fun (l16 : (List GShare)) => some l16) else (some ([])) : Option ((List GShare))).bind fun (j6 : (List GShare)) => some j6
set_option maxRecDepth 20000 in
set_option maxHeartbeats 400000 in
theorem c_slices_Grow_impl_Share_impl_Share_nil (w0 : World) (p1 : Int) (r : (List GShare)) (hF : F_slices_Grow_impl_Share_impl_Share_nil p1 = some r) :
    Calls Try.prog 142 [(Value.slice none 0 0), (vI p1)].toArray w0 (fun en w' => ∃ v, en = .returned v ∧ (∃ (y1 : Value), v = y1 ∧ Fr w0 w' [osl NoB (r : List GShare) y1] ∧ Kept (Old w0) w0 w')) := by
  refine c_enter (n := 27) Try.func142 rfl rfl (Nat.le_of_ble_eq_true rfl) rfl ?_
  intro a hE
  have hM := M.start w0
  unfold F_slices_Grow_impl_Share_impl_Share_nil at hF
  refine c_region ?_
  refine s_assign hE goes_none (by decide) rfl ?_; intro a hE
  refine c_fin ?_
  obtain ⟨j1, hl2, hF3⟩ := bind_some hF
  refine c_join (fun a w => Env 27 a [(0, (Value.slice none 0 0)), (1, (vI p1))] ∧ M (Old w0) w0 w []) ?_ ?_
  · skip
    refine c_region ?_
    refine s_move hE goes_none (by decide) rfl ?_; intro a hE
    refine s_int hE goes_none (by decide) rfl rfl rfl ?_; intro a hE
    refine c_fin ?_
    refine c_cond hE rfl ?_ ?_
    · intro hb4
      have hl2 := ite_t hl2 hb4
      cases hl2
    · intro hb4
      have hl2 := ite_f hl2 hb4
      refine wp_skip ?_
      have ht5 := Option.some.inj hl2
      subst ht5
      refine c_mid ?_
      exact ⟨hE.sub ⟨rfl, rfl, trivial⟩, hM⟩
  · skip
    rintro a w ⟨hE, hM⟩
    obtain ⟨j6, hl7, hF8⟩ := bind_some hF3
    refine c_join (fun a w => ∃ (u9 : Value), Env 27 a [(0, u9)] ∧ M (Old w0) w0 w [osl NoB (j6 : List GShare) u9]) ?_ ?_
    · skip
      refine c_region ?_
      refine s_move hE goes_none (by decide) rfl ?_; intro a hE
      refine s_move hE goes_none (by decide) rfl ?_; intro a hE
      refine s_capNil hE goes_none (by decide) rfl Try.underlying25 ?_; intro a hE
      refine s_move hE goes_none (by decide) rfl ?_; intro a hE
      refine s_lenNil hE goes_none (by decide) rfl Try.underlying25 ?_; intro a hE
      refine s_int hE goes_none (by decide) rfl rfl rfl ?_; intro a hE
      refine s_int hE goes_none (by decide) rfl rfl rfl ?_; intro a hE
      refine s_assign hE goes_none (by decide) rfl ?_; intro a hE
      refine c_fin ?_
      refine c_region ?_
      refine s_move hE goes_none (by decide) rfl ?_; intro a hE
      refine s_int hE goes_none (by decide) rfl rfl rfl ?_; intro a hE
      refine c_fin ?_
      refine c_cond hE rfl ?_ ?_
      · intro hb11
        have hl7 := ite_t hl7 hb11
        refine wp_region_lit ?_
        refine s_move hE goes_none (by decide) rfl ?_; intro a hE
        refine s_move hE goes_none (by decide) rfl ?_; intro a hE
        refine s_capNil hE goes_none (by decide) rfl Try.underlying25 ?_; intro a hE
        refine s_sliceNil hE goes_none (by decide) rfl rfl Try.underlying25 ty81 ?_; intro a hE
        refine s_move hE goes_none (by decide) rfl ?_; intro a hE
        obtain ⟨l14, e15, hl7⟩ := bind_some hl7
        refine s_appendZ hE hM goes_none (by decide) rfl rfl Try.underlying25 Try.underlying3 ty81 rfl (by decide) (by decide) zsat_GShare e15 ?_; intro u12 w a hM hE
        refine s_move hE goes_none (by decide) rfl ?_; intro a hE
        refine s_lenNil hE goes_none (by decide) rfl Try.underlying25 ?_; intro a hE
        obtain ⟨l16, e17, hl7⟩ := bind_some hl7
        refine s_slice hE goes_none (by decide) rfl rfl rfl rfl rfl Try.underlying25 ty81 (hM.sl (pre := []) noB) e17 ?_; intro a hE
        have hM := hM.cut noB e17
        refine s_assign hE goes_none (by decide) rfl ?_; intro a hE
        refine c_fin0 ?_
        have ht19 := Option.some.inj hl7
        subst ht19
        refine c_mid ?_
        exact ⟨(sliceV u12 ((0 : Int)).toNat ((0 : Int)).toNat 2), hE.sub ⟨rfl, trivial⟩, hM⟩
      · intro hb11
        have hl7 := ite_f hl7 hb11
        refine wp_skip ?_
        have ht20 := Option.some.inj hl7
        subst ht20
        refine c_mid ?_
        have hM := M.nilS (α := GShare) NoB noB hM
        exact ⟨(Value.slice none 0 0), hE.sub ⟨rfl, trivial⟩, hM⟩
    · skip
      rintro a w ⟨u9, hE, hM⟩
      refine c_region ?_
      refine s_move hE goes_none (by decide) rfl ?_; intro a hE
      refine s_assign hE goes_none (by decide) rfl ?_; intro a hE
      refine c_fin ?_
      have hr := Option.some.inj hF8
      subst hr
      exact wp_ret (k_ret1 hE rfl (res_tmp hE rfl) ⟨_, rfl, u9, rfl, hM.outF (locN1 locN0), hM.kept⟩)
noncomputable def L0_slices_Concat_impl_Share_impl_Share (p0 : (List (List GShare))) (s4 : Int × Int) : Option (Fl (Int × Int) Int) :=
  if (decide (s4.1 < (p0.length : Int))) = true then (((idx p0 s4.1).bind fun (x12 : (List GShare)) => (if (decide ((wr (s4.2 + (x12.length : Int))) < 0)) = true then (none) else (some ()) : Option (Unit)).bind fun (j20 : Unit) => some (wr (s4.2 + (x12.length : Int))) : Option (Int)).bind fun (j9 : Int) => some (Fl.nx (wr (s4.1 + 1), j9))) else (some (Fl.ex s4.2))
noncomputable def L1_slices_Concat_impl_Share_impl_Share (p0 : (List (List GShare))) (s35 : Int × (List GShare)) : Option (Fl (Int × (List GShare)) (List GShare)) :=
  if (decide (s35.1 < (p0.length : Int))) = true then ((idx p0 s35.1).bind fun (x42 : (List GShare)) => (app 32 s35.2 x42).bind fun (l50 : (List GShare)) => some (Fl.nx (wr (s35.1 + 1), (s35.2 ++ x42)))) else (some (Fl.ex s35.2))
noncomputable def F_slices_Concat_impl_Share_impl_Share (p0 : (List (List GShare))) : Option ((List GShare)) :=
  (iter (L0_slices_Concat_impl_Share_impl_Share p0) (0, 0) : Option (Int)).bind fun (j1 : Int) => (F_slices_Grow_impl_Share_impl_Share_nil j1).bind fun (r27 : (List GShare)) => (iter (L1_slices_Concat_impl_Share_impl_Share p0) (0, r27) : Option ((List GShare))).bind fun (j30 : (List GShare)) => some j30
set_option maxRecDepth 20000 in
set_option maxHeartbeats 400000 in
theorem c_slices_Concat_impl_Share_impl_Share (w0 : World) (p0 : (List (List GShare))) (v0_1 : Value) (hv0_1 : Ro w0 p0 [v0_1]) (r : (List GShare)) (hF : F_slices_Concat_impl_Share_impl_Share p0 = some r) :
    Calls Try.prog 108 [v0_1].toArray w0 (fun en w' => ∃ v, en = .returned v ∧ (∃ (y1 : Value), v = y1 ∧ Ro w' (r : (List GShare)) [y1] ∧ Kept (Old w0) w0 w')) := by
  refine c_enter (n := 36) Try.func108 rfl rfl (Nat.le_of_ble_eq_true rfl) rfl ?_
  intro a hE
  have hM := M.start w0
  unfold F_slices_Concat_impl_Share_impl_Share at hF
  refine c_region ?_
  refine s_assign hE goes_none (by decide) rfl ?_; intro a hE
  refine c_fin ?_
  refine c_region ?_
  refine s_assign hE goes_none (by decide) rfl ?_; intro a hE
  refine c_fin ?_
  refine wp_seq ?_
  refine c_region ?_
  refine s_move hE goes_none (by decide) rfl ?_; intro a hE
  refine s_len hE goes_none (by decide) rfl Try.underlying154 (hM.rd hv0_1) ?_; intro a hE
  refine s_move hE goes_none (by decide) rfl ?_; intro a hE
  refine c_fin ?_
  obtain ⟨j1, hl2, hF3⟩ := bind_some hF
  refine c_cut (fun a w => Env 36 a [(0, v0_1), (3, (vI j1))] ∧ M (Old w0) w0 w []) ?_ ?_
  · skip
    refine wp_block ?_
    refine c_loop (fun (s4 : Int × Int) a w => Env 36 a [(0, v0_1), (3, (vI s4.2)), (9, v0_1), (10, (vI (p0.length : Int))), (11, (vI s4.1))] ∧ M (Old w0) w0 w []) hl2 ⟨hE.sub ⟨rfl, rfl, rfl, rfl, rfl, trivial⟩, hM⟩ ?_
    rintro s4 a w ⟨hE, hM⟩ o7 hs5 hx6
    unfold L0_slices_Concat_impl_Share_impl_Share at hs5
    refine c_region ?_
    refine s_int hE goes_none (by decide) rfl rfl rfl ?_; intro a hE
    refine c_fin ?_
    refine wp_seq ?_
    refine c_cond hE rfl ?_ ?_
    · intro hb8
      have hs5 := ite_t hs5 hb8
      refine wp_skip ?_
      refine c_nx ?_
      obtain ⟨j9, hl10, hF11⟩ := bind_some hs5
      refine c_join (fun a w => Env 36 a [(0, v0_1), (3, (vI j9)), (9, v0_1), (10, (vI (p0.length : Int))), (11, (vI s4.1))] ∧ M (Old w0) w0 w []) ?_ ?_
      · skip
        refine wp_block ?_
        refine c_region ?_
        obtain ⟨x12, e13, hl10⟩ := bind_some hl10
        have hi14 := idx_some e13
        refine s_indexS hE goes_none (by decide) rfl rfl Try.underlying154 ty25 (hM.rd hv0_1) hi14.1 ?_; intro a hE
        obtain ⟨cs15, hs16, hA17⟩ := sl_atRo hv0_1 hi14.2 -- ^
        obtain ⟨u18, rfl⟩ := sl_one hs16 -- ^
        have h19 := hs16 -- ^
        refine s_load (v := u18) hE goes_none (by decide) rfl ty25 rfl (hM.atk hA17 (sl_blk hv0_1 hi14.2)) ?_; intro a hE
        refine s_assign hE goes_none (by decide) rfl ?_; intro a hE
        refine c_fin ?_
        refine c_region ?_
        refine s_move hE goes_none (by decide) rfl ?_; intro a hE
        refine s_move hE goes_none (by decide) rfl ?_; intro a hE
        refine s_len hE goes_none (by decide) rfl Try.underlying25 (hM.rd h19) ?_; intro a hE
        refine s_int hE goes_none (by decide) rfl rfl rfl ?_; intro a hE
        refine s_assign hE goes_none (by decide) rfl ?_; intro a hE
        refine c_fin ?_
        refine c_region ?_
        refine s_move hE goes_none (by decide) rfl ?_; intro a hE
        refine s_int hE goes_none (by decide) rfl rfl rfl ?_; intro a hE
        refine c_fin ?_
        obtain ⟨j20, hl21, hF22⟩ := bind_some hl10
        refine c_cut (fun a w => Env 36 a [(0, v0_1), (3, (vI (wr (s4.2 + (x12.length : Int))))), (9, v0_1), (10, (vI (p0.length : Int))), (11, (vI s4.1))] ∧ M (Old w0) w0 w []) ?_ ?_
        · skip
          refine c_cond hE rfl ?_ ?_
          · intro hb23
            have hl21 := ite_t hl21 hb23
            cases hl21
          · intro hb23
            have hl21 := ite_f hl21 hb23
            refine wp_skip ?_
            have ht24 := Option.some.inj hl21
            subst ht24
            refine c_mid ?_
            exact ⟨hE.sub ⟨rfl, rfl, rfl, rfl, rfl, trivial⟩, hM⟩
        · skip
          rintro a w ⟨hE, hM⟩
          refine c_nb ?_
          have ht25 := Option.some.inj hF22
          subst ht25
          refine c_mid ?_
          exact ⟨hE.sub ⟨rfl, rfl, rfl, rfl, rfl, trivial⟩, hM⟩
      · skip
        rintro a w ⟨hE, hM⟩
        refine wp_region_lit ?_
        refine s_int hE goes_none (by decide) rfl rfl rfl ?_; intro a hE
        refine s_move hE goes_none (by decide) rfl ?_; intro a hE
        refine c_fin0 ?_
        refine c_mid ?_
        exact ⟨_, (Option.some.inj hF11).symm, hE.sub ⟨rfl, rfl, rfl, rfl, rfl, trivial⟩, hM⟩
    · intro hb8
      have hs5 := ite_f hs5 hb8
      refine wp_exit (e_then (e_then (e_eq ?_)))
      have ht26 := hx6 _ (Option.some.inj hs5).symm
      subst ht26
      refine c_mid ?_
      exact ⟨hE.sub ⟨rfl, rfl, trivial⟩, hM⟩
  · skip
    rintro a w ⟨hE, hM⟩
    refine c_nx ?_
    refine c_region ?_
    refine s_move hE goes_none (by decide) rfl ?_; intro a hE
    obtain ⟨r27, e28, hF3⟩ := bind_some hF3
    refine s_call (vs := [(Value.slice none 0 0), (vI j1)]) hE goes_none (by decide) rfl cb142 (c_slices_Grow_impl_Share_impl_Share_nil _ j1 r27 e28) ?_
    rintro u29 w a ⟨_, rfl, hFr, hK⟩ hE
    have hM := hM.add hK hFr
    refine s_assign hE goes_none (by decide) rfl ?_; intro a hE
    refine c_fin ?_
    refine wp_seq ?_
    refine c_region ?_
    refine s_move hE goes_none (by decide) rfl ?_; intro a hE
    refine s_len hE goes_none (by decide) rfl Try.underlying154 (hM.rd hv0_1) ?_; intro a hE
    refine s_move hE goes_none (by decide) rfl ?_; intro a hE
    refine c_fin ?_
    obtain ⟨j30, hl31, hF32⟩ := bind_some hF3
    refine c_cut (fun a w => ∃ (u33 : Value), Env 36 a [(6, u33)] ∧ M (Old w0) w0 w [osl (Old w0) (j30 : List GShare) u33]) ?_ ?_
    · skip
      refine wp_block ?_
      have hM := hM.oslWk (S' := Old w0) noB (fun _ h => h)
      refine c_loop (fun (s35 : Int × (List GShare)) a w => ∃ (u36 : Value), Env 36 a [(6, u36), (25, v0_1), (26, (vI (p0.length : Int))), (27, (vI s35.1))] ∧ M (Old w0) w0 w [osl (Old w0) (s35.2 : List GShare) u36]) hl31 ⟨u29, hE.sub ⟨rfl, rfl, rfl, rfl, trivial⟩, hM⟩ ?_
      rintro s35 a w ⟨u36, hE, hM⟩ o40 hs38 hx39
      unfold L1_slices_Concat_impl_Share_impl_Share at hs38
      refine c_region ?_
      refine s_int hE goes_none (by decide) rfl rfl rfl ?_; intro a hE
      refine c_fin ?_
      refine wp_seq ?_
      refine c_cond hE rfl ?_ ?_
      · intro hb41
        have hs38 := ite_t hs38 hb41
        refine wp_skip ?_
        refine c_nx ?_
        refine wp_seq ?_
        refine wp_block ?_
        refine c_region ?_
        obtain ⟨x42, e43, hs38⟩ := bind_some hs38
        have hi44 := idx_some e43
        refine s_indexS hE goes_none (by decide) rfl rfl Try.underlying154 ty25 (hM.rd hv0_1) hi44.1 ?_; intro a hE
        obtain ⟨cs45, hs46, hA47⟩ := sl_atRo hv0_1 hi44.2 -- ^
        obtain ⟨u48, rfl⟩ := sl_one hs46 -- ^
        have h49 := hs46 -- ^
        refine s_load (v := u48) hE goes_none (by decide) rfl ty25 rfl (hM.atk hA47 (sl_blk hv0_1 hi44.2)) ?_; intro a hE
        refine s_assign hE goes_none (by decide) rfl ?_; intro a hE
        refine c_fin ?_
        refine wp_region_lit ?_
        refine s_move hE goes_none (by decide) rfl ?_; intro a hE
        refine s_move hE goes_none (by decide) rfl ?_; intro a hE
        obtain ⟨l50, e51, hs38⟩ := bind_some hs38
        obtain ⟨e54, rfl⟩ := app_some e51
        refine s_appendS hE hM (fun _ h => h) goes_none (by decide) rfl rfl (hM.rd h49) Try.underlying25 ty81 rfl (by decide) e54 ?_; intro u52 w a hM hE
        refine s_assign hE goes_none (by decide) rfl ?_; intro a hE
        refine c_fin0 ?_
        refine c_nb ?_
        refine c_nx ?_
        refine wp_region_lit ?_
        refine s_int hE goes_none (by decide) rfl rfl rfl ?_; intro a hE
        refine s_move hE goes_none (by decide) rfl ?_; intro a hE
        refine c_fin0 ?_
        refine c_mid ?_
        exact ⟨_, (Option.some.inj hs38).symm, u52, hE.sub ⟨rfl, rfl, rfl, rfl, trivial⟩, hM⟩
      · intro hb41
        have hs38 := ite_f hs38 hb41
        refine wp_exit (e_then (e_then (e_eq ?_)))
        have ht55 := hx39 _ (Option.some.inj hs38).symm
        subst ht55
        refine c_mid ?_
        exact ⟨u36, hE.sub ⟨rfl, trivial⟩, hM⟩
    · skip
      rintro a w ⟨u33, hE, hM⟩
      refine c_nx ?_
      refine c_region ?_
      refine s_move hE goes_none (by decide) rfl ?_; intro a hE
      refine s_assign hE goes_none (by decide) rfl ?_; intro a hE
      refine c_fin ?_
      have hr := Option.some.inj hF32
      subst hr
      have hro56 : Ro w (j30 : (List GShare)) [u33] := (hM.sl (pre := []) (fun _ h => h))
      have hM := M.fst (l := []) hM
      exact wp_ret (k_ret1 hE rfl (res_tmp hE rfl) ⟨_, rfl, u33, rfl, hro56, hM.kept⟩)
noncomputable def L0_impl_field_times (p1 : UInt8) (p2 : UInt8) (s4 : Int × Int) : Option (Fl (Int × Int) Int) :=
  if (decide (s4.2 < 8)) = true then (((nonneg s4.2).bind fun _ => (if (((shrB p2 s4.2) &&& 1) == 1) = true then ((nonneg s4.2).bind fun _ => some (xorI s4.1 (shlI (bI p1) s4.2))) else (some s4.1) : Option (Int)).bind fun (j13 : Int) => some j13 : Option (Int)).bind fun (j9 : Int) => some (Fl.nx (j9, wr (s4.2 + 1)))) else (some (Fl.ex s4.1))
noncomputable def F_impl_field_times (p0 : Int) (p1 : UInt8) (p2 : UInt8) : Option (UInt8) :=
  (iter (L0_impl_field_times p1 p2) (0, 0) : Option (Int)).bind fun (j1 : Int) => (F_impl_rest j1 p0 8).bind fun (r22 : Int) => some (byteI r22)
set_option maxRecDepth 20000 in
set_option maxHeartbeats 400000 in
theorem c_impl_field_times (w0 : World) (p0 : Int) (p1 : UInt8) (p2 : UInt8) (r : UInt8) (hF : F_impl_field_times p0 p1 p2 = some r) :
    Calls Try.prog 71 [(vI p0), (vB p1), (vB p2)].toArray w0 (fun en w' => ∃ v, en = .returned v ∧ (v = (vB r) ∧ Kept (Old w0) w0 w')) := by
  refine c_enter (n := 28) Try.func71 rfl rfl (Nat.le_of_ble_eq_true rfl) rfl ?_
  intro a hE
  have hM := M.start w0
  unfold F_impl_field_times at hF
  refine c_region ?_
  refine s_assign hE goes_none (by decide) rfl ?_; intro a hE
  refine c_fin ?_
  refine c_region ?_
  refine s_assign hE goes_none (by decide) rfl ?_; intro a hE
  refine c_fin ?_
  refine wp_seq ?_
  refine c_region ?_
  refine s_move hE goes_none (by decide) rfl ?_; intro a hE
  refine c_fin ?_
  obtain ⟨j1, hl2, hF3⟩ := bind_some hF
  refine c_cut (fun a w => Env 28 a [(0, (vI p0)), (7, (vI j1))] ∧ M (Old w0) w0 w []) ?_ ?_
  · skip
    refine wp_block ?_
    refine c_loop (fun (s4 : Int × Int) a w => Env 28 a [(0, (vI p0)), (1, (vB p1)), (2, (vB p2)), (7, (vI s4.1)), (9, (vI s4.2))] ∧ M (Old w0) w0 w []) hl2 ⟨hE.sub ⟨rfl, rfl, rfl, rfl, rfl, trivial⟩, hM⟩ ?_
    rintro s4 a w ⟨hE, hM⟩ o7 hs5 hx6
    unfold L0_impl_field_times at hs5
    refine c_region ?_
    refine s_int hE goes_none (by decide) rfl rfl rfl ?_; intro a hE
    refine c_fin ?_
    refine wp_seq ?_
    refine c_cond hE rfl ?_ ?_
    · intro hb8
      have hs5 := ite_t hs5 hb8
      refine wp_skip ?_
      refine c_nx ?_
      obtain ⟨j9, hl10, hF11⟩ := bind_some hs5
      refine c_join (fun a w => Env 28 a [(0, (vI p0)), (1, (vB p1)), (2, (vB p2)), (7, (vI j9)), (9, (vI s4.2))] ∧ M (Old w0) w0 w []) ?_ ?_
      · skip
        refine wp_block ?_
        refine c_region ?_
        refine s_move hE goes_none (by decide) rfl ?_; intro a hE
        refine s_assign hE goes_none (by decide) rfl ?_; intro a hE
        refine c_fin ?_
        refine c_region ?_
        refine s_move hE goes_none (by decide) rfl ?_; intro a hE
        refine s_move hE goes_none (by decide) rfl ?_; intro a hE
        obtain ⟨_, e12, hl10⟩ := bind_some hl10
        have e12 := nonneg_some e12
        refine s_sh hE goes_none (by decide) rfl rfl (bB_shr _ _ e12) ?_; intro a hE
        refine s_int hE goes_none (by decide) rfl rfl (bB_and (shrB p2 s4.2) 1) ?_; intro a hE
        refine s_int hE goes_none (by decide) rfl rfl (bB_eql ((shrB p2 s4.2) &&& 1) 1) ?_; intro a hE
        refine c_fin ?_
        obtain ⟨j13, hl14, hF15⟩ := bind_some hl10
        refine c_cut (fun a w => Env 28 a [(0, (vI p0)), (1, (vB p1)), (2, (vB p2)), (7, (vI j13)), (9, (vI s4.2))] ∧ M (Old w0) w0 w []) ?_ ?_
        · skip
          refine c_cond hE rfl ?_ ?_
          · intro hb16
            have hl14 := ite_t hl14 hb16
            refine wp_region_lit ?_
            refine s_move hE goes_none (by decide) rfl ?_; intro a hE
            refine s_move hE goes_none (by decide) rfl ?_; intro a hE
            refine s_conv hE goes_none (by decide) rfl Try.underlying5 Try.underlying2 ?_; intro a hE
            rw [byte_wide] at hE
            refine s_move hE goes_none (by decide) rfl ?_; intro a hE
            obtain ⟨_, e17, hl14⟩ := bind_some hl14
            have e17 := nonneg_some e17
            refine s_sh hE goes_none (by decide) rfl rfl (bI_shl _ _ e17) ?_; intro a hE
            refine s_int hE goes_none (by decide) rfl rfl rfl ?_; intro a hE
            refine s_assign hE goes_none (by decide) rfl ?_; intro a hE
            refine c_fin0 ?_
            have ht18 := Option.some.inj hl14
            subst ht18
            refine c_mid ?_
            exact ⟨hE.sub ⟨rfl, rfl, rfl, rfl, rfl, trivial⟩, hM⟩
          · intro hb16
            have hl14 := ite_f hl14 hb16
            refine wp_skip ?_
            have ht19 := Option.some.inj hl14
            subst ht19
            refine c_mid ?_
            exact ⟨hE.sub ⟨rfl, rfl, rfl, rfl, rfl, trivial⟩, hM⟩
        · skip
          rintro a w ⟨hE, hM⟩
          refine c_nb ?_
          have ht20 := Option.some.inj hF15
          subst ht20
          refine c_mid ?_
          exact ⟨hE.sub ⟨rfl, rfl, rfl, rfl, rfl, trivial⟩, hM⟩
      · skip
        rintro a w ⟨hE, hM⟩
        refine wp_region_lit ?_
        refine s_int hE goes_none (by decide) rfl rfl rfl ?_; intro a hE
        refine s_move hE goes_none (by decide) rfl ?_; intro a hE
        refine c_fin0 ?_
        refine c_mid ?_
        exact ⟨_, (Option.some.inj hF11).symm, hE.sub ⟨rfl, rfl, rfl, rfl, rfl, trivial⟩, hM⟩
    · intro hb8
      have hs5 := ite_f hs5 hb8
      refine wp_exit (e_then (e_then (e_eq ?_)))
      have ht21 := hx6 _ (Option.some.inj hs5).symm
      subst ht21
      refine c_mid ?_
      exact ⟨hE.sub ⟨rfl, rfl, trivial⟩, hM⟩
  · skip
    rintro a w ⟨hE, hM⟩
    refine c_nx ?_
    refine c_region ?_
    refine s_move hE goes_none (by decide) rfl ?_; intro a hE
    refine s_move hE goes_none (by decide) rfl ?_; intro a hE
    obtain ⟨r22, e23, hF3⟩ := bind_some hF3
    refine s_call (vs := [(vI j1), (vI p0), (vI 8)]) hE goes_none (by decide) rfl cb123 (c_impl_rest _ j1 p0 8 r22 e23) ?_
    rintro v w a ⟨rfl, hK⟩ hE
    have hM := hM.keep hK
    refine s_conv hE goes_none (by decide) rfl Try.underlying2 Try.underlying5 ?_; intro a hE
    rw [byteI_val] at hE
    refine s_assign hE goes_none (by decide) rfl ?_; intro a hE
    refine c_fin ?_
    have hr := Option.some.inj hF3
    subst hr
    exact wp_ret (k_ret1 hE rfl (res_tmp hE rfl) ⟨_, rfl, rfl, hM.kept⟩)
noncomputable def L0_impl_field_power (p0 : Int) (s4 : UInt8 × Int × UInt8) : Option (Fl (UInt8 × Int × UInt8) UInt8) :=
  if (decide (s4.2.1 > 0)) = true then (((if ((Int.tmod s4.2.1 2) == 1) = true then ((F_impl_field_times p0 s4.2.2 s4.1).bind fun (r16 : UInt8) => some r16) else (some s4.2.2) : Option (UInt8)).bind fun (j12 : UInt8) => (F_impl_field_times p0 s4.1 s4.1).bind fun (r20 : UInt8) => some (r20, j12) : Option (UInt8 × UInt8)).bind fun (j9 : UInt8 × UInt8) => some (Fl.nx (j9.1, wr (Int.tdiv s4.2.1 2), j9.2))) else (some (Fl.ex s4.2.2))
noncomputable def F_impl_field_power (p0 : Int) (p1 : UInt8) (p2 : Int) : Option (UInt8) :=
  (iter (L0_impl_field_power p0) (p1, p2, 1) : Option (UInt8)).bind fun (j1 : UInt8) => some j1
set_option maxRecDepth 20000 in
set_option maxHeartbeats 400000 in
theorem c_impl_field_power (w0 : World) (p0 : Int) (p1 : UInt8) (p2 : Int) (r : UInt8) (hF : F_impl_field_power p0 p1 p2 = some r) :
    Calls Try.prog 124 [(vI p0), (vB p1), (vI p2)].toArray w0 (fun en w' => ∃ v, en = .returned v ∧ (v = (vB r) ∧ Kept (Old w0) w0 w')) := by
  refine c_enter (n := 24) Try.func124 rfl rfl (Nat.le_of_ble_eq_true rfl) rfl ?_
  intro a hE
  have hM := M.start w0
  unfold F_impl_field_power at hF
  refine c_region ?_
  refine s_assign hE goes_none (by decide) rfl ?_; intro a hE
  refine c_fin ?_
  refine c_region ?_
  refine s_assign hE goes_none (by decide) rfl ?_; intro a hE
  refine c_fin ?_
  obtain ⟨j1, hl2, hF3⟩ := bind_some hF
  refine c_join (fun a w => Env 24 a [(7, (vB j1))] ∧ M (Old w0) w0 w []) ?_ ?_
  · skip
    refine wp_block ?_
    refine c_loop (fun (s4 : UInt8 × Int × UInt8) a w => Env 24 a [(0, (vI p0)), (1, (vB s4.1)), (2, (vI s4.2.1)), (7, (vB s4.2.2))] ∧ M (Old w0) w0 w []) hl2 ⟨hE.sub ⟨rfl, rfl, rfl, rfl, trivial⟩, hM⟩ ?_
    rintro s4 a w ⟨hE, hM⟩ o7 hs5 hx6
    unfold L0_impl_field_power at hs5
    refine wp_seq ?_
    refine c_region ?_
    refine s_move hE goes_none (by decide) rfl ?_; intro a hE
    refine s_int hE goes_none (by decide) rfl rfl rfl ?_; intro a hE
    refine c_fin ?_
    refine c_cond hE rfl ?_ ?_
    · intro hb8
      have hs5 := ite_t hs5 hb8
      refine wp_skip ?_
      refine c_nx ?_
      obtain ⟨j9, hl10, hF11⟩ := bind_some hs5
      refine c_join (fun a w => Env 24 a [(0, (vI p0)), (1, (vB j9.1)), (2, (vI s4.2.1)), (7, (vB j9.2))] ∧ M (Old w0) w0 w []) ?_ ?_
      · skip
        refine wp_block ?_
        obtain ⟨j12, hl13, hF14⟩ := bind_some hl10
        refine c_join (fun a w => Env 24 a [(0, (vI p0)), (1, (vB s4.1)), (2, (vI s4.2.1)), (7, (vB j12))] ∧ M (Old w0) w0 w []) ?_ ?_
        · skip
          refine c_region ?_
          refine s_move hE goes_none (by decide) rfl ?_; intro a hE
          refine s_int hE goes_none (by decide) rfl rfl (bI_rem _ _ (by decide)) ?_; intro a hE
          refine s_int hE goes_none (by decide) rfl rfl rfl ?_; intro a hE
          refine c_fin ?_
          refine c_cond hE rfl ?_ ?_
          · intro hb15
            have hl13 := ite_t hl13 hb15
            refine wp_region_lit ?_
            refine s_move hE goes_none (by decide) rfl ?_; intro a hE
            refine s_move hE goes_none (by decide) rfl ?_; intro a hE
            refine s_move hE goes_none (by decide) rfl ?_; intro a hE
            obtain ⟨r16, e17, hl13⟩ := bind_some hl13
            refine s_call (vs := [(vI p0), (vB s4.2.2), (vB s4.1)]) hE goes_none (by decide) rfl cb71 (c_impl_field_times _ p0 s4.2.2 s4.1 r16 e17) ?_
            rintro v w a ⟨rfl, hK⟩ hE
            have hM := hM.keep hK
            refine s_assign hE goes_none (by decide) rfl ?_; intro a hE
            refine c_fin0 ?_
            have ht18 := Option.some.inj hl13
            subst ht18
            refine c_mid ?_
            exact ⟨hE.sub ⟨rfl, rfl, rfl, rfl, trivial⟩, hM⟩
          · intro hb15
            have hl13 := ite_f hl13 hb15
            refine wp_skip ?_
            have ht19 := Option.some.inj hl13
            subst ht19
            refine c_mid ?_
            exact ⟨hE.sub ⟨rfl, rfl, rfl, rfl, trivial⟩, hM⟩
        · skip
          rintro a w ⟨hE, hM⟩
          refine wp_region_lit ?_
          refine s_move hE goes_none (by decide) rfl ?_; intro a hE
          refine s_move hE goes_none (by decide) rfl ?_; intro a hE
          refine s_move hE goes_none (by decide) rfl ?_; intro a hE
          obtain ⟨r20, e21, hF14⟩ := bind_some hF14
          refine s_call (vs := [(vI p0), (vB s4.1), (vB s4.1)]) hE goes_none (by decide) rfl cb71 (c_impl_field_times _ p0 s4.1 s4.1 r20 e21) ?_
          rintro v w a ⟨rfl, hK⟩ hE
          have hM := hM.keep hK
          refine s_assign hE goes_none (by decide) rfl ?_; intro a hE
          refine c_fin0 ?_
          refine c_nb ?_
          have ht22 := Option.some.inj hF14
          subst ht22
          refine c_mid ?_
          exact ⟨hE.sub ⟨rfl, rfl, rfl, rfl, trivial⟩, hM⟩
      · skip
        rintro a w ⟨hE, hM⟩
        refine wp_region_lit ?_
        refine s_move hE goes_none (by decide) rfl ?_; intro a hE
        refine s_int hE goes_none (by decide) rfl rfl (bI_quo _ _ (by decide)) ?_; intro a hE
        refine s_assign hE goes_none (by decide) rfl ?_; intro a hE
        refine c_fin0 ?_
        refine c_mid ?_
        exact ⟨_, (Option.some.inj hF11).symm, hE.sub ⟨rfl, rfl, rfl, rfl, trivial⟩, hM⟩
    · intro hb8
      have hs5 := ite_f hs5 hb8
      refine wp_exit (e_then (e_then (e_eq ?_)))
      have ht23 := hx6 _ (Option.some.inj hs5).symm
      subst ht23
      refine c_mid ?_
      exact ⟨hE.sub ⟨rfl, trivial⟩, hM⟩
  · skip
    rintro a w ⟨hE, hM⟩
    refine c_region ?_
    refine s_move hE goes_none (by decide) rfl ?_; intro a hE
    refine s_assign hE goes_none (by decide) rfl ?_; intro a hE
    refine c_fin ?_
    have hr := Option.some.inj hF3
    subst hr
    exact wp_ret (k_ret1 hE rfl (res_tmp hE rfl) ⟨_, rfl, rfl, hM.kept⟩)
noncomputable def F_impl_field_inverse (p0 : Int) (p1 : UInt8) : Option (UInt8) :=
  (F_impl_field_power p0 p1 254).bind fun (r1 : UInt8) => some r1
set_option maxRecDepth 20000 in
set_option maxHeartbeats 400000 in
theorem c_impl_field_inverse (w0 : World) (p0 : Int) (p1 : UInt8) (r : UInt8) (hF : F_impl_field_inverse p0 p1 = some r) :
    Calls Try.prog 72 [(vI p0), (vB p1)].toArray w0 (fun en w' => ∃ v, en = .returned v ∧ (v = (vB r) ∧ Kept (Old w0) w0 w')) := by
  refine c_enter (n := 8) Try.func72 rfl rfl (Nat.le_of_ble_eq_true rfl) rfl ?_
  intro a hE
  have hM := M.start w0
  unfold F_impl_field_inverse at hF
  refine c_region ?_
  refine s_assign hE goes_none (by decide) rfl ?_; intro a hE
  refine c_fin ?_
  refine c_region ?_
  refine s_move hE goes_none (by decide) rfl ?_; intro a hE
  refine s_move hE goes_none (by decide) rfl ?_; intro a hE
  obtain ⟨r1, e2, hF⟩ := bind_some hF
  refine s_call (vs := [(vI p0), (vB p1), (vI 254)]) hE goes_none (by decide) rfl cb124 (c_impl_field_power _ p0 p1 254 r1 e2) ?_
  rintro v w a ⟨rfl, hK⟩ hE
  have hM := hM.keep hK
  refine s_assign hE goes_none (by decide) rfl ?_; intro a hE
  refine c_fin ?_
  have hr := Option.some.inj hF
  subst hr
  exact wp_ret (k_ret1 hE rfl (res_tmp hE rfl) ⟨_, rfl, rfl, hM.kept⟩)
noncomputable def L1_impl_field_valuesAt (p0 : Int) (p1 : (List GShare)) (p2 : UInt8) (x25 : GShare) (s38 : UInt8 × Int) : Option (Fl (UInt8 × Int) UInt8) :=
  if (decide (s38.2 < (p1.length : Int))) = true then (((idx p1 s38.2).bind fun (x46 : GShare) => (if (x46.Place != x25.Place) = true then ((F_impl_field_inverse p0 (x25.Place ^^^ x46.Place)).bind fun (r61 : UInt8) => (F_impl_field_times p0 (p2 ^^^ x46.Place) r61).bind fun (r63 : UInt8) => (F_impl_field_times p0 s38.1 r63).bind fun (r65 : UInt8) => some r65) else (some s38.1) : Option (UInt8)).bind fun (j56 : UInt8) => some j56 : Option (UInt8)).bind fun (j43 : UInt8) => some (Fl.nx (j43, wr (s38.2 + 1)))) else (some (Fl.ex s38.1))
noncomputable def L2_impl_field_valuesAt (p0 : Int) (x25 : GShare) (j35 : UInt8) (s76 : Int × (List UInt8)) : Option (Fl (Int × (List UInt8)) (List UInt8)) :=
  if (decide (s76.1 < (x25.Data.length : Int))) = true then ((idx x25.Data s76.1).bind fun (x83 : UInt8) => (idx s76.2 s76.1).bind fun (x87 : UInt8) => (F_impl_field_times p0 x83 j35).bind fun (r90 : UInt8) => (idx s76.2 s76.1).bind fun (x92 : UInt8) => some (Fl.nx (wr (s76.1 + 1), (s76.2.set (s76.1).toNat (x87 ^^^ r90))))) else (some (Fl.ex s76.2))
noncomputable def L0_impl_field_valuesAt (p0 : Int) (p1 : (List GShare)) (p2 : UInt8) (s18 : Int × (List UInt8)) : Option (Fl (Int × (List UInt8)) (List UInt8)) :=
  if (decide (s18.1 < (p1.length : Int))) = true then ((idx p1 s18.1).bind fun (x25 : GShare) => (iter (L1_impl_field_valuesAt p0 p1 p2 x25) (1, 0) : Option (UInt8)).bind fun (j35 : UInt8) => (iter (L2_impl_field_valuesAt p0 x25 j35) (0, s18.2) : Option ((List UInt8))).bind fun (j71 : (List UInt8)) => some (Fl.nx (wr (s18.1 + 1), j71))) else (some (Fl.ex s18.2))
noncomputable def F_impl_field_valuesAt (p0 : Int) (p1 : (List GShare)) (p2 : UInt8) : Option ((List UInt8)) :=
  (idx p1 (0 : Int)).bind fun (x1 : GShare) => (mkS 1 (0 : UInt8) (x1.Data.length : Int)).bind fun (l9 : (List UInt8)) => (iter (L0_impl_field_valuesAt p0 p1 p2) (0, l9) : Option ((List UInt8))).bind fun (j13 : (List UInt8)) => some j13
set_option maxRecDepth 20000 in
set_option maxHeartbeats 400000 in
theorem c_impl_field_valuesAt (w0 : World) (p0 : Int) (p1 : (List GShare)) (v1_1 : Value) (hv1_1 : Ro w0 p1 [v1_1]) (p2 : UInt8) (r : (List UInt8)) (hF : F_impl_field_valuesAt p0 p1 p2 = some r) :
    Calls Try.prog 141 [(vI p0), v1_1, (vB p2)].toArray w0 (fun en w' => ∃ v, en = .returned v ∧ (∃ (y1 : Value), v = y1 ∧ Fr w0 w' [osl NoB (r : List UInt8) y1] ∧ Kept (Old w0) w0 w')) := by
  refine c_enter (n := 76) Try.func141 rfl rfl (Nat.le_of_ble_eq_true rfl) rfl ?_
  intro a hE
  have hM := M.start w0
  unfold F_impl_field_valuesAt at hF
  refine c_region ?_
  refine s_assign hE goes_none (by decide) rfl ?_; intro a hE
  refine c_fin ?_
  refine c_region ?_
  refine s_move hE goes_none (by decide) rfl ?_; intro a hE
  obtain ⟨x1, e2, hF⟩ := bind_some hF
  have hi3 := idx_some e2
  refine s_indexS hE goes_none (by decide) rfl rfl Try.underlying25 ty81 (hM.rd hv1_1) hi3.1 ?_; intro a hE
  refine s_fieldAddr hE goes_none (by decide) rfl (fd81_1) ?_; intro a hE
  obtain ⟨cs4, hs5, hA6⟩ := sl_atRo hv1_1 hi3.2 -- ^
  obtain ⟨u7, rfl, h8⟩ := un_GShare hs5 -- ^
  refine s_load (v := u7) hE goes_none (by decide) rfl ty29 rfl (At.cat (pre := [[(vB x1.Place)]]) (seg := [u7]) (post := []) (hM.atk hA6 (sl_blk hv1_1 hi3.2)) (cl1 (n := 1) (m := 0) rfl cl0)) ?_; intro a hE
  refine s_len hE goes_none (by decide) rfl Try.underlying29 (hM.rd h8) ?_; intro a hE
  obtain ⟨l9, e10, hF⟩ := bind_some hF
  refine s_make hE hM goes_none (by decide) rfl rfl Try.underlying29 ty5 rfl (by decide) (fun _ => sat_flat.2 ⟨rfl, rfl⟩) e10 ?_; intro u11 w a hM hE
  refine s_assign hE goes_none (by decide) rfl ?_; intro a hE
  refine c_fin ?_
  refine wp_seq ?_
  refine c_region ?_
  refine s_move hE goes_none (by decide) rfl ?_; intro a hE
  refine s_len hE goes_none (by decide) rfl Try.underlying25 (hM.rd hv1_1) ?_; intro a hE
  refine s_move hE goes_none (by decide) rfl ?_; intro a hE
  refine c_fin ?_
  obtain ⟨j13, hl14, hF15⟩ := bind_some hF
  refine c_cut (fun a w => ∃ (u16 : Value), Env 76 a [(7, u16)] ∧ M (Old w0) w0 w [osl NoB (j13 : List UInt8) u16]) ?_ ?_
  · skip
    refine wp_block ?_
    refine c_loop (fun (s18 : Int × (List UInt8)) a w => ∃ (u19 : Value), Env 76 a [(0, (vI p0)), (1, v1_1), (2, (vB p2)), (7, u19), (21, v1_1), (22, (vI (p1.length : Int))), (23, (vI s18.1))] ∧ M (Old w0) w0 w [osl NoB (s18.2 : List UInt8) u19]) hl14 ⟨u11, hE.sub ⟨rfl, rfl, rfl, rfl, rfl, rfl, rfl, trivial⟩, hM⟩ ?_
    rintro s18 a w ⟨u19, hE, hM⟩ o23 hs21 hx22
    unfold L0_impl_field_valuesAt at hs21
    refine c_region ?_
    refine s_int hE goes_none (by decide) rfl rfl rfl ?_; intro a hE
    refine c_fin ?_
    refine wp_seq ?_
    refine c_cond hE rfl ?_ ?_
    · intro hb24
      have hs21 := ite_t hs21 hb24
      refine wp_skip ?_
      refine c_nx ?_
      refine wp_seq ?_
      refine wp_block ?_
      refine c_region ?_
      obtain ⟨x25, e26, hs21⟩ := bind_some hs21
      have hi27 := idx_some e26
      refine s_indexS hE goes_none (by decide) rfl rfl Try.underlying25 ty81 (hM.rd hv1_1) hi27.1 ?_; intro a hE
      obtain ⟨cs28, hs29, hA30⟩ := sl_atRo hv1_1 hi27.2 -- ^
      obtain ⟨u31, rfl, h32⟩ := un_GShare hs29 -- ^
      refine s_loadA (cs := cat [[(vB x25.Place)], [u31]]) hE goes_none (by decide) rfl ty81 rfl (hM.atk hA30 (sl_blk hv1_1 hi27.2)) (cat_len (cl1 (n := 1) (m := 1) rfl (cl1 (n := 1) (m := 0) rfl cl0))) ?_; intro a hE
      refine s_alloc hE hM goes_none (by decide) ty81 ?_; intro b33 w a hM hE
      refine s_store (seg := cat [[(vB x25.Place)], [u31]]) (cs' := cat [[(vB x25.Place)], [u31]]) hE hM goes_none rfl rfl rfl ty81 (cat_len (cl1 (n := 1) (m := 1) rfl (cl1 (n := 1) (m := 0) rfl cl0))) (Nat.le_of_eq ((Nat.zero_add _).trans (Eq.trans (cat_len (cl1 (n := 1) (m := 1) rfl (cl1 (n := 1) (m := 0) rfl cl0))) (Eq.symm (cat_len (cl1 (n := 1) (m := 1) rfl (cl1 (n := 1) (m := 0) rfl cl0))))))) (cat_cell (cc1 (Flat.cell (x25.Place : UInt8)) (cc1 (Rep.cell (hM.rd h32)) cc0))) (splice_all (Eq.trans (cat_len (cl1 (n := 1) (m := 1) rfl (cl1 (n := 1) (m := 0) rfl cl0))) (Eq.symm (cat_len (cl1 (n := 1) (m := 1) rfl (cl1 (n := 1) (m := 0) rfl cl0)))))) ?_; intro w a hM hE
      refine c_fin ?_
      refine c_region ?_
      refine s_assign hE goes_none (by decide) rfl ?_; intro a hE
      refine c_fin ?_
      refine wp_seq ?_
      refine c_region ?_
      refine s_move hE goes_none (by decide) rfl ?_; intro a hE
      refine s_len hE goes_none (by decide) rfl Try.underlying25 (hM.rd hv1_1) ?_; intro a hE
      refine s_move hE goes_none (by decide) rfl ?_; intro a hE
      refine c_fin ?_
      obtain ⟨j35, hl36, hF37⟩ := bind_some hs21
      refine c_cut (fun a w => Env 76 a [(0, (vI p0)), (1, v1_1), (2, (vB p2)), (7, u19), (9, (ptr b33 0)), (10, (vB j35)), (21, v1_1), (22, (vI (p1.length : Int))), (23, (vI s18.1))] ∧ M (Old w0) w0 w [raw b33 (cat [[(vB x25.Place)], [u31]]), osl NoB (s18.2 : List UInt8) u19]) ?_ ?_
      · skip
        refine wp_block ?_
        refine c_loop (fun (s38 : UInt8 × Int) a w => Env 76 a [(0, (vI p0)), (1, v1_1), (2, (vB p2)), (7, u19), (9, (ptr b33 0)), (10, (vB s38.1)), (21, v1_1), (22, (vI (p1.length : Int))), (23, (vI s18.1)), (27, v1_1), (28, (vI (p1.length : Int))), (29, (vI s38.2))] ∧ M (Old w0) w0 w [raw b33 (cat [[(vB x25.Place)], [u31]]), osl NoB (s18.2 : List UInt8) u19]) hl36 ⟨hE.sub ⟨rfl, rfl, rfl, rfl, rfl, rfl, rfl, rfl, rfl, rfl, rfl, rfl, trivial⟩, hM⟩ ?_
        rintro s38 a w ⟨hE, hM⟩ o41 hs39 hx40
        unfold L1_impl_field_valuesAt at hs39
        refine c_region ?_
        refine s_int hE goes_none (by decide) rfl rfl rfl ?_; intro a hE
        refine c_fin ?_
        refine wp_seq ?_
        refine c_cond hE rfl ?_ ?_
        · intro hb42
          have hs39 := ite_t hs39 hb42
          refine wp_skip ?_
          refine c_nx ?_
          obtain ⟨j43, hl44, hF45⟩ := bind_some hs39
          refine c_join (fun a w => Env 76 a [(0, (vI p0)), (1, v1_1), (2, (vB p2)), (7, u19), (9, (ptr b33 0)), (10, (vB j43)), (21, v1_1), (22, (vI (p1.length : Int))), (23, (vI s18.1)), (27, v1_1), (28, (vI (p1.length : Int))), (29, (vI s38.2))] ∧ M (Old w0) w0 w [raw b33 (cat [[(vB x25.Place)], [u31]]), osl NoB (s18.2 : List UInt8) u19]) ?_ ?_
          · skip
            refine wp_block ?_
            refine c_region ?_
            obtain ⟨x46, e47, hl44⟩ := bind_some hl44
            have hi48 := idx_some e47
            refine s_indexS hE goes_none (by decide) rfl rfl Try.underlying25 ty81 (hM.rd hv1_1) hi48.1 ?_; intro a hE
            obtain ⟨cs49, hs50, hA51⟩ := sl_atRo hv1_1 hi48.2 -- ^
            obtain ⟨u52, rfl, h53⟩ := un_GShare hs50 -- ^
            refine s_loadA (cs := cat [[(vB x46.Place)], [u52]]) hE goes_none (by decide) rfl ty81 rfl (hM.atk hA51 (sl_blk hv1_1 hi48.2)) (cat_len (cl1 (n := 1) (m := 1) rfl (cl1 (n := 1) (m := 0) rfl cl0))) ?_; intro a hE
            refine s_alloc hE hM goes_none (by decide) ty81 ?_; intro b54 w a hM hE
            refine s_store (seg := cat [[(vB x46.Place)], [u52]]) (cs' := cat [[(vB x46.Place)], [u52]]) hE hM goes_none rfl rfl rfl ty81 (cat_len (cl1 (n := 1) (m := 1) rfl (cl1 (n := 1) (m := 0) rfl cl0))) (Nat.le_of_eq ((Nat.zero_add _).trans (Eq.trans (cat_len (cl1 (n := 1) (m := 1) rfl (cl1 (n := 1) (m := 0) rfl cl0))) (Eq.symm (cat_len (cl1 (n := 1) (m := 1) rfl (cl1 (n := 1) (m := 0) rfl cl0))))))) (cat_cell (cc1 (Flat.cell (x46.Place : UInt8)) (cc1 (Rep.cell (hM.rd h53)) cc0))) (splice_all (Eq.trans (cat_len (cl1 (n := 1) (m := 1) rfl (cl1 (n := 1) (m := 0) rfl cl0))) (Eq.symm (cat_len (cl1 (n := 1) (m := 1) rfl (cl1 (n := 1) (m := 0) rfl cl0)))))) ?_; intro w a hM hE
            refine c_fin ?_
            refine c_region ?_
            refine s_fieldAddr hE goes_none (by decide) rfl (fd81_0) ?_; intro a hE
            refine s_load (v := (vB x46.Place)) hE goes_none (by decide) rfl ty5 rfl (At.cat (pre := []) (seg := [(vB x46.Place)]) (post := [[u52]]) (hM.rawAt (pre := [])) cl0) ?_; intro a hE
            refine s_fieldAddr hE goes_none (by decide) rfl (fd81_0) ?_; intro a hE
            refine s_load (v := (vB x25.Place)) hE goes_none (by decide) rfl ty5 rfl (At.cat (pre := []) (seg := [(vB x25.Place)]) (post := [[u31]]) (hM.rawAt (pre := [_])) cl0) ?_; intro a hE
            refine s_int hE goes_none (by decide) rfl rfl (bB_neq x46.Place x25.Place) ?_; intro a hE
            refine c_fin ?_
            obtain ⟨j56, hl57, hF58⟩ := bind_some hl44
            refine c_cut (fun a w => Env 76 a [(0, (vI p0)), (1, v1_1), (2, (vB p2)), (7, u19), (9, (ptr b33 0)), (10, (vB j56)), (21, v1_1), (22, (vI (p1.length : Int))), (23, (vI s18.1)), (27, v1_1), (28, (vI (p1.length : Int))), (29, (vI s38.2))] ∧ M (Old w0) w0 w [raw b33 (cat [[(vB x25.Place)], [u31]]), osl NoB (s18.2 : List UInt8) u19]) ?_ ?_
            · skip
              refine c_cond hE rfl ?_ ?_
              · intro hb59
                have hl57 := ite_t hl57 hb59
                obtain ⟨r61, e62, hl57⟩ := bind_some hl57
                obtain ⟨r63, e64, hl57⟩ := bind_some hl57
                obtain ⟨r65, e66, hl57⟩ := bind_some hl57
                refine c_draw (n := 76) (hd := [_, _, _, _, _, _, _, _, _, _, _, _, _, _, _, _]) (tl := [_]) hmix rfl rfl [38, 39, 40, 41, 42, 43, 44, 45, 46, 47, 48, 49, 50, 51, 52, 53] (by decide) (fun w => M (Old w0) w0 w [raw b54 (cat [[(vB x46.Place)], [u52]]), raw b33 (cat [[(vB x25.Place)], [u31]]), osl NoB (s18.2 : List UInt8) u19]) (fun j => ([fun v _ => v = (vI p0), fun v _ => v = (vB s38.1), fun v _ => v = (vI p0), fun v _ => v = (vB p2), fun v _ => v = (ptr b54 (0 + 0)), fun v _ => v = (vB x46.Place), fun v _ => v = (vB (p2 ^^^ x46.Place)), fun v _ => v = (vI p0), fun v _ => v = (ptr b33 (0 + 0)), fun v _ => v = (vB x25.Place), fun v _ => v = (ptr b54 (0 + 0)), fun v _ => v = (vB x46.Place), fun v _ => v = (vB (x25.Place ^^^ x46.Place)), fun v _ => v = (vB r61), fun v _ => v = (vB r63), fun v _ => v = (vB r65)] : List (Value → World → Prop)).getD j (fun _ _ => True)) (fun _ _ h hk => h.keep hk) (gup (gupE (gupE (gupE (gupE (gupE (gupE (gupE (gupE (gupE (gupE (gupE (gupE (gupE (gupE (gupE (gupE gupN))))))))))))))))) hE hM.drew (steps_of (steps_cons ?_ (steps_cons ?_ (steps_cons ?_ (steps_cons ?_ (steps_cons ?_ (steps_cons ?_ (steps_cons ?_ (steps_cons ?_ (steps_cons ?_ (steps_cons ?_ (steps_cons ?_ (steps_cons ?_ (steps_cons ?_ (steps_cons ?_ (steps_cons ?_ (steps_cons ?_ steps_nil))))))))))))))))) ?_
                · intro a w ux60 hE hM hp
                  refine s_move hE goes_none (by decide) rfl ?_; intro a hE
                  exact ⟨Kept.refl _ _, _, _, rfl, hE, rfl⟩
                · intro a w ux60 hE hM hp
                  refine s_move hE goes_none (by decide) rfl ?_; intro a hE
                  exact ⟨Kept.refl _ _, _, _, rfl, hE, rfl⟩
                · intro a w ux60 hE hM hp
                  refine s_move hE goes_none (by decide) rfl ?_; intro a hE
                  exact ⟨Kept.refl _ _, _, _, rfl, hE, rfl⟩
                · intro a w ux60 hE hM hp
                  refine s_move hE goes_none (by decide) rfl ?_; intro a hE
                  exact ⟨Kept.refl _ _, _, _, rfl, hE, rfl⟩
                · intro a w ux60 hE hM hp
                  refine s_fieldAddr hE goes_none (by decide) rfl (fd81_0) ?_; intro a hE
                  exact ⟨Kept.refl _ _, _, _, rfl, hE, rfl⟩
                · intro a w ux60 hE hM hp
                  have f4 : ux60 4 = (ptr b54 (0 + 0)) := hp 0 _ rfl rfl
                  refine s_load (v := (vB x46.Place)) hE goes_none (by decide) (lk rfl f4) ty5 rfl (At.cat (pre := []) (seg := [(vB x46.Place)]) (post := [[u52]]) (hM.rawAt (pre := [])) cl0) ?_; intro a hE
                  exact ⟨Kept.refl _ _, _, _, rfl, hE, rfl⟩
                · intro a w ux60 hE hM hp
                  have f3 : ux60 3 = (vB p2) := hp 0 _ rfl rfl
                  have f5 : ux60 5 = (vB x46.Place) := hp 1 _ rfl rfl
                  refine s_int hE goes_none (by decide) (lk rfl f3) (lk rfl f5) (bB_xor p2 x46.Place) ?_; intro a hE
                  exact ⟨Kept.refl _ _, _, _, rfl, hE, rfl⟩
                · intro a w ux60 hE hM hp
                  refine s_move hE goes_none (by decide) rfl ?_; intro a hE
                  exact ⟨Kept.refl _ _, _, _, rfl, hE, rfl⟩
                · intro a w ux60 hE hM hp
                  refine s_fieldAddr hE goes_none (by decide) rfl (fd81_0) ?_; intro a hE
                  exact ⟨Kept.refl _ _, _, _, rfl, hE, rfl⟩
                · intro a w ux60 hE hM hp
                  have f8 : ux60 8 = (ptr b33 (0 + 0)) := hp 0 _ rfl rfl
                  refine s_load (v := (vB x25.Place)) hE goes_none (by decide) (lk rfl f8) ty5 rfl (At.cat (pre := []) (seg := [(vB x25.Place)]) (post := [[u31]]) (hM.rawAt (pre := [_])) cl0) ?_; intro a hE
                  exact ⟨Kept.refl _ _, _, _, rfl, hE, rfl⟩
                · intro a w ux60 hE hM hp
                  refine s_fieldAddr hE goes_none (by decide) rfl (fd81_0) ?_; intro a hE
                  exact ⟨Kept.refl _ _, _, _, rfl, hE, rfl⟩
                · intro a w ux60 hE hM hp
                  have f10 : ux60 10 = (ptr b54 (0 + 0)) := hp 0 _ rfl rfl
                  refine s_load (v := (vB x46.Place)) hE goes_none (by decide) (lk rfl f10) ty5 rfl (At.cat (pre := []) (seg := [(vB x46.Place)]) (post := [[u52]]) (hM.rawAt (pre := [])) cl0) ?_; intro a hE
                  exact ⟨Kept.refl _ _, _, _, rfl, hE, rfl⟩
                · intro a w ux60 hE hM hp
                  have f9 : ux60 9 = (vB x25.Place) := hp 0 _ rfl rfl
                  have f11 : ux60 11 = (vB x46.Place) := hp 1 _ rfl rfl
                  refine s_int hE goes_none (by decide) (lk rfl f9) (lk rfl f11) (bB_xor x25.Place x46.Place) ?_; intro a hE
                  exact ⟨Kept.refl _ _, _, _, rfl, hE, rfl⟩
                · intro a w ux60 hE hM hp
                  have f7 : ux60 7 = (vI p0) := hp 0 _ rfl rfl
                  have f12 : ux60 12 = (vB (x25.Place ^^^ x46.Place)) := hp 1 _ rfl rfl
                  refine s_call (vs := [(vI p0), (vB (x25.Place ^^^ x46.Place))]) hE goes_none (by decide) (evs_of (evsC (lk rfl f7) (evsC (lk rfl f12) evsN))) cb72 (c_impl_field_inverse _ p0 (x25.Place ^^^ x46.Place) r61 e62) ?_
                  rintro v w a ⟨rfl, hK⟩ hE
                  exact ⟨hK, _, _, rfl, hE, rfl⟩
                · intro a w ux60 hE hM hp
                  have f2 : ux60 2 = (vI p0) := hp 0 _ rfl rfl
                  have f6 : ux60 6 = (vB (p2 ^^^ x46.Place)) := hp 1 _ rfl rfl
                  have f13 : ux60 13 = (vB r61) := hp 2 _ rfl rfl
                  refine s_call (vs := [(vI p0), (vB (p2 ^^^ x46.Place)), (vB r61)]) hE goes_none (by decide) (evs_of (evsC (lk rfl f2) (evsC (lk rfl f6) (evsC (lk rfl f13) evsN)))) cb71 (c_impl_field_times _ p0 (p2 ^^^ x46.Place) r61 r63 e64) ?_
                  rintro v w a ⟨rfl, hK⟩ hE
                  exact ⟨hK, _, _, rfl, hE, rfl⟩
                · intro a w ux60 hE hM hp
                  have f0 : ux60 0 = (vI p0) := hp 0 _ rfl rfl
                  have f1 : ux60 1 = (vB s38.1) := hp 1 _ rfl rfl
                  have f14 : ux60 14 = (vB r63) := hp 2 _ rfl rfl
                  refine s_call (vs := [(vI p0), (vB s38.1), (vB r63)]) hE goes_none (by decide) (evs_of (evsC (lk rfl f0) (evsC (lk rfl f1) (evsC (lk rfl f14) evsN)))) cb71 (c_impl_field_times _ p0 s38.1 r63 r65 e66) ?_
                  rintro v w a ⟨rfl, hK⟩ hE
                  exact ⟨hK, _, _, rfl, hE, rfl⟩
                · intro a w ux60 hE hM hg
                  have f0 : ux60 0 = (vI p0) := hg 0 (by decide)
                  have f1 : ux60 1 = (vB s38.1) := hg 1 (by decide)
                  have f2 : ux60 2 = (vI p0) := hg 2 (by decide)
                  have f3 : ux60 3 = (vB p2) := hg 3 (by decide)
                  have f4 : ux60 4 = (ptr b54 (0 + 0)) := hg 4 (by decide)
                  have f5 : ux60 5 = (vB x46.Place) := hg 5 (by decide)
                  have f6 : ux60 6 = (vB (p2 ^^^ x46.Place)) := hg 6 (by decide)
                  have f7 : ux60 7 = (vI p0) := hg 7 (by decide)
                  have f8 : ux60 8 = (ptr b33 (0 + 0)) := hg 8 (by decide)
                  have f9 : ux60 9 = (vB x25.Place) := hg 9 (by decide)
                  have f10 : ux60 10 = (ptr b54 (0 + 0)) := hg 10 (by decide)
                  have f11 : ux60 11 = (vB x46.Place) := hg 11 (by decide)
                  have f12 : ux60 12 = (vB (x25.Place ^^^ x46.Place)) := hg 12 (by decide)
                  have f13 : ux60 13 = (vB r61) := hg 13 (by decide)
                  have f14 : ux60 14 = (vB r63) := hg 14 (by decide)
                  have f15 : ux60 15 = (vB r65) := hg 15 (by decide)
                  have hE := hE.sub (e' := [(38, (vI p0)), (39, (vB s38.1)), (40, (vI p0)), (41, (vB p2)), (42, (ptr b54 (0 + 0))), (43, (vB x46.Place)), (44, (vB (p2 ^^^ x46.Place))), (45, (vI p0)), (46, (ptr b33 (0 + 0))), (47, (vB x25.Place)), (48, (ptr b54 (0 + 0))), (49, (vB x46.Place)), (50, (vB (x25.Place ^^^ x46.Place))), (51, (vB r61)), (52, (vB r63)), (53, (vB r65)), (0, (vI p0)), (1, v1_1), (2, (vB p2)), (7, u19), (9, (ptr b33 0)), (10, (vB s38.1)), (12, (ptr b54 0)), (21, v1_1), (22, (vI (p1.length : Int))), (23, (vI s18.1)), (27, v1_1), (28, (vI (p1.length : Int))), (29, (vI s38.2)), (30, (vT (decide (s38.2 < (p1.length : Int))))), (31, (ptr (sb v1_1) (so v1_1 + (s38.2).toNat * 2))), (32, (Value.agg (cat [[(vB x46.Place)], [u52]]).toArray)), (33, (ptr b54 (0 + 0))), (34, (vB x46.Place)), (35, (ptr b33 (0 + 0))), (36, (vB x25.Place)), (37, (vT (x46.Place != x25.Place)))]) ⟨lk rfl f0, lk rfl f1, lk rfl f2, lk rfl f3, lk rfl f4, lk rfl f5, lk rfl f6, lk rfl f7, lk rfl f8, lk rfl f9, lk rfl f10, lk rfl f11, lk rfl f12, lk rfl f13, lk rfl f14, lk rfl f15, rfl, rfl, rfl, rfl, rfl, rfl, rfl, rfl, rfl, rfl, rfl, rfl, rfl, rfl, rfl, rfl, rfl, rfl, rfl, rfl, rfl, trivial⟩
                  refine s_assign hE goes_none (by decide) rfl ?_; intro a hE
                  refine c_fin0 ?_
                  have ht67 := Option.some.inj hl57
                  subst ht67
                  refine c_mid ?_
                  have hM := hM.pull (pre := [_, _])
                  have hM := hM.pull (pre := [_, _])
                  have hM := M.fst (l := [_, _]) hM
                  exact ⟨hE.sub ⟨rfl, rfl, rfl, rfl, rfl, rfl, rfl, rfl, rfl, rfl, rfl, rfl, trivial⟩, hM⟩
              · intro hb59
                have hl57 := ite_f hl57 hb59
                refine wp_skip ?_
                have ht68 := Option.some.inj hl57
                subst ht68
                refine c_mid ?_
                have hM := hM.pull (pre := [_, _])
                have hM := hM.pull (pre := [_, _])
                have hM := M.fst (l := [_, _]) hM
                exact ⟨hE.sub ⟨rfl, rfl, rfl, rfl, rfl, rfl, rfl, rfl, rfl, rfl, rfl, rfl, trivial⟩, hM⟩
            · skip
              rintro a w ⟨hE, hM⟩
              refine c_nb ?_
              have ht69 := Option.some.inj hF58
              subst ht69
              refine c_mid ?_
              exact ⟨hE.sub ⟨rfl, rfl, rfl, rfl, rfl, rfl, rfl, rfl, rfl, rfl, rfl, rfl, trivial⟩, hM⟩
          · skip
            rintro a w ⟨hE, hM⟩
            refine wp_region_lit ?_
            refine s_int hE goes_none (by decide) rfl rfl rfl ?_; intro a hE
            refine s_move hE goes_none (by decide) rfl ?_; intro a hE
            refine c_fin0 ?_
            refine c_mid ?_
            exact ⟨_, (Option.some.inj hF45).symm, hE.sub ⟨rfl, rfl, rfl, rfl, rfl, rfl, rfl, rfl, rfl, rfl, rfl, rfl, trivial⟩, hM⟩
        · intro hb42
          have hs39 := ite_f hs39 hb42
          refine wp_exit (e_then (e_then (e_eq ?_)))
          have ht70 := hx40 _ (Option.some.inj hs39).symm
          subst ht70
          refine c_mid ?_
          exact ⟨hE.sub ⟨rfl, rfl, rfl, rfl, rfl, rfl, rfl, rfl, rfl, trivial⟩, hM⟩
      · skip
        rintro a w ⟨hE, hM⟩
        refine c_nx ?_
        refine c_region ?_
        refine s_fieldAddr hE goes_none (by decide) rfl (fd81_1) ?_; intro a hE
        refine s_load (v := u31) hE goes_none (by decide) rfl ty29 rfl (At.cat (pre := [[(vB x25.Place)]]) (seg := [u31]) (post := []) (hM.rawAt (pre := [])) (cl1 (n := 1) (m := 0) rfl cl0)) ?_; intro a hE
        refine s_len hE goes_none (by decide) rfl Try.underlying29 (hM.rd h32) ?_; intro a hE
        refine s_move hE goes_none (by decide) rfl ?_; intro a hE
        refine c_fin ?_
        obtain ⟨j71, hl72, hF73⟩ := bind_some hF37
        refine c_cut (fun a w => ∃ (u74 : Value), Env 76 a [(0, (vI p0)), (1, v1_1), (2, (vB p2)), (7, u74), (21, v1_1), (22, (vI (p1.length : Int))), (23, (vI s18.1))] ∧ M (Old w0) w0 w [osl NoB (j71 : List UInt8) u74]) ?_ ?_
        · skip
          refine wp_block ?_
          have hM := hM.pull (pre := [_])
          have hM := M.fst (l := [_]) hM
          refine c_loop (fun (s76 : Int × (List UInt8)) a w => ∃ (u77 : Value), Env 76 a [(0, (vI p0)), (1, v1_1), (2, (vB p2)), (7, u77), (10, (vB j35)), (21, v1_1), (22, (vI (p1.length : Int))), (23, (vI s18.1)), (56, u31), (57, (vI (x25.Data.length : Int))), (58, (vI s76.1))] ∧ M (Old w0) w0 w [osl NoB (s76.2 : List UInt8) u77]) hl72 ⟨u19, hE.sub ⟨rfl, rfl, rfl, rfl, rfl, rfl, rfl, rfl, rfl, rfl, rfl, trivial⟩, hM⟩ ?_
          rintro s76 a w ⟨u77, hE, hM⟩ o81 hs79 hx80
          unfold L2_impl_field_valuesAt at hs79
          refine c_region ?_
          refine s_int hE goes_none (by decide) rfl rfl rfl ?_; intro a hE
          refine c_fin ?_
          refine wp_seq ?_
          refine c_cond hE rfl ?_ ?_
          · intro hb82
            have hs79 := ite_t hs79 hb82
            refine wp_skip ?_
            refine c_nx ?_
            refine wp_seq ?_
            refine wp_block ?_
            refine c_region ?_
            refine s_move hE goes_none (by decide) rfl ?_; intro a hE
            obtain ⟨x83, e84, hs79⟩ := bind_some hs79
            have hi85 := idx_some e84
            refine s_indexS hE goes_none (by decide) rfl rfl Try.underlying29 ty5 (hM.rd h32) hi85.1 ?_; intro a hE
            refine s_load (v := (vB x83)) hE goes_none (by decide) rfl ty5 rfl (sl_atF (hM.rd h32) hi85.2) ?_; intro a hE
            refine s_assign hE goes_none (by decide) rfl ?_; intro a hE
            refine s_assign hE goes_none (by decide) rfl ?_; intro a hE
            refine c_fin ?_
            obtain ⟨x87, e88, hs79⟩ := bind_some hs79
            have hi89 := idx_some e88
            obtain ⟨r90, e91, hs79⟩ := bind_some hs79
            obtain ⟨x92, e93, hs79⟩ := bind_some hs79
            have hi94 := idx_some e93
            refine c_draw (n := 76) (hd := [_, _, _, _, _, _, _, _, _, _]) (tl := [_]) hmix rfl rfl [63, 64, 65, 66, 67, 68, 69, 70, 71, 72] (by decide) (fun w => M (Old w0) w0 w [osl NoB (s76.2 : List UInt8) u77]) (fun j => ([fun v _ => v = u77, fun v _ => v = (vI s76.1), fun v _ => v = (ptr (sb u77) (so u77 + (s76.1).toNat * 1)), fun v _ => v = (vB x87), fun v _ => v = (vI p0), fun v _ => v = (vB x83), fun v _ => v = (vB j35), fun v _ => v = (vB r90), fun v _ => v = (vB (x87 ^^^ r90)), fun v _ => v = (ptr (sb u77) (so u77 + (s76.1).toNat * 1))] : List (Value → World → Prop)).getD j (fun _ _ => True)) (fun _ _ h hk => h.keep hk) (gup (gupE (gupE (gupE (gupE (gupE (gupE (gupE (gupE (gupE (gupE gupN))))))))))) hE hM.drew (steps_of (steps_cons ?_ (steps_cons ?_ (steps_cons ?_ (steps_cons ?_ (steps_cons ?_ (steps_cons ?_ (steps_cons ?_ (steps_cons ?_ (steps_cons ?_ (steps_cons ?_ steps_nil))))))))))) ?_
            · intro a w ux86 hE hM hp
              refine s_move hE goes_none (by decide) rfl ?_; intro a hE
              exact ⟨Kept.refl _ _, _, _, rfl, hE, rfl⟩
            · intro a w ux86 hE hM hp
              refine s_move hE goes_none (by decide) rfl ?_; intro a hE
              exact ⟨Kept.refl _ _, _, _, rfl, hE, rfl⟩
            · intro a w ux86 hE hM hp
              have f0 : ux86 0 = u77 := hp 0 _ rfl rfl
              have f1 : ux86 1 = (vI s76.1) := hp 1 _ rfl rfl
              refine s_indexS hE goes_none (by decide) (lk rfl f0) (lk rfl f1) Try.underlying29 ty5 (hM.sl (pre := []) noB) hi89.1 ?_; intro a hE
              exact ⟨Kept.refl _ _, _, _, rfl, hE, rfl⟩
            · intro a w ux86 hE hM hp
              have f2 : ux86 2 = (ptr (sb u77) (so u77 + (s76.1).toNat * 1)) := hp 0 _ rfl rfl
              refine s_load (v := (vB x87)) hE goes_none (by decide) (lk rfl f2) ty5 rfl (sl_atF (hM.sl (pre := []) noB) hi89.2) ?_; intro a hE
              exact ⟨Kept.refl _ _, _, _, rfl, hE, rfl⟩
            · intro a w ux86 hE hM hp
              refine s_move hE goes_none (by decide) rfl ?_; intro a hE
              exact ⟨Kept.refl _ _, _, _, rfl, hE, rfl⟩
            · intro a w ux86 hE hM hp
              refine s_move hE goes_none (by decide) rfl ?_; intro a hE
              exact ⟨Kept.refl _ _, _, _, rfl, hE, rfl⟩
            · intro a w ux86 hE hM hp
              refine s_move hE goes_none (by decide) rfl ?_; intro a hE
              exact ⟨Kept.refl _ _, _, _, rfl, hE, rfl⟩
            · intro a w ux86 hE hM hp
              have f4 : ux86 4 = (vI p0) := hp 0 _ rfl rfl
              have f5 : ux86 5 = (vB x83) := hp 1 _ rfl rfl
              have f6 : ux86 6 = (vB j35) := hp 2 _ rfl rfl
              refine s_call (vs := [(vI p0), (vB x83), (vB j35)]) hE goes_none (by decide) (evs_of (evsC (lk rfl f4) (evsC (lk rfl f5) (evsC (lk rfl f6) evsN)))) cb71 (c_impl_field_times _ p0 x83 j35 r90 e91) ?_
              rintro v w a ⟨rfl, hK⟩ hE
              exact ⟨hK, _, _, rfl, hE, rfl⟩
            · intro a w ux86 hE hM hp
              have f3 : ux86 3 = (vB x87) := hp 0 _ rfl rfl
              have f7 : ux86 7 = (vB r90) := hp 1 _ rfl rfl
              refine s_int hE goes_none (by decide) (lk rfl f3) (lk rfl f7) (bB_xor x87 r90) ?_; intro a hE
              exact ⟨Kept.refl _ _, _, _, rfl, hE, rfl⟩
            · intro a w ux86 hE hM hp
              have f0 : ux86 0 = u77 := hp 0 _ rfl rfl
              have f1 : ux86 1 = (vI s76.1) := hp 1 _ rfl rfl
              refine s_indexS hE goes_none (by decide) (lk rfl f0) (lk rfl f1) Try.underlying29 ty5 (hM.sl (pre := []) noB) hi94.1 ?_; intro a hE
              exact ⟨Kept.refl _ _, _, _, rfl, hE, rfl⟩
            · intro a w ux86 hE hM hg
              have f0 : ux86 0 = u77 := hg 0 (by decide)
              have f1 : ux86 1 = (vI s76.1) := hg 1 (by decide)
              have f2 : ux86 2 = (ptr (sb u77) (so u77 + (s76.1).toNat * 1)) := hg 2 (by decide)
              have f3 : ux86 3 = (vB x87) := hg 3 (by decide)
              have f4 : ux86 4 = (vI p0) := hg 4 (by decide)
              have f5 : ux86 5 = (vB x83) := hg 5 (by decide)
              have f6 : ux86 6 = (vB j35) := hg 6 (by decide)
              have f7 : ux86 7 = (vB r90) := hg 7 (by decide)
              have f8 : ux86 8 = (vB (x87 ^^^ r90)) := hg 8 (by decide)
              have f9 : ux86 9 = (ptr (sb u77) (so u77 + (s76.1).toNat * 1)) := hg 9 (by decide)
              have hE := hE.sub (e' := [(63, u77), (64, (vI s76.1)), (65, (ptr (sb u77) (so u77 + (s76.1).toNat * 1))), (66, (vB x87)), (67, (vI p0)), (68, (vB x83)), (69, (vB j35)), (70, (vB r90)), (71, (vB (x87 ^^^ r90))), (72, (ptr (sb u77) (so u77 + (s76.1).toNat * 1))), (0, (vI p0)), (1, v1_1), (2, (vB p2)), (7, u77), (10, (vB j35)), (13, (vI s76.1)), (14, (vB x83)), (21, v1_1), (22, (vI (p1.length : Int))), (23, (vI s18.1)), (56, u31), (57, (vI (x25.Data.length : Int))), (58, (vI s76.1)), (59, (vT (decide (s76.1 < (x25.Data.length : Int))))), (60, (vI s76.1)), (61, (ptr (sb u31) (so u31 + (s76.1).toNat * 1))), (62, (vB x83))]) ⟨lk rfl f0, lk rfl f1, lk rfl f2, lk rfl f3, lk rfl f4, lk rfl f5, lk rfl f6, lk rfl f7, lk rfl f8, lk rfl f9, rfl, rfl, rfl, rfl, rfl, rfl, rfl, rfl, rfl, rfl, rfl, rfl, rfl, rfl, rfl, rfl, rfl, trivial⟩
              refine s_storeS (i := (s76.1).toNat) (k0 := 0) (seg := [(vB (x87 ^^^ r90))]) (xo := x92) (xn := x87 ^^^ r90) hE hM goes_none rfl rfl rfl ty5 rfl (Flat.cell (x87 ^^^ r90 : UInt8)) hi94.2 (fit_num (m := 1) rfl (by decide)) (splice_all (Eq.trans rfl (Eq.symm rfl))) ?_; intro w a hM hE
              refine c_fin0 ?_
              refine c_nb ?_
              refine c_nx ?_
              refine wp_region_lit ?_
              refine s_int hE goes_none (by decide) rfl rfl rfl ?_; intro a hE
              refine s_move hE goes_none (by decide) rfl ?_; intro a hE
              refine c_fin0 ?_
              refine c_mid ?_
              exact ⟨_, (Option.some.inj hs79).symm, u77, hE.sub ⟨rfl, rfl, rfl, rfl, rfl, rfl, rfl, rfl, rfl, rfl, rfl, trivial⟩, hM⟩
          · intro hb82
            have hs79 := ite_f hs79 hb82
            refine wp_exit (e_then (e_then (e_eq ?_)))
            have ht95 := hx80 _ (Option.some.inj hs79).symm
            subst ht95
            refine c_mid ?_
            exact ⟨u77, hE.sub ⟨rfl, rfl, rfl, rfl, rfl, rfl, rfl, trivial⟩, hM⟩
        · skip
          rintro a w ⟨u74, hE, hM⟩
          refine c_nb ?_
          refine c_nx ?_
          refine wp_region_lit ?_
          refine s_int hE goes_none (by decide) rfl rfl rfl ?_; intro a hE
          refine s_move hE goes_none (by decide) rfl ?_; intro a hE
          refine c_fin0 ?_
          refine c_mid ?_
          exact ⟨_, (Option.some.inj hF73).symm, u74, hE.sub ⟨rfl, rfl, rfl, rfl, rfl, rfl, rfl, trivial⟩, hM⟩
    · intro hb24
      have hs21 := ite_f hs21 hb24
      refine wp_exit (e_then (e_then (e_eq ?_)))
      have ht96 := hx22 _ (Option.some.inj hs21).symm
      subst ht96
      refine c_mid ?_
      exact ⟨u19, hE.sub ⟨rfl, trivial⟩, hM⟩
  · skip
    rintro a w ⟨u16, hE, hM⟩
    refine c_nx ?_
    refine c_region ?_
    refine s_move hE goes_none (by decide) rfl ?_; intro a hE
    refine s_assign hE goes_none (by decide) rfl ?_; intro a hE
    refine c_fin ?_
    have hr := Option.some.inj hF15
    subst hr
    exact wp_ret (k_ret1 hE rfl (res_tmp hE rfl) ⟨_, rfl, u16, rfl, hM.outF (locN1 locN0), hM.kept⟩)
noncomputable def F_bytes_Equal (p0 : (List UInt8)) (p1 : (List UInt8)) : Option (Bool) :=
  some (decide ((⟨p0⟩ : Str) = (⟨p1⟩ : Str)))
set_option maxRecDepth 20000 in
set_option maxHeartbeats 400000 in
theorem c_bytes_Equal (w0 : World) (p0 : (List UInt8)) (v0_1 : Value) (hv0_1 : Ro w0 p0 [v0_1]) (p1 : (List UInt8)) (v1_1 : Value) (hv1_1 : Ro w0 p1 [v1_1]) (r : Bool) (hF : F_bytes_Equal p0 p1 = some r) :
    Calls Try.prog 98 [v0_1, v1_1].toArray w0 (fun en w' => ∃ v, en = .returned v ∧ (v = (vT r) ∧ Kept (Old w0) w0 w')) := by
  refine c_enter (n := 10) Try.func98 rfl rfl (Nat.le_of_ble_eq_true rfl) rfl ?_
  intro a hE
  have hM := M.start w0
  unfold F_bytes_Equal at hF
  refine c_region ?_
  refine s_assign hE goes_none (by decide) rfl ?_; intro a hE
  refine c_fin ?_
  refine c_region ?_
  refine s_move hE goes_none (by decide) rfl ?_; intro a hE
  refine s_bytesStr hE goes_none (by decide) rfl Try.underlying29 Try.underlying5 Try.underlying9 (hM.rd hv0_1) ?_; intro a hE
  refine s_move hE goes_none (by decide) rfl ?_; intro a hE
  refine s_bytesStr hE goes_none (by decide) rfl Try.underlying29 Try.underlying5 Try.underlying9 (hM.rd hv1_1) ?_; intro a hE
  refine s_eqS hE goes_none (by decide) rfl rfl ?_; intro a hE
  refine s_assign hE goes_none (by decide) rfl ?_; intro a hE
  refine c_fin ?_
  have hr := Option.some.inj hF
  subst hr
  exact wp_ret (k_ret1 hE rfl (res_tmp hE rfl) ⟨_, rfl, rfl, hM.kept⟩)
noncomputable def L0_impl_field_fit (p0 : Int) (p1 : (List GShare)) (p2 : Int) (s5 : Int) : Option (Fl Int (Fl Unit Bool)) :=
  if (decide (s5 < (p1.length : Int))) = true then (((slc p1 (0 : Int) p2).bind fun (l14 : (List GShare)) => (idx p1 s5).bind fun (x17 : GShare) => (F_impl_field_valuesAt p0 l14 x17.Place).bind fun (r25 : (List UInt8)) => (idx p1 s5).bind fun (x28 : GShare) => (F_bytes_Equal r25 x28.Data).bind fun (r36 : Bool) => some (!r36) : Option (Bool)).bind fun (j10 : Bool) => if j10 = true then (some (Fl.ex (Fl.ex false))) else (some (Fl.nx (wr (s5 + 1))))) else (some (Fl.ex (Fl.nx ())))
noncomputable def F_impl_field_fit (p0 : Int) (p1 : (List GShare)) (p2 : Int) : Option (Bool) :=
  (iter (L0_impl_field_fit p0 p1 p2) p2 : Option (Fl Unit Bool)).bind fun (j1 : Fl Unit Bool) => j1.el (fun (s4 : Unit) => some true) (fun r => some r)
set_option maxRecDepth 20000 in
set_option maxHeartbeats 400000 in
theorem c_impl_field_fit (w0 : World) (p0 : Int) (p1 : (List GShare)) (v1_1 : Value) (hv1_1 : Ro w0 p1 [v1_1]) (p2 : Int) (r : Bool) (hF : F_impl_field_fit p0 p1 p2 = some r) :
    Calls Try.prog 102 [(vI p0), v1_1, (vI p2)].toArray w0 (fun en w' => ∃ v, en = .returned v ∧ (v = (vT r) ∧ Kept (Old w0) w0 w')) := by
  refine c_enter (n := 32) Try.func102 rfl rfl (Nat.le_of_ble_eq_true rfl) rfl ?_
  intro a hE
  have hM := M.start w0
  unfold F_impl_field_fit at hF
  refine c_region ?_
  refine s_assign hE goes_none (by decide) rfl ?_; intro a hE
  refine c_fin ?_
  refine wp_seq ?_
  refine c_region ?_
  refine s_move hE goes_none (by decide) rfl ?_; intro a hE
  refine s_assign hE goes_none (by decide) rfl ?_; intro a hE
  refine c_fin ?_
  obtain ⟨j1, hl2, hF3⟩ := bind_some hF
  refine c_cut (fun a w => ∃ s4 : Unit, j1 = Fl.nx s4 ∧ Env 32 a [] ∧ M (Old w0) w0 w []) ?_ ?_
  · skip
    refine wp_block ?_
    refine c_loop (fun (s5 : Int) a w => Env 32 a [(0, (vI p0)), (1, v1_1), (2, (vI p2)), (7, (vI s5))] ∧ M (Old w0) w0 w []) hl2 ⟨hE.sub ⟨rfl, rfl, rfl, rfl, trivial⟩, hM⟩ ?_
    rintro s5 a w ⟨hE, hM⟩ o8 hs6 hx7
    unfold L0_impl_field_fit at hs6
    refine wp_seq ?_
    refine c_region ?_
    refine s_move hE goes_none (by decide) rfl ?_; intro a hE
    refine s_move hE goes_none (by decide) rfl ?_; intro a hE
    refine s_len hE goes_none (by decide) rfl Try.underlying25 (hM.rd hv1_1) ?_; intro a hE
    refine s_int hE goes_none (by decide) rfl rfl rfl ?_; intro a hE
    refine c_fin ?_
    refine c_cond hE rfl ?_ ?_
    · intro hb9
      have hs6 := ite_t hs6 hb9
      refine wp_skip ?_
      refine c_nx ?_
      refine wp_seq ?_
      refine wp_block ?_
      obtain ⟨j10, hl11, hF12⟩ := bind_some hs6
      refine c_join (fun a w => Env 32 a [(0, (vI p0)), (1, v1_1), (2, (vI p2)), (7, (vI s5)), (31, (vT j10))] ∧ M (Old w0) w0 w []) ?_ ?_
      · skip
        obtain ⟨l14, e15, hl11⟩ := bind_some hl11
        have h16 : Rep.sat (Old w0) w0 l14 [(sliceV v1_1 ((0 : Int)).toNat (p2).toNat 2)] [] := ro_slice hv1_1 e15 -- ^
        obtain ⟨x17, e18, hl11⟩ := bind_some hl11
        have hi19 := idx_some e18
        obtain ⟨cs20, hs21, hA22⟩ := sl_atRo hv1_1 hi19.2 -- ^
        obtain ⟨u23, rfl, h24⟩ := un_GShare hs21 -- ^
        obtain ⟨r25, e26, hl11⟩ := bind_some hl11
        obtain ⟨x28, e29, hl11⟩ := bind_some hl11
        have hi30 := idx_some e29
        obtain ⟨cs31, hs32, hA33⟩ := sl_atRo hv1_1 hi30.2 -- ^
        obtain ⟨u34, rfl, h35⟩ := un_GShare hs32 -- ^
        refine c_draw2 (n := 32) (hd := [_, _, _, _, _, _, _, _, _, _, _, _, _, _, _]) (tl := [_, _]) (its := []) hmix rfl rfl [15, 16, 17, 18, 19, 20, 21, 22, 23, 24, 25, 26, 27, 28, 29] (by decide) [(9, fun v => osl NoB (r25 : List UInt8) v)] rfl (fun j => ([fun v => v = (vI p0), fun v => v = v1_1, fun v => v = (vI p2), fun v => v = (sliceV v1_1 ((0 : Int)).toNat (p2).toNat 2), fun v => v = v1_1, fun v => v = (vI s5), fun v => v = (ptr (sb v1_1) (so v1_1 + (s5).toNat * 2)), fun v => v = (ptr (sb v1_1) (so v1_1 + (s5).toNat * 2 + 0)), fun v => v = (vB x17.Place), fun v => True, fun v => v = v1_1, fun v => v = (vI s5), fun v => v = (ptr (sb v1_1) (so v1_1 + (s5).toNat * 2)), fun v => v = (ptr (sb v1_1) (so v1_1 + (s5).toNat * 2 + 1)), fun v => v = u34] : List (Value → Prop)).getD j (fun _ => True)) hE hM.drew (steps_of (steps_cons ?_ (steps_cons ?_ (steps_cons ?_ (steps_cons ?_ (steps_cons ?_ (steps_cons ?_ (steps_cons ?_ (steps_cons ?_ (steps_cons ?_ (steps_cons ?_ (steps_cons ?_ (steps_cons ?_ (steps_cons ?_ (steps_cons ?_ (steps_cons ?_ steps_nil)))))))))))))))) ?_
        · intro a w ux13 D hE hM hD hp
          have hM0 := hM
          refine s_move hE goes_none (by decide) rfl ?_; intro a hE
          exact ⟨_, _, rfl, hE, rfl, hM0.optKeep rfl⟩
        · intro a w ux13 D hE hM hD hp
          have hM0 := hM
          refine s_move hE goes_none (by decide) rfl ?_; intro a hE
          exact ⟨_, _, rfl, hE, rfl, hM0.optKeep rfl⟩
        · intro a w ux13 D hE hM hD hp
          have hM0 := hM
          refine s_move hE goes_none (by decide) rfl ?_; intro a hE
          exact ⟨_, _, rfl, hE, rfl, hM0.optKeep rfl⟩
        · intro a w ux13 D hE hM hD hp
          have f1 : ux13 1 = v1_1 := (hp 0 _ rfl rfl).2
          have f2 : ux13 2 = (vI p2) := (hp 1 _ rfl rfl).2
          have hM0 := hM
          have hM : M (Old w0) w0 w [opt (D 9) (osl NoB (r25 : List UInt8) (ux13 9))] := hM
          refine s_slice hE goes_none (by decide) (lk rfl f1) rfl (opvo_some (lk rfl f2)) rfl rfl Try.underlying25 ty81 (hM.rd hv1_1) e15 ?_; intro a hE
          exact ⟨_, _, rfl, hE, rfl, hM0.optKeep rfl⟩
        · intro a w ux13 D hE hM hD hp
          have hM0 := hM
          refine s_move hE goes_none (by decide) rfl ?_; intro a hE
          exact ⟨_, _, rfl, hE, rfl, hM0.optKeep rfl⟩
        · intro a w ux13 D hE hM hD hp
          have hM0 := hM
          refine s_move hE goes_none (by decide) rfl ?_; intro a hE
          exact ⟨_, _, rfl, hE, rfl, hM0.optKeep rfl⟩
        · intro a w ux13 D hE hM hD hp
          have f4 : ux13 4 = v1_1 := (hp 0 _ rfl rfl).2
          have f5 : ux13 5 = (vI s5) := (hp 1 _ rfl rfl).2
          have hM0 := hM
          have hM : M (Old w0) w0 w [opt (D 9) (osl NoB (r25 : List UInt8) (ux13 9))] := hM
          refine s_indexS hE goes_none (by decide) (lk rfl f4) (lk rfl f5) Try.underlying25 ty81 (hM.rd hv1_1) hi19.1 ?_; intro a hE
          exact ⟨_, _, rfl, hE, rfl, hM0.optKeep rfl⟩
        · intro a w ux13 D hE hM hD hp
          have f6 : ux13 6 = (ptr (sb v1_1) (so v1_1 + (s5).toNat * 2)) := (hp 0 _ rfl rfl).2
          have hM0 := hM
          refine s_fieldAddr hE goes_none (by decide) (lk rfl f6) (fd81_0) ?_; intro a hE
          exact ⟨_, _, rfl, hE, rfl, hM0.optKeep rfl⟩
        · intro a w ux13 D hE hM hD hp
          have f7 : ux13 7 = (ptr (sb v1_1) (so v1_1 + (s5).toNat * 2 + 0)) := (hp 0 _ rfl rfl).2
          have hM0 := hM
          have hM : M (Old w0) w0 w [opt (D 9) (osl NoB (r25 : List UInt8) (ux13 9))] := hM
          refine s_load (v := (vB x17.Place)) hE goes_none (by decide) (lk rfl f7) ty5 rfl (At.cat (pre := []) (seg := [(vB x17.Place)]) (post := [[u23]]) (hM.atk hA22 (sl_blk hv1_1 hi19.2)) cl0) ?_; intro a hE
          exact ⟨_, _, rfl, hE, rfl, hM0.optKeep rfl⟩
        · intro a w ux13 D hE hM hD hp
          have f0 : ux13 0 = (vI p0) := (hp 0 _ rfl rfl).2
          have f3 : ux13 3 = (sliceV v1_1 ((0 : Int)).toNat (p2).toNat 2) := (hp 1 _ rfl rfl).2
          have f8 : ux13 8 = (vB x17.Place) := (hp 2 _ rfl rfl).2
          have hM0 := hM
          have hM : M (Old w0) w0 w [opt (D 9) (osl NoB (r25 : List UInt8) (ux13 9))] := hM
          refine s_call (vs := [(vI p0), (sliceV v1_1 ((0 : Int)).toNat (p2).toNat 2), (vB x17.Place)]) hE goes_none (by decide) (evs_of (evsC (lk rfl f0) (evsC (lk rfl f3) (evsC (lk rfl f8) evsN)))) cb141 (c_impl_field_valuesAt _ p0 l14 (sliceV v1_1 ((0 : Int)).toNat (p2).toNat 2) (hM.rdo h16) x17.Place r25 e26) ?_
          rintro _ w a ⟨_, rfl, hFr, hK⟩ hE
          have hM := hM0.add hK hFr
          exact ⟨_, _, rfl, hE, trivial, M.optFill (mk1 := []) (mk2 := []) (f := (fun v => osl NoB (r25 : List UInt8) v)) hM rfl hD⟩
        · intro a w ux13 D hE hM hD hp
          have hM0 := hM
          refine s_move hE goes_none (by decide) rfl ?_; intro a hE
          exact ⟨_, _, rfl, hE, rfl, hM0.optKeep rfl⟩
        · intro a w ux13 D hE hM hD hp
          have hM0 := hM
          refine s_move hE goes_none (by decide) rfl ?_; intro a hE
          exact ⟨_, _, rfl, hE, rfl, hM0.optKeep rfl⟩
        · intro a w ux13 D hE hM hD hp
          have f10 : ux13 10 = v1_1 := (hp 0 _ rfl rfl).2
          have f11 : ux13 11 = (vI s5) := (hp 1 _ rfl rfl).2
          have hM0 := hM
          have hM : M (Old w0) w0 w [opt (D 9) (osl NoB (r25 : List UInt8) (ux13 9))] := hM
          refine s_indexS hE goes_none (by decide) (lk rfl f10) (lk rfl f11) Try.underlying25 ty81 (hM.rd hv1_1) hi30.1 ?_; intro a hE
          exact ⟨_, _, rfl, hE, rfl, hM0.optKeep rfl⟩
        · intro a w ux13 D hE hM hD hp
          have f12 : ux13 12 = (ptr (sb v1_1) (so v1_1 + (s5).toNat * 2)) := (hp 0 _ rfl rfl).2
          have hM0 := hM
          refine s_fieldAddr hE goes_none (by decide) (lk rfl f12) (fd81_1) ?_; intro a hE
          exact ⟨_, _, rfl, hE, rfl, hM0.optKeep rfl⟩
        · intro a w ux13 D hE hM hD hp
          have f13 : ux13 13 = (ptr (sb v1_1) (so v1_1 + (s5).toNat * 2 + 1)) := (hp 0 _ rfl rfl).2
          have hM0 := hM
          have hM : M (Old w0) w0 w [opt (D 9) (osl NoB (r25 : List UInt8) (ux13 9))] := hM
          refine s_load (v := u34) hE goes_none (by decide) (lk rfl f13) ty29 rfl (At.cat (pre := [[(vB x28.Place)]]) (seg := [u34]) (post := []) (hM.atk hA33 (sl_blk hv1_1 hi30.2)) (cl1 (n := 1) (m := 0) rfl cl0)) ?_; intro a hE
          exact ⟨_, _, rfl, hE, rfl, hM0.optKeep rfl⟩
        · intro a w ux13 hE hM hg
          have f0 : ux13 0 = (vI p0) := hg 0 (by decide)
          have f1 : ux13 1 = v1_1 := hg 1 (by decide)
          have f2 : ux13 2 = (vI p2) := hg 2 (by decide)
          have f3 : ux13 3 = (sliceV v1_1 ((0 : Int)).toNat (p2).toNat 2) := hg 3 (by decide)
          have f4 : ux13 4 = v1_1 := hg 4 (by decide)
          have f5 : ux13 5 = (vI s5) := hg 5 (by decide)
          have f6 : ux13 6 = (ptr (sb v1_1) (so v1_1 + (s5).toNat * 2)) := hg 6 (by decide)
          have f7 : ux13 7 = (ptr (sb v1_1) (so v1_1 + (s5).toNat * 2 + 0)) := hg 7 (by decide)
          have f8 : ux13 8 = (vB x17.Place) := hg 8 (by decide)
          have f10 : ux13 10 = v1_1 := hg 10 (by decide)
          have f11 : ux13 11 = (vI s5) := hg 11 (by decide)
          have f12 : ux13 12 = (ptr (sb v1_1) (so v1_1 + (s5).toNat * 2)) := hg 12 (by decide)
          have f13 : ux13 13 = (ptr (sb v1_1) (so v1_1 + (s5).toNat * 2 + 1)) := hg 13 (by decide)
          have f14 : ux13 14 = u34 := hg 14 (by decide)
          have hM : M (Old w0) w0 w [osl NoB (r25 : List UInt8) (ux13 9)] := hM
          have hE := hE.sub (e' := [(15, (vI p0)), (16, v1_1), (17, (vI p2)), (18, (sliceV v1_1 ((0 : Int)).toNat (p2).toNat 2)), (19, v1_1), (20, (vI s5)), (21, (ptr (sb v1_1) (so v1_1 + (s5).toNat * 2))), (22, (ptr (sb v1_1) (so v1_1 + (s5).toNat * 2 + 0))), (23, (vB x17.Place)), (24, (ux13 9)), (25, v1_1), (26, (vI s5)), (27, (ptr (sb v1_1) (so v1_1 + (s5).toNat * 2))), (28, (ptr (sb v1_1) (so v1_1 + (s5).toNat * 2 + 1))), (29, u34), (0, (vI p0)), (1, v1_1), (2, (vI p2)), (7, (vI s5)), (9, (vI s5)), (10, v1_1), (11, (vI (p1.length : Int))), (12, (vT (decide (s5 < (p1.length : Int)))))]) ⟨lk rfl f0, lk rfl f1, lk rfl f2, lk rfl f3, lk rfl f4, lk rfl f5, lk rfl f6, lk rfl f7, lk rfl f8, rfl, lk rfl f10, lk rfl f11, lk rfl f12, lk rfl f13, lk rfl f14, rfl, rfl, rfl, rfl, rfl, rfl, rfl, rfl, trivial⟩
          obtain ⟨r36, e37, hl11⟩ := bind_some hl11
          refine s_call (vs := [(ux13 9), u34]) hE goes_none (by decide) rfl cb98 (c_bytes_Equal _ r25 (ux13 9) (hM.sl (pre := []) noB) x28.Data u34 (hM.rdo h35) r36 e37) ?_
          rintro v w a ⟨rfl, hK⟩ hE
          have hM := hM.keep hK
          refine s_not hE goes_none (by decide) rfl ?_; intro a hE
          refine c_fin0 ?_
          have ht38 := Option.some.inj hl11
          subst ht38
          refine c_mid ?_
          have hM := M.fst (l := []) hM
          exact ⟨hE.sub ⟨rfl, rfl, rfl, rfl, rfl, trivial⟩, hM⟩
      · skip
        rintro a w ⟨hE, hM⟩
        refine c_cond hE rfl ?_ ?_
        · intro hb39
          have hF12 := ite_t hF12 hb39
          refine c_region ?_
          refine s_assign hE goes_none (by decide) rfl ?_; intro a hE
          refine c_fin ?_
          have ht40 := hx7 _ (Option.some.inj hF12).symm
          subst ht40
          have hr := Option.some.inj hF3
          subst hr
          exact wp_ret (r_inb (r_then (r_then (r_inb (r_then (r_then (k_ret1 hE rfl (res_tmp hE rfl) ⟨_, rfl, rfl, hM.kept⟩)))))))
        · intro hb39
          have hF12 := ite_f hF12 hb39
          refine wp_skip ?_
          refine c_nb ?_
          refine c_nx ?_
          refine wp_region_lit ?_
          refine s_move hE goes_none (by decide) rfl ?_; intro a hE
          refine s_int hE goes_none (by decide) rfl rfl rfl ?_; intro a hE
          refine s_assign hE goes_none (by decide) rfl ?_; intro a hE
          refine c_fin0 ?_
          refine c_mid ?_
          exact ⟨_, (Option.some.inj hF12).symm, hE.sub ⟨rfl, rfl, rfl, rfl, trivial⟩, hM⟩
    · intro hb9
      have hs6 := ite_f hs6 hb9
      refine wp_exit (e_then (e_then (e_eq ?_)))
      have ht41 := hx7 _ (Option.some.inj hs6).symm
      subst ht41
      refine c_mid ?_
      exact ⟨(), rfl, hE.sub trivial, hM⟩
  · skip
    rintro a w ⟨s4, ht, hE, hM⟩
    subst ht
    have hF3 := el_nx hF3
    refine c_nx ?_
    refine c_region ?_
    refine s_assign hE goes_none (by decide) rfl ?_; intro a hE
    refine c_fin ?_
    have hr := Option.some.inj hF3
    subst hr
    exact wp_ret (k_ret1 hE rfl (res_tmp hE rfl) ⟨_, rfl, rfl, hM.kept⟩)
noncomputable def L0_impl_IsHidden (p0 : Int) (p1 : (List UInt8)) (p2 : (List UInt8)) (p3 : (List GShare)) (p4 : Int) (s25 : Int) : Option (Fl Int (Fl Unit (Bool × Int))) :=
  if (decide (s25 < 2)) = true then ((idx ([p1, p2] : List (List UInt8)) s25).bind fun (x30 : (List UInt8)) => (F_slices_Concat_impl_Share_impl_Share ([([(⟨0, x30⟩ : GShare)] : List GShare), p3] : (List (List GShare)))).bind fun (r40 : (List GShare)) => (F_impl_field_fit p0 r40 p4).bind fun (r44 : Bool) => if (!r44) = true then (some (Fl.ex (Fl.ex (false, 0)))) else (some (Fl.nx (wr (s25 + 1))))) else (some (Fl.ex (Fl.nx ())))
noncomputable def F_impl_IsHidden (p0 : Int) (p1 : (List UInt8)) (p2 : (List UInt8)) (p3 : (List GShare)) (p4 : Int) : Option (Bool × Int) :=
  (F_impl_checkShares p0 p3 p4).bind fun (r1 : Int) => if (r1 != 0) = true then (some (false, r1)) else ((if (decide ((p1.length : Int) > 100)) = true then (some true) else (if ((p1.length : Int) != (p2.length : Int)) = true then (some true) else ((idx p3 (0 : Int)).bind fun (x11 : GShare) => some ((p1.length : Int) != (x11.Data.length : Int)))) : Option (Bool)).bind fun (j4 : Bool) => if j4 = true then (some (false, 2)) else ((iter (L0_impl_IsHidden p0 p1 p2 p3 p4) 0 : Option (Fl Unit (Bool × Int))).bind fun (j21 : Fl Unit (Bool × Int)) => j21.el (fun (s24 : Unit) => some (true, 0)) (fun r => some r)))
set_option maxRecDepth 20000 in
set_option maxHeartbeats 400000 in
theorem c_impl_IsHidden (w0 : World) (p0 : Int) (p1 : (List UInt8)) (v1_1 : Value) (hv1_1 : Ro w0 p1 [v1_1]) (p2 : (List UInt8)) (v2_1 : Value) (hv2_1 : Ro w0 p2 [v2_1]) (p3 : (List GShare)) (v3_1 : Value) (hv3_1 : Ro w0 p3 [v3_1]) (p4 : Int) (r : Bool × Int) (hF : F_impl_IsHidden p0 p1 p2 p3 p4 = some r) :
    Calls Try.prog 48 [(vI p0), v1_1, v2_1, v3_1, (vI p4)].toArray w0 (fun en w' => ∃ v, en = .returned v ∧ (v = (Value.tuple [(vT r.1), (vI r.2)].toArray) ∧ Kept (Old w0) w0 w')) := by
  refine c_enter (n := 61) Try.func48 rfl rfl (Nat.le_of_ble_eq_true rfl) rfl ?_
  intro a hE
  have hM := M.start w0
  unfold F_impl_IsHidden at hF
  refine c_region ?_
  refine s_assign hE goes_none (by decide) rfl ?_; intro a hE
  refine s_assign hE goes_none (by decide) rfl ?_; intro a hE
  refine c_fin ?_
  refine wp_seq ?_
  refine c_region ?_
  refine s_move hE goes_none (by decide) rfl ?_; intro a hE
  refine s_move hE goes_none (by decide) rfl ?_; intro a hE
  refine s_move hE goes_none (by decide) rfl ?_; intro a hE
  obtain ⟨r1, e2, hF⟩ := bind_some hF
  refine s_call (vs := [(vI p0), v3_1, (vI p4)]) hE goes_none (by decide) rfl cb97 (c_impl_checkShares _ p0 p3 v3_1 (hM.rdo hv3_1) p4 r1 e2) ?_
  rintro v w a ⟨rfl, hK⟩ hE
  have hM := hM.keep hK
  refine s_assign hE goes_none (by decide) rfl ?_; intro a hE
  refine c_fin ?_
  refine wp_block ?_
  refine c_region ?_
  refine s_move hE goes_none (by decide) rfl ?_; intro a hE
  refine s_int hE goes_none (by decide) rfl rfl rfl ?_; intro a hE
  refine s_assign hE goes_none (by decide) rfl ?_; intro a hE
  refine c_fin ?_
  refine c_cond hE rfl ?_ ?_
  · intro hb3
    have hF := ite_t hF hb3
    refine c_region ?_
    refine s_move hE goes_none (by decide) rfl ?_; intro a hE
    refine s_assign hE goes_none (by decide) rfl ?_; intro a hE
    refine s_assign hE goes_none (by decide) rfl ?_; intro a hE
    refine c_fin ?_
    have hr := Option.some.inj hF
    subst hr
    exact wp_ret (r_inb (r_then (k_ret2 hE rfl (res_tmp hE rfl) (res_tmp hE rfl) ⟨_, rfl, rfl, hM.kept⟩)))
  · intro hb3
    have hF := ite_f hF hb3
    obtain ⟨j4, hl5, hF6⟩ := bind_some hF
    refine c_join (fun a w => Env 61 a [(0, (vI p0)), (1, v1_1), (2, v2_1), (3, v3_1), (4, (vI p4)), (23, (vT j4))] ∧ M (Old w0) w0 w []) ?_ ?_
    · skip
      refine wp_region_lit ?_
      refine s_move hE goes_none (by decide) rfl ?_; intro a hE
      refine s_len hE goes_none (by decide) rfl Try.underlying29 (hM.rd hv1_1) ?_; intro a hE
      refine s_int hE goes_none (by decide) rfl rfl rfl ?_; intro a hE
      refine s_move hE goes_none (by decide) rfl ?_; intro a hE
      refine splitB (decide ((p1.length : Int) > 100)) (fun hb7 => ?_) (fun hb7 => ?_)
      · have hl5 := ite_t hl5 hb7
        refine s_skip hE rfl (lkb rfl hb7) rfl (by decide) ?_; intro a hE
        refine s_skip hE rfl (lkb rfl hb7) rfl (by decide) ?_; intro a hE
        refine s_skip hE rfl (lkb rfl hb7) rfl (by decide) ?_; intro a hE
        refine s_skip hE rfl (lkb rfl hb7) rfl (by decide) ?_; intro a hE
        refine s_skip hE rfl (lkb rfl hb7) rfl (by decide) ?_; intro a hE
        refine s_pickT hE goes_none (by decide) (lkb rfl hb7) rfl ?_; intro a hE
        refine s_move hE goes_none (by decide) rfl ?_; intro a hE
        refine s_skip hE rfl rfl rfl (by decide) ?_; intro a hE
        refine s_skip hE rfl rfl rfl (by decide) ?_; intro a hE
        refine s_skip hE rfl rfl rfl (by decide) ?_; intro a hE
        refine s_skip hE rfl rfl rfl (by decide) ?_; intro a hE
        refine s_skip hE rfl rfl rfl (by decide) ?_; intro a hE
        refine s_skip hE rfl rfl rfl (by decide) ?_; intro a hE
        refine s_skip hE rfl rfl rfl (by decide) ?_; intro a hE
        refine s_skip hE rfl rfl rfl (by decide) ?_; intro a hE
        refine s_pickT hE goes_none (by decide) rfl rfl ?_; intro a hE
        refine s_assign hE goes_none (by decide) rfl ?_; intro a hE
        refine c_fin0 ?_
        have ht8 := Option.some.inj hl5
        subst ht8
        refine c_mid ?_
        exact ⟨hE.sub ⟨rfl, rfl, rfl, rfl, rfl, rfl, trivial⟩, hM⟩
      · have hl5 := ite_f hl5 hb7
        refine s_move hE (goes_yes hE rfl (lkb rfl hb7)) (by decide) rfl ?_; intro a hE
        refine s_len hE (goes_yes hE rfl (lkb rfl hb7)) (by decide) rfl Try.underlying29 (hM.rd hv1_1) ?_; intro a hE
        refine s_move hE (goes_yes hE rfl (lkb rfl hb7)) (by decide) rfl ?_; intro a hE
        refine s_len hE (goes_yes hE rfl (lkb rfl hb7)) (by decide) rfl Try.underlying29 (hM.rd hv2_1) ?_; intro a hE
        refine s_int hE (goes_yes hE rfl (lkb rfl hb7)) (by decide) rfl rfl rfl ?_; intro a hE
        refine s_pickF hE goes_none (by decide) (lkb rfl hb7) rfl ?_; intro a hE
        refine s_move hE goes_none (by decide) rfl ?_; intro a hE
        refine splitB ((p1.length : Int) != (p2.length : Int)) (fun hb9 => ?_) (fun hb9 => ?_)
        · have hl5 := ite_t hl5 hb9
          refine s_skip hE rfl (lkb rfl hb9) rfl (by decide) ?_; intro a hE
          refine s_skip hE rfl (lkb rfl hb9) rfl (by decide) ?_; intro a hE
          refine s_skip hE rfl (lkb rfl hb9) rfl (by decide) ?_; intro a hE
          refine s_skip hE rfl (lkb rfl hb9) rfl (by decide) ?_; intro a hE
          refine s_skip hE rfl (lkb rfl hb9) rfl (by decide) ?_; intro a hE
          refine s_skip hE rfl (lkb rfl hb9) rfl (by decide) ?_; intro a hE
          refine s_skip hE rfl (lkb rfl hb9) rfl (by decide) ?_; intro a hE
          refine s_skip hE rfl (lkb rfl hb9) rfl (by decide) ?_; intro a hE
          refine s_pickT hE goes_none (by decide) (lkb rfl hb9) rfl ?_; intro a hE
          refine s_assign hE goes_none (by decide) rfl ?_; intro a hE
          refine c_fin0 ?_
          have ht10 := Option.some.inj hl5
          subst ht10
          refine c_mid ?_
          exact ⟨hE.sub ⟨rfl, rfl, rfl, rfl, rfl, rfl, trivial⟩, hM⟩
        · have hl5 := ite_f hl5 hb9
          refine s_move hE (goes_yes hE rfl (lkb rfl hb9)) (by decide) rfl ?_; intro a hE
          refine s_len hE (goes_yes hE rfl (lkb rfl hb9)) (by decide) rfl Try.underlying29 (hM.rd hv1_1) ?_; intro a hE
          refine s_move hE (goes_yes hE rfl (lkb rfl hb9)) (by decide) rfl ?_; intro a hE
          obtain ⟨x11, e12, hl5⟩ := bind_some hl5
          have hi13 := idx_some e12
          refine s_indexS hE (goes_yes hE rfl (lkb rfl hb9)) (by decide) rfl rfl Try.underlying25 ty81 (hM.rd hv3_1) hi13.1 ?_; intro a hE
          refine s_fieldAddr hE (goes_yes hE rfl (lkb rfl hb9)) (by decide) rfl (fd81_1) ?_; intro a hE
          obtain ⟨cs14, hs15, hA16⟩ := sl_atRo hv3_1 hi13.2 -- ^
          obtain ⟨u17, rfl, h18⟩ := un_GShare hs15 -- ^
          refine s_load (v := u17) hE (goes_yes hE rfl (lkb rfl hb9)) (by decide) rfl ty29 rfl (At.cat (pre := [[(vB x11.Place)]]) (seg := [u17]) (post := []) (hM.atk hA16 (sl_blk hv3_1 hi13.2)) (cl1 (n := 1) (m := 0) rfl cl0)) ?_; intro a hE
          refine s_len hE (goes_yes hE rfl (lkb rfl hb9)) (by decide) rfl Try.underlying29 (hM.rd h18) ?_; intro a hE
          refine s_int hE (goes_yes hE rfl (lkb rfl hb9)) (by decide) rfl rfl rfl ?_; intro a hE
          refine s_pickF hE goes_none (by decide) (lkb rfl hb9) rfl ?_; intro a hE
          refine s_assign hE goes_none (by decide) rfl ?_; intro a hE
          refine c_fin0 ?_
          have ht19 := Option.some.inj hl5
          subst ht19
          refine c_mid ?_
          exact ⟨hE.sub ⟨rfl, rfl, rfl, rfl, rfl, rfl, trivial⟩, hM⟩
    · skip
      rintro a w ⟨hE, hM⟩
      refine c_cond hE rfl ?_ ?_
      · intro hb20
        have hF6 := ite_t hF6 hb20
        refine c_region ?_
        refine s_assign hE goes_none (by decide) rfl ?_; intro a hE
        refine s_assign hE goes_none (by decide) rfl ?_; intro a hE
        refine c_fin ?_
        have hr := Option.some.inj hF6
        subst hr
        exact wp_ret (r_inb (r_then (k_ret2 hE rfl (res_tmp hE rfl) (res_tmp hE rfl) ⟨_, rfl, rfl, hM.kept⟩)))
      · intro hb20
        have hF6 := ite_f hF6 hb20
        refine wp_skip ?_
        refine c_nb ?_
        refine c_nx ?_
        refine wp_seq ?_
        refine c_region ?_
        refine s_move hE goes_none (by decide) rfl ?_; intro a hE
        refine s_move hE goes_none (by decide) rfl ?_; intro a hE
        refine s_buildA (parts := [(0, .tmp 44), (1, .tmp 45)]) (vs := numbered 0 [v1_1, v2_1]) (cs := [v1_1, v2_1]) hE goes_none (by decide) rfl rfl ty127 rfl ty29 (fill_lit rfl (by intro v hv; simp only [List.mem_cons, List.not_mem_nil, or_false] at hv; rcases hv with h | h <;> subst h <;> first | exact sl_cells (hM.rd hv1_1) | exact sl_cells (hM.rd hv2_1))) ?_; intro a hE
        refine s_move hE goes_none (by decide) rfl ?_; intro a hE
        refine c_fin ?_
        obtain ⟨j21, hl22, hF23⟩ := bind_some hF6
        refine c_cut (fun a w => ∃ s24 : Unit, j21 = Fl.nx s24 ∧ Env 61 a [] ∧ M (Old w0) w0 w []) ?_ ?_
        · skip
          refine wp_block ?_
          refine c_loop (fun (s25 : Int) a w => Env 61 a [(0, (vI p0)), (3, v3_1), (4, (vI p4)), (46, (Value.agg [v1_1, v2_1].toArray)), (47, (vI s25))] ∧ M (Old w0) w0 w []) hl22 ⟨hE.sub ⟨rfl, rfl, rfl, rfl, rfl, trivial⟩, hM⟩ ?_
          rintro s25 a w ⟨hE, hM⟩ o28 hs26 hx27
          unfold L0_impl_IsHidden at hs26
          refine c_region ?_
          refine s_int hE goes_none (by decide) rfl rfl rfl ?_; intro a hE
          refine c_fin ?_
          refine wp_seq ?_
          refine c_cond hE rfl ?_ ?_
          · intro hb29
            have hs26 := ite_t hs26 hb29
            refine wp_skip ?_
            refine c_nx ?_
            refine wp_seq ?_
            refine wp_block ?_
            refine c_region ?_
            obtain ⟨x30, e31, hs26⟩ := bind_some hs26
            have hi32 := idx_some e31
            obtain ⟨u33, e34, h35⟩ := litidx (S := Old w0) (w := w0) (l := ([p1, p2] : List (List UInt8))) (vs := [v1_1, v2_1]) ⟨hv1_1, hv2_1, trivial⟩ hi32.2
            refine s_indexL hE goes_none (by decide) rfl rfl Try.underlying127 ty29 rfl hi32.1 e34 ?_; intro a hE
            refine s_assign hE goes_none (by decide) rfl ?_; intro a hE
            refine c_fin ?_
            refine c_region ?_
            refine s_move hE goes_none (by decide) rfl ?_; intro a hE
            refine s_move hE goes_none (by decide) rfl ?_; intro a hE
            refine s_buildStr (parts := [(1, .tmp 51)]) (vs := [(1, u33)]) (cs := cat [[(vB 0)], [u33]]) hE goes_none (by decide) rfl rfl ty81 pl81 (fill_step (pre := [[(vB 0)]]) (seg := [(Value.slice none 0 0)]) (seg' := [u33]) (post := []) rfl (cl1 (n := 1) (m := 0) rfl cl0) rfl rfl (sl_cells (hM.rd h35)) fill_nil) ?_; intro a hE
            have hM := hM.addRo (S := (Old w0)) (x := (⟨0, x30⟩ : GShare)) (cs := cat [[(vB 0)], [u33]]) (fun _ h => h) (pk_GShare (hM.rd h35) (by simp))
            refine s_build1 (xs := [.tmp 52]) (seg := cat [[(vB 0)], [u33]]) hE hM (fun _ h => h) goes_none (by decide) rfl rfl Try.underlying25 ty81 rfl (by decide) ?_; intro u36 w a hM hE
            refine s_move hE goes_none (by decide) rfl ?_; intro a hE
            refine s_buildLit (xs := [.tmp 53, .tmp 54]) (vs := [u36, v3_1]) hE hM goes_none (by decide) rfl rfl Try.underlying154 ty25 (by decide) (by intro v hv; simp only [List.mem_cons, List.not_mem_nil, or_false] at hv; rcases hv with h | h <;> subst h <;> first | rfl | exact sl_cells (hM.sl (pre := []) (fun _ h => h)) | exact sl_cells (hM.rd hv3_1)) ?_; intro b38 w a hM hE
            obtain ⟨r40, e41, hs26⟩ := bind_some hs26
            refine s_call (vs := [(Value.slice (some ⟨b38, 0, none⟩) 2 2)]) hE goes_none (by decide) rfl cb108 (c_slices_Concat_impl_Share_impl_Share _ ([([(⟨0, x30⟩ : GShare)] : List GShare), p3] : (List (List GShare))) (Value.slice (some ⟨b38, 0, none⟩) 2 2) (ro_lit (hM.rawAt (pre := [])) (hM.rawLt (pre := [])) ⟨(hM.sl (pre := [_]) (fun _ h => h)), (hM.rdo hv3_1), trivial⟩ rfl) r40 e41) ?_
            rintro u42 w a ⟨_, rfl, hro43, hK⟩ hE
            have hM := hM.keep hK
            refine s_move hE goes_none (by decide) rfl ?_; intro a hE
            obtain ⟨r44, e45, hs26⟩ := bind_some hs26
            refine s_call (vs := [(vI p0), u42, (vI p4)]) hE goes_none (by decide) rfl cb102 (c_impl_field_fit _ p0 r40 u42 hro43 p4 r44 e45) ?_
            rintro v w a ⟨rfl, hK⟩ hE
            have hM := hM.keep hK
            have hro43 := ro_later hro43 hK
            refine s_not hE goes_none (by decide) rfl ?_; intro a hE
            refine c_fin ?_
            refine c_cond hE rfl ?_ ?_
            · intro hb46
              have hs26 := ite_t hs26 hb46
              refine c_region ?_
              refine s_assign hE goes_none (by decide) rfl ?_; intro a hE
              refine s_assign hE goes_none (by decide) rfl ?_; intro a hE
              refine c_fin ?_
              have ht47 := hx27 _ (Option.some.inj hs26).symm
              subst ht47
              have hr := Option.some.inj hF23
              subst hr
              have hM := M.fst (l := []) hM
              exact wp_ret (r_inb (r_then (r_then (r_inb (r_then (r_then (k_ret2 hE rfl (res_tmp hE rfl) (res_tmp hE rfl) ⟨_, rfl, rfl, hM.kept⟩)))))))
            · intro hb46
              have hs26 := ite_f hs26 hb46
              refine wp_skip ?_
              refine c_nb ?_
              refine c_nx ?_
              refine wp_region_lit ?_
              refine s_int hE goes_none (by decide) rfl rfl rfl ?_; intro a hE
              refine s_move hE goes_none (by decide) rfl ?_; intro a hE
              refine c_fin0 ?_
              refine c_mid ?_
              have hM := M.fst (l := []) hM
              exact ⟨_, (Option.some.inj hs26).symm, hE.sub ⟨rfl, rfl, rfl, rfl, rfl, trivial⟩, hM⟩
          · intro hb29
            have hs26 := ite_f hs26 hb29
            refine wp_exit (e_then (e_then (e_eq ?_)))
            have ht48 := hx27 _ (Option.some.inj hs26).symm
            subst ht48
            refine c_mid ?_
            exact ⟨(), rfl, hE.sub trivial, hM⟩
        · skip
          rintro a w ⟨s24, ht, hE, hM⟩
          subst ht
          have hF23 := el_nx hF23
          refine c_nx ?_
          refine c_region ?_
          refine s_assign hE goes_none (by decide) rfl ?_; intro a hE
          refine s_assign hE goes_none (by decide) rfl ?_; intro a hE
          refine c_fin ?_
          have hr := Option.some.inj hF23
          subst hr
          exact wp_ret (k_ret2 hE rfl (res_tmp hE rfl) (res_tmp hE rfl) ⟨_, rfl, rfl, hM.kept⟩)
noncomputable def L0_laws_eqByteS (p0 : (List UInt8)) (p1 : (List UInt8)) (s6 : Int) : Option (Fl Int (Fl Unit Bool)) :=
  if (decide (s6 < (p0.length : Int))) = true then (((idx p0 s6).bind fun (x15 : UInt8) => (idx p1 s6).bind fun (x18 : UInt8) => some (x15 != x18) : Option (Bool)).bind fun (j11 : Bool) => if j11 = true then (some (Fl.ex (Fl.ex false))) else (some (Fl.nx (wr (s6 + 1))))) else (some (Fl.ex (Fl.nx ())))
noncomputable def F_laws_eqByteS (p0 : (List UInt8)) (p1 : (List UInt8)) : Option (Bool) :=
  if ((p0.length : Int) != (p1.length : Int)) = true then (some false) else ((iter (L0_laws_eqByteS p0 p1) 0 : Option (Fl Unit Bool)).bind fun (j2 : Fl Unit Bool) => j2.el (fun (s5 : Unit) => some true) (fun r => some r))
set_option maxRecDepth 20000 in
set_option maxHeartbeats 400000 in
theorem c_laws_eqByteS (w0 : World) (p0 : (List UInt8)) (v0_1 : Value) (hv0_1 : Ro w0 p0 [v0_1]) (p1 : (List UInt8)) (v1_1 : Value) (hv1_1 : Ro w0 p1 [v1_1]) (r : Bool) (hF : F_laws_eqByteS p0 p1 = some r) :
    Calls Try.prog 21 [v0_1, v1_1].toArray w0 (fun en w' => ∃ v, en = .returned v ∧ (v = (vT r) ∧ Kept (Old w0) w0 w')) := by
  refine c_enter (n := 26) Try.func21 rfl rfl (Nat.le_of_ble_eq_true rfl) rfl ?_
  intro a hE
  have hM := M.start w0
  unfold F_laws_eqByteS at hF
  refine c_region ?_
  refine s_assign hE goes_none (by decide) rfl ?_; intro a hE
  refine c_fin ?_
  refine wp_seq ?_
  refine c_region ?_
  refine s_move hE goes_none (by decide) rfl ?_; intro a hE
  refine s_len hE goes_none (by decide) rfl Try.underlying29 (hM.rd hv0_1) ?_; intro a hE
  refine s_move hE goes_none (by decide) rfl ?_; intro a hE
  refine s_len hE goes_none (by decide) rfl Try.underlying29 (hM.rd hv1_1) ?_; intro a hE
  refine s_int hE goes_none (by decide) rfl rfl rfl ?_; intro a hE
  refine c_fin ?_
  refine c_cond hE rfl ?_ ?_
  · intro hb1
    have hF := ite_t hF hb1
    refine c_region ?_
    refine s_assign hE goes_none (by decide) rfl ?_; intro a hE
    refine c_fin ?_
    have hr := Option.some.inj hF
    subst hr
    exact wp_ret (r_then (k_ret1 hE rfl (res_tmp hE rfl) ⟨_, rfl, rfl, hM.kept⟩))
  · intro hb1
    have hF := ite_f hF hb1
    refine wp_skip ?_
    refine c_nx ?_
    refine wp_seq ?_
    refine c_region ?_
    refine s_assign hE goes_none (by decide) rfl ?_; intro a hE
    refine c_fin ?_
    obtain ⟨j2, hl3, hF4⟩ := bind_some hF
    refine c_cut (fun a w => ∃ s5 : Unit, j2 = Fl.nx s5 ∧ Env 26 a [] ∧ M (Old w0) w0 w []) ?_ ?_
    · skip
      refine wp_block ?_
      refine c_loop (fun (s6 : Int) a w => Env 26 a [(0, v0_1), (1, v1_1), (5, (vI s6))] ∧ M (Old w0) w0 w []) hl3 ⟨hE.sub ⟨rfl, rfl, rfl, trivial⟩, hM⟩ ?_
      rintro s6 a w ⟨hE, hM⟩ o9 hs7 hx8
      unfold L0_laws_eqByteS at hs7
      refine wp_seq ?_
      refine c_region ?_
      refine s_move hE goes_none (by decide) rfl ?_; intro a hE
      refine s_move hE goes_none (by decide) rfl ?_; intro a hE
      refine s_len hE goes_none (by decide) rfl Try.underlying29 (hM.rd hv0_1) ?_; intro a hE
      refine s_int hE goes_none (by decide) rfl rfl rfl ?_; intro a hE
      refine c_fin ?_
      refine c_cond hE rfl ?_ ?_
      · intro hb10
        have hs7 := ite_t hs7 hb10
        refine wp_skip ?_
        refine c_nx ?_
        refine wp_seq ?_
        refine wp_block ?_
        obtain ⟨j11, hl12, hF13⟩ := bind_some hs7
        refine c_join (fun a w => Env 26 a [(0, v0_1), (1, v1_1), (5, (vI s6)), (25, (vT j11))] ∧ M (Old w0) w0 w []) ?_ ?_
        · skip
          obtain ⟨x15, e16, hl12⟩ := bind_some hl12
          have hi17 := idx_some e16
          obtain ⟨x18, e19, hl12⟩ := bind_some hl12
          have hi20 := idx_some e19
          refine c_draw (n := 26) (hd := [_, _, _, _, _, _, _, _, _]) (tl := []) hmix rfl rfl [17, 18, 19, 20, 21, 22, 23, 24, 25] (by decide) (fun w => M (Old w0) w0 w []) (fun j => ([fun v _ => v = v0_1, fun v _ => v = (vI s6), fun v _ => v = (ptr (sb v0_1) (so v0_1 + (s6).toNat * 1)), fun v _ => v = (vB x15), fun v _ => v = v1_1, fun v _ => v = (vI s6), fun v _ => v = (ptr (sb v1_1) (so v1_1 + (s6).toNat * 1)), fun v _ => v = (vB x18), fun v _ => v = (vT (x15 != x18))] : List (Value → World → Prop)).getD j (fun _ _ => True)) (fun _ _ h hk => h.keep hk) (gup (gupE (gupE (gupE (gupE (gupE (gupE (gupE (gupE (gupE gupN)))))))))) hE hM.drew (steps_of (steps_cons ?_ (steps_cons ?_ (steps_cons ?_ (steps_cons ?_ (steps_cons ?_ (steps_cons ?_ (steps_cons ?_ (steps_cons ?_ (steps_cons ?_ steps_nil)))))))))) ?_
          · intro a w ux14 hE hM hp
            refine s_move hE goes_none (by decide) rfl ?_; intro a hE
            exact ⟨Kept.refl _ _, _, _, rfl, hE, rfl⟩
          · intro a w ux14 hE hM hp
            refine s_move hE goes_none (by decide) rfl ?_; intro a hE
            exact ⟨Kept.refl _ _, _, _, rfl, hE, rfl⟩
          · intro a w ux14 hE hM hp
            have f0 : ux14 0 = v0_1 := hp 0 _ rfl rfl
            have f1 : ux14 1 = (vI s6) := hp 1 _ rfl rfl
            refine s_indexS hE goes_none (by decide) (lk rfl f0) (lk rfl f1) Try.underlying29 ty5 (hM.rd hv0_1) hi17.1 ?_; intro a hE
            exact ⟨Kept.refl _ _, _, _, rfl, hE, rfl⟩
          · intro a w ux14 hE hM hp
            have f2 : ux14 2 = (ptr (sb v0_1) (so v0_1 + (s6).toNat * 1)) := hp 0 _ rfl rfl
            refine s_load (v := (vB x15)) hE goes_none (by decide) (lk rfl f2) ty5 rfl (sl_atF (hM.rd hv0_1) hi17.2) ?_; intro a hE
            exact ⟨Kept.refl _ _, _, _, rfl, hE, rfl⟩
          · intro a w ux14 hE hM hp
            refine s_move hE goes_none (by decide) rfl ?_; intro a hE
            exact ⟨Kept.refl _ _, _, _, rfl, hE, rfl⟩
          · intro a w ux14 hE hM hp
            refine s_move hE goes_none (by decide) rfl ?_; intro a hE
            exact ⟨Kept.refl _ _, _, _, rfl, hE, rfl⟩
          · intro a w ux14 hE hM hp
            have f4 : ux14 4 = v1_1 := hp 0 _ rfl rfl
            have f5 : ux14 5 = (vI s6) := hp 1 _ rfl rfl
            refine s_indexS hE goes_none (by decide) (lk rfl f4) (lk rfl f5) Try.underlying29 ty5 (hM.rd hv1_1) hi20.1 ?_; intro a hE
            exact ⟨Kept.refl _ _, _, _, rfl, hE, rfl⟩
          · intro a w ux14 hE hM hp
            have f6 : ux14 6 = (ptr (sb v1_1) (so v1_1 + (s6).toNat * 1)) := hp 0 _ rfl rfl
            refine s_load (v := (vB x18)) hE goes_none (by decide) (lk rfl f6) ty5 rfl (sl_atF (hM.rd hv1_1) hi20.2) ?_; intro a hE
            exact ⟨Kept.refl _ _, _, _, rfl, hE, rfl⟩
          · intro a w ux14 hE hM hp
            have f3 : ux14 3 = (vB x15) := hp 0 _ rfl rfl
            have f7 : ux14 7 = (vB x18) := hp 1 _ rfl rfl
            refine s_int hE goes_none (by decide) (lk rfl f3) (lk rfl f7) (bB_neq x15 x18) ?_; intro a hE
            exact ⟨Kept.refl _ _, _, _, rfl, hE, rfl⟩
          · intro a w ux14 hE hM hg
            have f0 : ux14 0 = v0_1 := hg 0 (by decide)
            have f1 : ux14 1 = (vI s6) := hg 1 (by decide)
            have f2 : ux14 2 = (ptr (sb v0_1) (so v0_1 + (s6).toNat * 1)) := hg 2 (by decide)
            have f3 : ux14 3 = (vB x15) := hg 3 (by decide)
            have f4 : ux14 4 = v1_1 := hg 4 (by decide)
            have f5 : ux14 5 = (vI s6) := hg 5 (by decide)
            have f6 : ux14 6 = (ptr (sb v1_1) (so v1_1 + (s6).toNat * 1)) := hg 6 (by decide)
            have f7 : ux14 7 = (vB x18) := hg 7 (by decide)
            have f8 : ux14 8 = (vT (x15 != x18)) := hg 8 (by decide)
            have hE := hE.sub (e' := [(17, v0_1), (18, (vI s6)), (19, (ptr (sb v0_1) (so v0_1 + (s6).toNat * 1))), (20, (vB x15)), (21, v1_1), (22, (vI s6)), (23, (ptr (sb v1_1) (so v1_1 + (s6).toNat * 1))), (24, (vB x18)), (25, (vT (x15 != x18))), (0, v0_1), (1, v1_1), (5, (vI s6)), (11, (vI s6)), (12, v0_1), (13, (vI (p0.length : Int))), (14, (vT (decide (s6 < (p0.length : Int)))))]) ⟨lk rfl f0, lk rfl f1, lk rfl f2, lk rfl f3, lk rfl f4, lk rfl f5, lk rfl f6, lk rfl f7, lk rfl f8, rfl, rfl, rfl, rfl, rfl, rfl, rfl, trivial⟩
            refine c_fin0 ?_
            have ht21 := Option.some.inj hl12
            subst ht21
            refine c_mid ?_
            exact ⟨hE.sub ⟨rfl, rfl, rfl, rfl, trivial⟩, hM⟩
        · skip
          rintro a w ⟨hE, hM⟩
          refine c_cond hE rfl ?_ ?_
          · intro hb22
            have hF13 := ite_t hF13 hb22
            refine c_region ?_
            refine s_assign hE goes_none (by decide) rfl ?_; intro a hE
            refine c_fin ?_
            have ht23 := hx8 _ (Option.some.inj hF13).symm
            subst ht23
            have hr := Option.some.inj hF4
            subst hr
            exact wp_ret (r_inb (r_then (r_then (r_inb (r_then (r_then (k_ret1 hE rfl (res_tmp hE rfl) ⟨_, rfl, rfl, hM.kept⟩)))))))
          · intro hb22
            have hF13 := ite_f hF13 hb22
            refine wp_skip ?_
            refine c_nb ?_
            refine c_nx ?_
            refine wp_region_lit ?_
            refine s_move hE goes_none (by decide) rfl ?_; intro a hE
            refine s_int hE goes_none (by decide) rfl rfl rfl ?_; intro a hE
            refine s_assign hE goes_none (by decide) rfl ?_; intro a hE
            refine c_fin0 ?_
            refine c_mid ?_
            exact ⟨_, (Option.some.inj hF13).symm, hE.sub ⟨rfl, rfl, rfl, trivial⟩, hM⟩
      · intro hb10
        have hs7 := ite_f hs7 hb10
        refine wp_exit (e_then (e_then (e_eq ?_)))
        have ht24 := hx8 _ (Option.some.inj hs7).symm
        subst ht24
        refine c_mid ?_
        exact ⟨(), rfl, hE.sub trivial, hM⟩
    · skip
      rintro a w ⟨s5, ht, hE, hM⟩
      subst ht
      have hF4 := el_nx hF4
      refine c_nx ?_
      refine c_region ?_
      refine s_assign hE goes_none (by decide) rfl ?_; intro a hE
      refine c_fin ?_
      have hr := Option.some.inj hF4
      subst hr
      exact wp_ret (k_ret1 hE rfl (res_tmp hE rfl) ⟨_, rfl, rfl, hM.kept⟩)
noncomputable def F_laws_eqShare (p0 : GShare) (p1 : GShare) : Option (Bool) :=
  if (p0.Place != p1.Place) = true then (some false) else ((F_laws_eqByteS p0.Data p1.Data).bind fun (r6 : Bool) => if (!r6) = true then (some false) else (some true))
set_option maxRecDepth 20000 in
set_option maxHeartbeats 400000 in
theorem c_laws_eqShare (w0 : World) (p0 : GShare) (v0_1 : Value) (hv0_1 : Ro w0 p0.Data [v0_1]) (p1 : GShare) (v1_1 : Value) (hv1_1 : Ro w0 p1.Data [v1_1]) (r : Bool) (hF : F_laws_eqShare p0 p1 = some r) :
    Calls Try.prog 64 [(Value.agg (cat [[(vB p0.Place)], [v0_1]]).toArray), (Value.agg (cat [[(vB p1.Place)], [v1_1]]).toArray)].toArray w0 (fun en w' => ∃ v, en = .returned v ∧ (v = (vT r) ∧ Kept (Old w0) w0 w')) := by
  refine c_enter (n := 16) Try.func64 rfl rfl (Nat.le_of_ble_eq_true rfl) rfl ?_
  intro a hE
  have hM := M.start w0
  unfold F_laws_eqShare at hF
  refine c_region ?_
  refine s_box (cs := cat [[(vB p0.Place)], [v0_1]]) hE hM goes_none (by decide) rfl rfl ?_; intro b1 w a hM hE
  refine s_box (cs := cat [[(vB p1.Place)], [v1_1]]) hE hM goes_none (by decide) rfl rfl ?_; intro b3 w a hM hE
  refine s_assign hE goes_none (by decide) rfl ?_; intro a hE
  refine c_fin ?_
  refine wp_seq ?_
  refine c_region ?_
  refine s_fieldAddr hE goes_none (by decide) rfl (fd81_0) ?_; intro a hE
  refine s_load (v := (vB p0.Place)) hE goes_none (by decide) rfl ty5 rfl (At.cat (pre := []) (seg := [(vB p0.Place)]) (post := [[v0_1]]) (hM.rawAt (pre := [_])) cl0) ?_; intro a hE
  refine s_fieldAddr hE goes_none (by decide) rfl (fd81_0) ?_; intro a hE
  refine s_load (v := (vB p1.Place)) hE goes_none (by decide) rfl ty5 rfl (At.cat (pre := []) (seg := [(vB p1.Place)]) (post := [[v1_1]]) (hM.rawAt (pre := [])) cl0) ?_; intro a hE
  refine s_int hE goes_none (by decide) rfl rfl (bB_neq p0.Place p1.Place) ?_; intro a hE
  refine c_fin ?_
  refine c_cond hE rfl ?_ ?_
  · intro hb5
    have hF := ite_t hF hb5
    refine c_region ?_
    refine s_assign hE goes_none (by decide) rfl ?_; intro a hE
    refine c_fin ?_
    have hr := Option.some.inj hF
    subst hr
    have hM := M.fst (l := []) hM
    exact wp_ret (r_then (k_ret1 hE rfl (res_tmp hE rfl) ⟨_, rfl, rfl, hM.kept⟩))
  · intro hb5
    have hF := ite_f hF hb5
    refine wp_skip ?_
    refine c_nx ?_
    refine wp_seq ?_
    refine c_region ?_
    refine s_fieldAddr hE goes_none (by decide) rfl (fd81_1) ?_; intro a hE
    refine s_load (v := v0_1) hE goes_none (by decide) rfl ty29 rfl (At.cat (pre := [[(vB p0.Place)]]) (seg := [v0_1]) (post := []) (hM.rawAt (pre := [_])) (cl1 (n := 1) (m := 0) rfl cl0)) ?_; intro a hE
    refine s_fieldAddr hE goes_none (by decide) rfl (fd81_1) ?_; intro a hE
    refine s_load (v := v1_1) hE goes_none (by decide) rfl ty29 rfl (At.cat (pre := [[(vB p1.Place)]]) (seg := [v1_1]) (post := []) (hM.rawAt (pre := [])) (cl1 (n := 1) (m := 0) rfl cl0)) ?_; intro a hE
    obtain ⟨r6, e7, hF⟩ := bind_some hF
    refine s_call (vs := [v0_1, v1_1]) hE goes_none (by decide) rfl cb21 (c_laws_eqByteS _ p0.Data v0_1 (hM.rdo hv0_1) p1.Data v1_1 (hM.rdo hv1_1) r6 e7) ?_
    rintro v w a ⟨rfl, hK⟩ hE
    have hM := hM.keep hK
    refine s_not hE goes_none (by decide) rfl ?_; intro a hE
    refine c_fin ?_
    refine c_cond hE rfl ?_ ?_
    · intro hb8
      have hF := ite_t hF hb8
      refine c_region ?_
      refine s_assign hE goes_none (by decide) rfl ?_; intro a hE
      refine c_fin ?_
      have hr := Option.some.inj hF
      subst hr
      have hM := M.fst (l := []) hM
      exact wp_ret (r_then (k_ret1 hE rfl (res_tmp hE rfl) ⟨_, rfl, rfl, hM.kept⟩))
    · intro hb8
      have hF := ite_f hF hb8
      refine wp_skip ?_
      refine c_nx ?_
      refine c_region ?_
      refine s_assign hE goes_none (by decide) rfl ?_; intro a hE
      refine c_fin ?_
      have hr := Option.some.inj hF
      subst hr
      have hM := M.fst (l := []) hM
      exact wp_ret (k_ret1 hE rfl (res_tmp hE rfl) ⟨_, rfl, rfl, hM.kept⟩)
noncomputable def L0_laws_eqShareS (p0 : (List GShare)) (p1 : (List GShare)) (s6 : Int) : Option (Fl Int (Fl Unit Bool)) :=
  if (decide (s6 < (p0.length : Int))) = true then (((idx p0 s6).bind fun (x15 : GShare) => (idx p1 s6).bind fun (x23 : GShare) => (F_laws_eqShare x15 x23).bind fun (r31 : Bool) => some (!r31) : Option (Bool)).bind fun (j11 : Bool) => if j11 = true then (some (Fl.ex (Fl.ex false))) else (some (Fl.nx (wr (s6 + 1))))) else (some (Fl.ex (Fl.nx ())))
noncomputable def F_laws_eqShareS (p0 : (List GShare)) (p1 : (List GShare)) : Option (Bool) :=
  if ((p0.length : Int) != (p1.length : Int)) = true then (some false) else ((iter (L0_laws_eqShareS p0 p1) 0 : Option (Fl Unit Bool)).bind fun (j2 : Fl Unit Bool) => j2.el (fun (s5 : Unit) => some true) (fun r => some r))
set_option maxRecDepth 20000 in
set_option maxHeartbeats 400000 in
theorem c_laws_eqShareS (w0 : World) (p0 : (List GShare)) (v0_1 : Value) (hv0_1 : Ro w0 p0 [v0_1]) (p1 : (List GShare)) (v1_1 : Value) (hv1_1 : Ro w0 p1 [v1_1]) (r : Bool) (hF : F_laws_eqShareS p0 p1 = some r) :
    Calls Try.prog 17 [v0_1, v1_1].toArray w0 (fun en w' => ∃ v, en = .returned v ∧ (v = (vT r) ∧ Kept (Old w0) w0 w')) := by
  refine c_enter (n := 27) Try.func17 rfl rfl (Nat.le_of_ble_eq_true rfl) rfl ?_
  intro a hE
  have hM := M.start w0
  unfold F_laws_eqShareS at hF
  refine c_region ?_
  refine s_assign hE goes_none (by decide) rfl ?_; intro a hE
  refine c_fin ?_
  refine wp_seq ?_
  refine c_region ?_
  refine s_move hE goes_none (by decide) rfl ?_; intro a hE
  refine s_len hE goes_none (by decide) rfl Try.underlying25 (hM.rd hv0_1) ?_; intro a hE
  refine s_move hE goes_none (by decide) rfl ?_; intro a hE
  refine s_len hE goes_none (by decide) rfl Try.underlying25 (hM.rd hv1_1) ?_; intro a hE
  refine s_int hE goes_none (by decide) rfl rfl rfl ?_; intro a hE
  refine c_fin ?_
  refine c_cond hE rfl ?_ ?_
  · intro hb1
    have hF := ite_t hF hb1
    refine c_region ?_
    refine s_assign hE goes_none (by decide) rfl ?_; intro a hE
    refine c_fin ?_
    have hr := Option.some.inj hF
    subst hr
    exact wp_ret (r_then (k_ret1 hE rfl (res_tmp hE rfl) ⟨_, rfl, rfl, hM.kept⟩))
  · intro hb1
    have hF := ite_f hF hb1
    refine wp_skip ?_
    refine c_nx ?_
    refine wp_seq ?_
    refine c_region ?_
    refine s_assign hE goes_none (by decide) rfl ?_; intro a hE
    refine c_fin ?_
    obtain ⟨j2, hl3, hF4⟩ := bind_some hF
    refine c_cut (fun a w => ∃ s5 : Unit, j2 = Fl.nx s5 ∧ Env 27 a [] ∧ M (Old w0) w0 w []) ?_ ?_
    · skip
      refine wp_block ?_
      refine c_loop (fun (s6 : Int) a w => Env 27 a [(0, v0_1), (1, v1_1), (5, (vI s6))] ∧ M (Old w0) w0 w []) hl3 ⟨hE.sub ⟨rfl, rfl, rfl, trivial⟩, hM⟩ ?_
      rintro s6 a w ⟨hE, hM⟩ o9 hs7 hx8
      unfold L0_laws_eqShareS at hs7
      refine wp_seq ?_
      refine c_region ?_
      refine s_move hE goes_none (by decide) rfl ?_; intro a hE
      refine s_move hE goes_none (by decide) rfl ?_; intro a hE
      refine s_len hE goes_none (by decide) rfl Try.underlying25 (hM.rd hv0_1) ?_; intro a hE
      refine s_int hE goes_none (by decide) rfl rfl rfl ?_; intro a hE
      refine c_fin ?_
      refine c_cond hE rfl ?_ ?_
      · intro hb10
        have hs7 := ite_t hs7 hb10
        refine wp_skip ?_
        refine c_nx ?_
        refine wp_seq ?_
        refine wp_block ?_
        obtain ⟨j11, hl12, hF13⟩ := bind_some hs7
        refine c_join (fun a w => Env 27 a [(0, v0_1), (1, v1_1), (5, (vI s6)), (26, (vT j11))] ∧ M (Old w0) w0 w []) ?_ ?_
        · skip
          obtain ⟨x15, e16, hl12⟩ := bind_some hl12
          have hi17 := idx_some e16
          obtain ⟨cs18, hs19, hA20⟩ := sl_atRo hv0_1 hi17.2 -- ^
          obtain ⟨u21, rfl, h22⟩ := un_GShare hs19 -- ^
          obtain ⟨x23, e24, hl12⟩ := bind_some hl12
          have hi25 := idx_some e24
          obtain ⟨cs26, hs27, hA28⟩ := sl_atRo hv1_1 hi25.2 -- ^
          obtain ⟨u29, rfl, h30⟩ := un_GShare hs27 -- ^
          obtain ⟨r31, e32, hl12⟩ := bind_some hl12
          refine c_draw (n := 27) (hd := [_, _, _, _, _, _, _, _, _, _]) (tl := []) hmix rfl rfl [17, 18, 19, 20, 21, 22, 23, 24, 25, 26] (by decide) (fun w => M (Old w0) w0 w []) (fun j => ([fun v _ => v = v0_1, fun v _ => v = (vI s6), fun v _ => v = (ptr (sb v0_1) (so v0_1 + (s6).toNat * 2)), fun v _ => v = (Value.agg (cat [[(vB x15.Place)], [u21]]).toArray), fun v _ => v = v1_1, fun v _ => v = (vI s6), fun v _ => v = (ptr (sb v1_1) (so v1_1 + (s6).toNat * 2)), fun v _ => v = (Value.agg (cat [[(vB x23.Place)], [u29]]).toArray), fun v _ => v = (vT r31), fun v _ => v = (vT (!r31))] : List (Value → World → Prop)).getD j (fun _ _ => True)) (fun _ _ h hk => h.keep hk) (gup (gupE (gupE (gupE (gupE (gupE (gupE (gupE (gupE (gupE (gupE gupN))))))))))) hE hM.drew (steps_of (steps_cons ?_ (steps_cons ?_ (steps_cons ?_ (steps_cons ?_ (steps_cons ?_ (steps_cons ?_ (steps_cons ?_ (steps_cons ?_ (steps_cons ?_ (steps_cons ?_ steps_nil))))))))))) ?_
          · intro a w ux14 hE hM hp
            refine s_move hE goes_none (by decide) rfl ?_; intro a hE
            exact ⟨Kept.refl _ _, _, _, rfl, hE, rfl⟩
          · intro a w ux14 hE hM hp
            refine s_move hE goes_none (by decide) rfl ?_; intro a hE
            exact ⟨Kept.refl _ _, _, _, rfl, hE, rfl⟩
          · intro a w ux14 hE hM hp
            have f0 : ux14 0 = v0_1 := hp 0 _ rfl rfl
            have f1 : ux14 1 = (vI s6) := hp 1 _ rfl rfl
            refine s_indexS hE goes_none (by decide) (lk rfl f0) (lk rfl f1) Try.underlying25 ty81 (hM.rd hv0_1) hi17.1 ?_; intro a hE
            exact ⟨Kept.refl _ _, _, _, rfl, hE, rfl⟩
          · intro a w ux14 hE hM hp
            have f2 : ux14 2 = (ptr (sb v0_1) (so v0_1 + (s6).toNat * 2)) := hp 0 _ rfl rfl
            refine s_loadA (cs := cat [[(vB x15.Place)], [u21]]) hE goes_none (by decide) (lk rfl f2) ty81 rfl (hM.atk hA20 (sl_blk hv0_1 hi17.2)) (cat_len (cl1 (n := 1) (m := 1) rfl (cl1 (n := 1) (m := 0) rfl cl0))) ?_; intro a hE
            exact ⟨Kept.refl _ _, _, _, rfl, hE, rfl⟩
          · intro a w ux14 hE hM hp
            refine s_move hE goes_none (by decide) rfl ?_; intro a hE
            exact ⟨Kept.refl _ _, _, _, rfl, hE, rfl⟩
          · intro a w ux14 hE hM hp
            refine s_move hE goes_none (by decide) rfl ?_; intro a hE
            exact ⟨Kept.refl _ _, _, _, rfl, hE, rfl⟩
          · intro a w ux14 hE hM hp
            have f4 : ux14 4 = v1_1 := hp 0 _ rfl rfl
            have f5 : ux14 5 = (vI s6) := hp 1 _ rfl rfl
            refine s_indexS hE goes_none (by decide) (lk rfl f4) (lk rfl f5) Try.underlying25 ty81 (hM.rd hv1_1) hi25.1 ?_; intro a hE
            exact ⟨Kept.refl _ _, _, _, rfl, hE, rfl⟩
          · intro a w ux14 hE hM hp
            have f6 : ux14 6 = (ptr (sb v1_1) (so v1_1 + (s6).toNat * 2)) := hp 0 _ rfl rfl
            refine s_loadA (cs := cat [[(vB x23.Place)], [u29]]) hE goes_none (by decide) (lk rfl f6) ty81 rfl (hM.atk hA28 (sl_blk hv1_1 hi25.2)) (cat_len (cl1 (n := 1) (m := 1) rfl (cl1 (n := 1) (m := 0) rfl cl0))) ?_; intro a hE
            exact ⟨Kept.refl _ _, _, _, rfl, hE, rfl⟩
          · intro a w ux14 hE hM hp
            have f3 : ux14 3 = (Value.agg (cat [[(vB x15.Place)], [u21]]).toArray) := hp 0 _ rfl rfl
            have f7 : ux14 7 = (Value.agg (cat [[(vB x23.Place)], [u29]]).toArray) := hp 1 _ rfl rfl
            refine s_call (vs := [(Value.agg (cat [[(vB x15.Place)], [u21]]).toArray), (Value.agg (cat [[(vB x23.Place)], [u29]]).toArray)]) hE goes_none (by decide) (evs_of (evsC (lk rfl f3) (evsC (lk rfl f7) evsN))) cb64 (c_laws_eqShare _ x15 u21 (hM.rdo h22) x23 u29 (hM.rdo h30) r31 e32) ?_
            rintro v w a ⟨rfl, hK⟩ hE
            exact ⟨hK, _, _, rfl, hE, rfl⟩
          · intro a w ux14 hE hM hp
            have f8 : ux14 8 = (vT r31) := hp 0 _ rfl rfl
            refine s_not hE goes_none (by decide) (lk rfl f8) ?_; intro a hE
            exact ⟨Kept.refl _ _, _, _, rfl, hE, rfl⟩
          · intro a w ux14 hE hM hg
            have f0 : ux14 0 = v0_1 := hg 0 (by decide)
            have f1 : ux14 1 = (vI s6) := hg 1 (by decide)
            have f2 : ux14 2 = (ptr (sb v0_1) (so v0_1 + (s6).toNat * 2)) := hg 2 (by decide)
            have f3 : ux14 3 = (Value.agg (cat [[(vB x15.Place)], [u21]]).toArray) := hg 3 (by decide)
            have f4 : ux14 4 = v1_1 := hg 4 (by decide)
            have f5 : ux14 5 = (vI s6) := hg 5 (by decide)
            have f6 : ux14 6 = (ptr (sb v1_1) (so v1_1 + (s6).toNat * 2)) := hg 6 (by decide)
            have f7 : ux14 7 = (Value.agg (cat [[(vB x23.Place)], [u29]]).toArray) := hg 7 (by decide)
            have f8 : ux14 8 = (vT r31) := hg 8 (by decide)
            have f9 : ux14 9 = (vT (!r31)) := hg 9 (by decide)
            have hE := hE.sub (e' := [(17, v0_1), (18, (vI s6)), (19, (ptr (sb v0_1) (so v0_1 + (s6).toNat * 2))), (20, (Value.agg (cat [[(vB x15.Place)], [u21]]).toArray)), (21, v1_1), (22, (vI s6)), (23, (ptr (sb v1_1) (so v1_1 + (s6).toNat * 2))), (24, (Value.agg (cat [[(vB x23.Place)], [u29]]).toArray)), (25, (vT r31)), (26, (vT (!r31))), (0, v0_1), (1, v1_1), (5, (vI s6)), (11, (vI s6)), (12, v0_1), (13, (vI (p0.length : Int))), (14, (vT (decide (s6 < (p0.length : Int)))))]) ⟨lk rfl f0, lk rfl f1, lk rfl f2, lk rfl f3, lk rfl f4, lk rfl f5, lk rfl f6, lk rfl f7, lk rfl f8, lk rfl f9, rfl, rfl, rfl, rfl, rfl, rfl, rfl, trivial⟩
            refine c_fin0 ?_
            have ht33 := Option.some.inj hl12
            subst ht33
            refine c_mid ?_
            exact ⟨hE.sub ⟨rfl, rfl, rfl, rfl, trivial⟩, hM⟩
        · skip
          rintro a w ⟨hE, hM⟩
          refine c_cond hE rfl ?_ ?_
          · intro hb34
            have hF13 := ite_t hF13 hb34
            refine c_region ?_
            refine s_assign hE goes_none (by decide) rfl ?_; intro a hE
            refine c_fin ?_
            have ht35 := hx8 _ (Option.some.inj hF13).symm
            subst ht35
            have hr := Option.some.inj hF4
            subst hr
            exact wp_ret (r_inb (r_then (r_then (r_inb (r_then (r_then (k_ret1 hE rfl (res_tmp hE rfl) ⟨_, rfl, rfl, hM.kept⟩)))))))
          · intro hb34
            have hF13 := ite_f hF13 hb34
            refine wp_skip ?_
            refine c_nb ?_
            refine c_nx ?_
            refine wp_region_lit ?_
            refine s_move hE goes_none (by decide) rfl ?_; intro a hE
            refine s_int hE goes_none (by decide) rfl rfl rfl ?_; intro a hE
            refine s_assign hE goes_none (by decide) rfl ?_; intro a hE
            refine c_fin0 ?_
            refine c_mid ?_
            exact ⟨_, (Option.some.inj hF13).symm, hE.sub ⟨rfl, rfl, rfl, trivial⟩, hM⟩
      · intro hb10
        have hs7 := ite_f hs7 hb10
        refine wp_exit (e_then (e_then (e_eq ?_)))
        have ht36 := hx8 _ (Option.some.inj hs7).symm
        subst ht36
        refine c_mid ?_
        exact ⟨(), rfl, hE.sub trivial, hM⟩
    · skip
      rintro a w ⟨s5, ht, hE, hM⟩
      subst ht
      have hF4 := el_nx hF4
      refine c_nx ?_
      refine c_region ?_
      refine s_assign hE goes_none (by decide) rfl ?_; intro a hE
      refine c_fin ?_
      have hr := Option.some.inj hF4
      subst hr
      exact wp_ret (k_ret1 hE rfl (res_tmp hE rfl) ⟨_, rfl, rfl, hM.kept⟩)
noncomputable def F_laws_FnExactIsHidden (p0 : Int) (p1 : (List UInt8)) (p2 : (List UInt8)) (p3 : (List GShare)) (p4 : Int) : Option (Bool) :=
  if (decide ((p1.length : Int) > 1048576)) = true then (some true) else (if (decide ((p2.length : Int) > 1048576)) = true then (some true) else ((F_laws_szShareS p3 1048576).bind fun (r3 : Int) => if (decide (r3 < 0)) = true then (some true) else ((F_laws_toByteS p1).bind fun (r6 : (List UInt8)) => (F_laws_toByteS p2).bind fun (r9 : (List UInt8)) => (F_laws_toShareS p3).bind fun (r12 : (List GShare)) => (F_spec_IsHidden p0 r6 r9 r12 p4).bind fun (r15 : Bool × Int) => (F_laws_toByteS p1).bind fun (r17 : (List UInt8)) => (F_laws_toByteS p2).bind fun (r20 : (List UInt8)) => (F_laws_toShareS p3).bind fun (r23 : (List GShare)) => (F_impl_IsHidden p0 r17 r20 r23 p4).bind fun (r26 : Bool × Int) => (if (r26.1 != r15.1) = true then (some true) else (some (r26.2 != r15.2)) : Option (Bool)).bind fun (j28 : Bool) => if j28 = true then (some false) else ((F_laws_toByteS p1).bind fun (r35 : (List UInt8)) => (F_laws_eqByteS r17 r35).bind fun (r38 : Bool) => if (!r38) = true then (some false) else ((F_laws_toByteS p2).bind fun (r41 : (List UInt8)) => (F_laws_eqByteS r20 r41).bind fun (r44 : Bool) => if (!r44) = true then (some false) else ((F_laws_toShareS p3).bind fun (r47 : (List GShare)) => (F_laws_eqShareS r23 r47).bind fun (r50 : Bool) => if (!r50) = true then (some false) else (some true)))))))
set_option maxRecDepth 20000 in
set_option maxHeartbeats 400000 in
theorem c_laws_FnExactIsHidden (w0 : World) (p0 : Int) (p1 : (List UInt8)) (v1_1 : Value) (hv1_1 : Ro w0 p1 [v1_1]) (p2 : (List UInt8)) (v2_1 : Value) (hv2_1 : Ro w0 p2 [v2_1]) (p3 : (List GShare)) (v3_1 : Value) (hv3_1 : Ro w0 p3 [v3_1]) (p4 : Int) (r : Bool) (hF : F_laws_FnExactIsHidden p0 p1 p2 p3 p4 = some r) :
    Calls Try.prog 10 [(vI p0), v1_1, v2_1, v3_1, (vI p4)].toArray w0 (fun en w' => ∃ v, en = .returned v ∧ (v = (vT r) ∧ Kept (Old w0) w0 w')) := by
  refine c_enter (n := 80) Try.func10 rfl rfl (Nat.le_of_ble_eq_true rfl) rfl ?_
  intro a hE
  have hM := M.start w0
  unfold F_laws_FnExactIsHidden at hF
  refine c_region ?_
  refine s_assign hE goes_none (by decide) rfl ?_; intro a hE
  refine c_fin ?_
  refine wp_seq ?_
  refine c_region ?_
  refine s_move hE goes_none (by decide) rfl ?_; intro a hE
  refine s_len hE goes_none (by decide) rfl Try.underlying29 (hM.rd hv1_1) ?_; intro a hE
  refine s_int hE goes_none (by decide) rfl rfl rfl ?_; intro a hE
  refine c_fin ?_
  refine c_cond hE rfl ?_ ?_
  · intro hb1
    have hF := ite_t hF hb1
    refine c_region ?_
    refine s_assign hE goes_none (by decide) rfl ?_; intro a hE
    refine c_fin ?_
    have hr := Option.some.inj hF
    subst hr
    exact wp_ret (r_then (k_ret1 hE rfl (res_tmp hE rfl) ⟨_, rfl, rfl, hM.kept⟩))
  · intro hb1
    have hF := ite_f hF hb1
    refine wp_skip ?_
    refine c_nx ?_
    refine wp_seq ?_
    refine c_region ?_
    refine s_move hE goes_none (by decide) rfl ?_; intro a hE
    refine s_len hE goes_none (by decide) rfl Try.underlying29 (hM.rd hv2_1) ?_; intro a hE
    refine s_int hE goes_none (by decide) rfl rfl rfl ?_; intro a hE
    refine c_fin ?_
    refine c_cond hE rfl ?_ ?_
    · intro hb2
      have hF := ite_t hF hb2
      refine c_region ?_
      refine s_assign hE goes_none (by decide) rfl ?_; intro a hE
      refine c_fin ?_
      have hr := Option.some.inj hF
      subst hr
      exact wp_ret (r_then (k_ret1 hE rfl (res_tmp hE rfl) ⟨_, rfl, rfl, hM.kept⟩))
    · intro hb2
      have hF := ite_f hF hb2
      refine wp_skip ?_
      refine c_nx ?_
      refine c_region ?_
      refine s_assign hE goes_none (by decide) rfl ?_; intro a hE
      refine c_fin ?_
      refine c_region ?_
      refine s_move hE goes_none (by decide) rfl ?_; intro a hE
      refine s_move hE goes_none (by decide) rfl ?_; intro a hE
      obtain ⟨r3, e4, hF⟩ := bind_some hF
      refine s_call (vs := [v3_1, (vI 1048576)]) hE goes_none (by decide) rfl cb13 (c_laws_szShareS _ p3 v3_1 (hM.rdo hv3_1) 1048576 r3 e4) ?_
      rintro v w a ⟨rfl, hK⟩ hE
      have hM := hM.keep hK
      refine s_assign hE goes_none (by decide) rfl ?_; intro a hE
      refine c_fin ?_
      refine wp_seq ?_
      refine c_region ?_
      refine s_move hE goes_none (by decide) rfl ?_; intro a hE
      refine s_int hE goes_none (by decide) rfl rfl rfl ?_; intro a hE
      refine c_fin ?_
      refine c_cond hE rfl ?_ ?_
      · intro hb5
        have hF := ite_t hF hb5
        refine c_region ?_
        refine s_assign hE goes_none (by decide) rfl ?_; intro a hE
        refine c_fin ?_
        have hr := Option.some.inj hF
        subst hr
        exact wp_ret (r_then (k_ret1 hE rfl (res_tmp hE rfl) ⟨_, rfl, rfl, hM.kept⟩))
      · intro hb5
        have hF := ite_f hF hb5
        refine wp_skip ?_
        refine c_nx ?_
        refine c_region ?_
        refine s_move hE goes_none (by decide) rfl ?_; intro a hE
        refine s_move hE goes_none (by decide) rfl ?_; intro a hE
        obtain ⟨r6, e7, hF⟩ := bind_some hF
        refine s_call (vs := [v1_1]) hE goes_none (by decide) rfl cb19 (c_laws_toByteS _ p1 v1_1 (hM.rdo hv1_1) r6 e7) ?_
        rintro u8 w a ⟨_, rfl, hFr, hK⟩ hE
        have hM := hM.add hK hFr
        refine s_move hE goes_none (by decide) rfl ?_; intro a hE
        obtain ⟨r9, e10, hF⟩ := bind_some hF
        refine s_call (vs := [v2_1]) hE goes_none (by decide) rfl cb19 (c_laws_toByteS _ p2 v2_1 (hM.rdo hv2_1) r9 e10) ?_
        rintro u11 w a ⟨_, rfl, hFr, hK⟩ hE
        have hM := hM.add hK hFr
        refine s_move hE goes_none (by decide) rfl ?_; intro a hE
        obtain ⟨r12, e13, hF⟩ := bind_some hF
        refine s_call (vs := [v3_1]) hE goes_none (by decide) rfl cb15 (c_laws_toShareS _ p3 v3_1 (hM.rdo hv3_1) r12 e13) ?_
        rintro u14 w a ⟨_, rfl, hFr, hK⟩ hE
        have hM := hM.add hK hFr
        refine s_move hE goes_none (by decide) rfl ?_; intro a hE
        obtain ⟨r15, e16, hF⟩ := bind_some hF
        refine s_call (vs := [(vI p0), u8, u11, u14, (vI p4)]) hE goes_none (by decide) rfl cb47 (c_spec_IsHidden _ p0 r6 u8 (hM.sl (pre := [_, _]) noB) r9 u11 (hM.sl (pre := [_]) noB) r12 u14 (hM.sl (pre := []) noB) p4 r15 e16) ?_
        rintro v w a ⟨rfl, hK⟩ hE
        have hM := hM.keep hK
        refine s_move hE goes_none (by decide) rfl ?_; intro a hE
        refine s_extract hE goes_none (by decide) rfl rfl ?_; intro a hE
        refine s_extract hE goes_none (by decide) rfl rfl ?_; intro a hE
        refine s_assign hE goes_none (by decide) rfl ?_; intro a hE
        refine s_assign hE goes_none (by decide) rfl ?_; intro a hE
        refine c_fin ?_
        refine c_region ?_
        refine s_move hE goes_none (by decide) rfl ?_; intro a hE
        obtain ⟨r17, e18, hF⟩ := bind_some hF
        refine s_call (vs := [v1_1]) hE goes_none (by decide) rfl cb19 (c_laws_toByteS _ p1 v1_1 (hM.rdo hv1_1) r17 e18) ?_
        rintro u19 w a ⟨_, rfl, hFr, hK⟩ hE
        have hM := hM.add hK hFr
        refine s_assign hE goes_none (by decide) rfl ?_; intro a hE
        refine c_fin ?_
        refine c_region ?_
        refine s_move hE goes_none (by decide) rfl ?_; intro a hE
        obtain ⟨r20, e21, hF⟩ := bind_some hF
        refine s_call (vs := [v2_1]) hE goes_none (by decide) rfl cb19 (c_laws_toByteS _ p2 v2_1 (hM.rdo hv2_1) r20 e21) ?_
        rintro u22 w a ⟨_, rfl, hFr, hK⟩ hE
        have hM := hM.add hK hFr
        refine s_assign hE goes_none (by decide) rfl ?_; intro a hE
        refine c_fin ?_
        refine c_region ?_
        refine s_move hE goes_none (by decide) rfl ?_; intro a hE
        obtain ⟨r23, e24, hF⟩ := bind_some hF
        refine s_call (vs := [v3_1]) hE goes_none (by decide) rfl cb15 (c_laws_toShareS _ p3 v3_1 (hM.rdo hv3_1) r23 e24) ?_
        rintro u25 w a ⟨_, rfl, hFr, hK⟩ hE
        have hM := hM.add hK hFr
        refine s_assign hE goes_none (by decide) rfl ?_; intro a hE
        refine c_fin ?_
        refine c_region ?_
        refine s_move hE goes_none (by decide) rfl ?_; intro a hE
        refine s_move hE goes_none (by decide) rfl ?_; intro a hE
        refine s_move hE goes_none (by decide) rfl ?_; intro a hE
        refine s_move hE goes_none (by decide) rfl ?_; intro a hE
        refine s_move hE goes_none (by decide) rfl ?_; intro a hE
        obtain ⟨r26, e27, hF⟩ := bind_some hF
        refine s_call (vs := [(vI p0), u19, u22, u25, (vI p4)]) hE goes_none (by decide) rfl cb48 (c_impl_IsHidden _ p0 r17 u19 (hM.sl (pre := [_, _]) noB) r20 u22 (hM.sl (pre := [_]) noB) r23 u25 (hM.sl (pre := []) noB) p4 r26 e27) ?_
        rintro v w a ⟨rfl, hK⟩ hE
        have hM := hM.keep hK
        refine s_move hE goes_none (by decide) rfl ?_; intro a hE
        refine s_extract hE goes_none (by decide) rfl rfl ?_; intro a hE
        refine s_extract hE goes_none (by decide) rfl rfl ?_; intro a hE
        refine s_assign hE goes_none (by decide) rfl ?_; intro a hE
        refine s_assign hE goes_none (by decide) rfl ?_; intro a hE
        refine c_fin ?_
        refine wp_seq ?_
        obtain ⟨j28, hl29, hF30⟩ := bind_some hF
        refine c_join (fun a w => Env 80 a [(1, v1_1), (2, v2_1), (3, v3_1), (14, u19), (15, u22), (16, u25), (64, (vT j28))] ∧ M (Old w0) w0 w [osl NoB (r23 : List GShare) u25, osl NoB (r20 : List UInt8) u22, osl NoB (r17 : List UInt8) u19]) ?_ ?_
        · skip
          refine wp_region_lit ?_
          refine s_move hE goes_none (by decide) rfl ?_; intro a hE
          refine s_move hE goes_none (by decide) rfl ?_; intro a hE
          refine s_neT hE goes_none (by decide) rfl rfl Try.underlying4 ?_; intro a hE
          refine s_move hE goes_none (by decide) rfl ?_; intro a hE
          refine splitB (r26.1 != r15.1) (fun hb31 => ?_) (fun hb31 => ?_)
          · have hl29 := ite_t hl29 hb31
            refine s_skip hE rfl (lkb rfl hb31) rfl (by decide) ?_; intro a hE
            refine s_skip hE rfl (lkb rfl hb31) rfl (by decide) ?_; intro a hE
            refine s_skip hE rfl (lkb rfl hb31) rfl (by decide) ?_; intro a hE
            refine s_pickT hE goes_none (by decide) (lkb rfl hb31) rfl ?_; intro a hE
            refine c_fin0 ?_
            have ht32 := Option.some.inj hl29
            subst ht32
            refine c_mid ?_
            have hM := hM.pull (pre := [_, _])
            have hM := hM.pull (pre := [_, _])
            have hM := hM.pull (pre := [_, _])
            have hM := M.fst (l := [_, _, _]) hM
            exact ⟨hE.sub ⟨rfl, rfl, rfl, rfl, rfl, rfl, rfl, trivial⟩, hM⟩
          · have hl29 := ite_f hl29 hb31
            refine s_move hE (goes_yes hE rfl (lkb rfl hb31)) (by decide) rfl ?_; intro a hE
            refine s_move hE (goes_yes hE rfl (lkb rfl hb31)) (by decide) rfl ?_; intro a hE
            refine s_int hE (goes_yes hE rfl (lkb rfl hb31)) (by decide) rfl rfl rfl ?_; intro a hE
            refine s_pickF hE goes_none (by decide) (lkb rfl hb31) rfl ?_; intro a hE
            refine c_fin0 ?_
            have ht33 := Option.some.inj hl29
            subst ht33
            refine c_mid ?_
            have hM := hM.pull (pre := [_, _])
            have hM := hM.pull (pre := [_, _])
            have hM := hM.pull (pre := [_, _])
            have hM := M.fst (l := [_, _, _]) hM
            exact ⟨hE.sub ⟨rfl, rfl, rfl, rfl, rfl, rfl, rfl, trivial⟩, hM⟩
        · skip
          rintro a w ⟨hE, hM⟩
          refine c_cond hE rfl ?_ ?_
          · intro hb34
            have hF30 := ite_t hF30 hb34
            refine c_region ?_
            refine s_assign hE goes_none (by decide) rfl ?_; intro a hE
            refine c_fin ?_
            have hr := Option.some.inj hF30
            subst hr
            have hM := M.fst (l := []) hM
            exact wp_ret (r_then (k_ret1 hE rfl (res_tmp hE rfl) ⟨_, rfl, rfl, hM.kept⟩))
          · intro hb34
            have hF30 := ite_f hF30 hb34
            refine wp_skip ?_
            refine c_nx ?_
            refine wp_seq ?_
            refine c_region ?_
            refine s_move hE goes_none (by decide) rfl ?_; intro a hE
            refine s_move hE goes_none (by decide) rfl ?_; intro a hE
            obtain ⟨r35, e36, hF30⟩ := bind_some hF30
            refine s_call (vs := [v1_1]) hE goes_none (by decide) rfl cb19 (c_laws_toByteS _ p1 v1_1 (hM.rdo hv1_1) r35 e36) ?_
            rintro u37 w a ⟨_, rfl, hFr, hK⟩ hE
            have hM := hM.add hK hFr
            obtain ⟨r38, e39, hF30⟩ := bind_some hF30
            refine s_call (vs := [u19, u37]) hE goes_none (by decide) rfl cb21 (c_laws_eqByteS _ r17 u19 (hM.sl (pre := [_, _, _]) noB) r35 u37 (hM.sl (pre := []) noB) r38 e39) ?_
            rintro v w a ⟨rfl, hK⟩ hE
            have hM := hM.keep hK
            refine s_not hE goes_none (by decide) rfl ?_; intro a hE
            refine c_fin ?_
            refine c_cond hE rfl ?_ ?_
            · intro hb40
              have hF30 := ite_t hF30 hb40
              refine c_region ?_
              refine s_assign hE goes_none (by decide) rfl ?_; intro a hE
              refine c_fin ?_
              have hr := Option.some.inj hF30
              subst hr
              have hM := M.fst (l := []) hM
              exact wp_ret (r_then (k_ret1 hE rfl (res_tmp hE rfl) ⟨_, rfl, rfl, hM.kept⟩))
            · intro hb40
              have hF30 := ite_f hF30 hb40
              refine wp_skip ?_
              refine c_nx ?_
              refine wp_seq ?_
              refine c_region ?_
              refine s_move hE goes_none (by decide) rfl ?_; intro a hE
              refine s_move hE goes_none (by decide) rfl ?_; intro a hE
              obtain ⟨r41, e42, hF30⟩ := bind_some hF30
              refine s_call (vs := [v2_1]) hE goes_none (by decide) rfl cb19 (c_laws_toByteS _ p2 v2_1 (hM.rdo hv2_1) r41 e42) ?_
              rintro u43 w a ⟨_, rfl, hFr, hK⟩ hE
              have hM := hM.add hK hFr
              obtain ⟨r44, e45, hF30⟩ := bind_some hF30
              refine s_call (vs := [u22, u43]) hE goes_none (by decide) rfl cb21 (c_laws_eqByteS _ r20 u22 (hM.sl (pre := [_, _, _]) noB) r41 u43 (hM.sl (pre := []) noB) r44 e45) ?_
              rintro v w a ⟨rfl, hK⟩ hE
              have hM := hM.keep hK
              refine s_not hE goes_none (by decide) rfl ?_; intro a hE
              refine c_fin ?_
              refine c_cond hE rfl ?_ ?_
              · intro hb46
                have hF30 := ite_t hF30 hb46
                refine c_region ?_
                refine s_assign hE goes_none (by decide) rfl ?_; intro a hE
                refine c_fin ?_
                have hr := Option.some.inj hF30
                subst hr
                have hM := M.fst (l := []) hM
                exact wp_ret (r_then (k_ret1 hE rfl (res_tmp hE rfl) ⟨_, rfl, rfl, hM.kept⟩))
              · intro hb46
                have hF30 := ite_f hF30 hb46
                refine wp_skip ?_
                refine c_nx ?_
                refine wp_seq ?_
                refine c_region ?_
                refine s_move hE goes_none (by decide) rfl ?_; intro a hE
                refine s_move hE goes_none (by decide) rfl ?_; intro a hE
                obtain ⟨r47, e48, hF30⟩ := bind_some hF30
                refine s_call (vs := [v3_1]) hE goes_none (by decide) rfl cb15 (c_laws_toShareS _ p3 v3_1 (hM.rdo hv3_1) r47 e48) ?_
                rintro u49 w a ⟨_, rfl, hFr, hK⟩ hE
                have hM := hM.add hK hFr
                obtain ⟨r50, e51, hF30⟩ := bind_some hF30
                refine s_call (vs := [u25, u49]) hE goes_none (by decide) rfl cb17 (c_laws_eqShareS _ r23 u25 (hM.sl (pre := [_, _, _]) noB) r47 u49 (hM.sl (pre := []) noB) r50 e51) ?_
                rintro v w a ⟨rfl, hK⟩ hE
                have hM := hM.keep hK
                refine s_not hE goes_none (by decide) rfl ?_; intro a hE
                refine c_fin ?_
                refine c_cond hE rfl ?_ ?_
                · intro hb52
                  have hF30 := ite_t hF30 hb52
                  refine c_region ?_
                  refine s_assign hE goes_none (by decide) rfl ?_; intro a hE
                  refine c_fin ?_
                  have hr := Option.some.inj hF30
                  subst hr
                  have hM := M.fst (l := []) hM
                  exact wp_ret (r_then (k_ret1 hE rfl (res_tmp hE rfl) ⟨_, rfl, rfl, hM.kept⟩))
                · intro hb52
                  have hF30 := ite_f hF30 hb52
                  refine wp_skip ?_
                  refine c_nx ?_
                  refine c_region ?_
                  refine s_assign hE goes_none (by decide) rfl ?_; intro a hE
                  refine c_fin ?_
                  have hr := Option.some.inj hF30
                  subst hr
                  have hM := M.fst (l := []) hM
                  exact wp_ret (k_ret1 hE rfl (res_tmp hE rfl) ⟨_, rfl, rfl, hM.kept⟩)
end Go.Proofs.Ytbonmndobipbnaa
