/- The walk of what the law reaches: contracts of functions. -/
import Derived.Test.YtbonmndobipbnaaC1
set_option linter.unusedVariables false
set_option linter.unusedSimpArgs false
namespace Go.Proofs.Ytbonmndobipbnaa
open Go
set_option maxRecDepth 20000 in
set_option maxHeartbeats 400000 in
theorem c_impl_areEven_1 (w0 : World) (p0 : GShare) (v0_1 : Value) (hv0_1 : Ro w0 p0.Data [v0_1]) (pb1 : Nat) (p1 : (List GShare)) (v1_2 : Value) (hv1_2 : Ro w0 p1 [v1_2]) (hA1 : At w0 pb1 0 ([v1_2])) (hB1 : Old w0 pb1) (r : Bool) (hF : F_impl_areEven_1 p0 p1 = some r) :
    Calls Try.prog 117 [(Value.agg (cat [[(vB p0.Place)], [v0_1]]).toArray), (ptr pb1 0)].toArray w0 (fun en w' => ∃ v, en = .returned v ∧ (v = (vT r) ∧ Kept (Old w0) w0 w')) := by
  refine c_enter (n := 13) Try.func117 rfl rfl (Nat.le_of_ble_eq_true rfl) rfl ?_
  intro a hE
  have hM := M.start w0
  unfold F_impl_areEven_1 at hF
  refine c_region ?_
  refine s_box (cs := cat [[(vB p0.Place)], [v0_1]]) hE hM goes_none (by decide) rfl rfl ?_; intro b1 w a hM hE
  refine s_assign hE goes_none (by decide) rfl ?_; intro a hE
  refine c_fin ?_
  obtain ⟨j3, hl4, hF5⟩ := bind_some hF
  refine c_join (fun a w => Env 13 a [(3, (vT j3))] ∧ M (Old w0) w0 w []) ?_ ?_
  · skip
    obtain ⟨x7, e8, hl4⟩ := bind_some hl4
    have hi9 := idx_some e8
    obtain ⟨cs10, hs11, hA12⟩ := sl_atRo hv1_2 hi9.2 -- ^
    obtain ⟨u13, rfl, h14⟩ := un_GShare hs11 -- ^
    refine c_draw (n := 13) (hd := [_, _, _, _, _, _, _, _, _, _]) (tl := []) hmix rfl rfl [4, 5, 6, 7, 8, 9, 10, 11, 12, 3] (by decide) (fun w => M (Old w0) w0 w [raw b1 (cat [[(vB p0.Place)], [v0_1]])]) (fun j => ([fun v _ => v = (ptr b1 (0 + 1)), fun v _ => v = v0_1, fun v _ => v = (vI (p0.Data.length : Int)), fun v _ => v = v1_2, fun v _ => v = (ptr (sb v1_2) (so v1_2 + ((0 : Int)).toNat * 2)), fun v _ => v = (ptr (sb v1_2) (so v1_2 + ((0 : Int)).toNat * 2 + 1)), fun v _ => v = u13, fun v _ => v = (vI (x7.Data.length : Int)), fun v _ => v = (vT ((p0.Data.length : Int) != (x7.Data.length : Int))), fun v _ => v = (vT ((p0.Data.length : Int) != (x7.Data.length : Int)))] : List (Value → World → Prop)).getD j (fun _ _ => True)) (fun _ _ h hk => h.keep hk) (gup (gupE (gupE (gupE (gupE (gupE (gupE (gupE (gupE (gupE (gupE gupN))))))))))) hE hM.drew (steps_of (steps_cons ?_ (steps_cons ?_ (steps_cons ?_ (steps_cons ?_ (steps_cons ?_ (steps_cons ?_ (steps_cons ?_ (steps_cons ?_ (steps_cons ?_ (steps_cons ?_ steps_nil))))))))))) ?_
    · intro a w ux6 hE hM hp
      refine s_fieldAddr hE goes_none (by decide) rfl (fd81_1) ?_; intro a hE
      exact ⟨Kept.refl _ _, _, _, rfl, hE, rfl⟩
    · intro a w ux6 hE hM hp
      have f0 : ux6 0 = (ptr b1 (0 + 1)) := hp 0 _ rfl rfl
      refine s_load (v := v0_1) hE goes_none (by decide) (lk rfl f0) ty29 rfl (At.cat (pre := [[(vB p0.Place)]]) (seg := [v0_1]) (post := []) (hM.rawAt (pre := [])) (cl1 (n := 1) (m := 0) rfl cl0)) ?_; intro a hE
      exact ⟨Kept.refl _ _, _, _, rfl, hE, rfl⟩
    · intro a w ux6 hE hM hp
      have f1 : ux6 1 = v0_1 := hp 0 _ rfl rfl
      refine s_len hE goes_none (by decide) (lk rfl f1) Try.underlying29 (hM.rd hv0_1) ?_; intro a hE
      exact ⟨Kept.refl _ _, _, _, rfl, hE, rfl⟩
    · intro a w ux6 hE hM hp
      refine s_load (v := v1_2) hE goes_none (by decide) rfl ty25 rfl (hM.atk hA1 hB1) ?_; intro a hE
      exact ⟨Kept.refl _ _, _, _, rfl, hE, rfl⟩
    · intro a w ux6 hE hM hp
      have f3 : ux6 3 = v1_2 := hp 0 _ rfl rfl
      refine s_indexS hE goes_none (by decide) (lk rfl f3) rfl Try.underlying25 ty81 (hM.rd hv1_2) hi9.1 ?_; intro a hE
      exact ⟨Kept.refl _ _, _, _, rfl, hE, rfl⟩
    · intro a w ux6 hE hM hp
      have f4 : ux6 4 = (ptr (sb v1_2) (so v1_2 + ((0 : Int)).toNat * 2)) := hp 0 _ rfl rfl
      refine s_fieldAddr hE goes_none (by decide) (lk rfl f4) (fd81_1) ?_; intro a hE
      exact ⟨Kept.refl _ _, _, _, rfl, hE, rfl⟩
    · intro a w ux6 hE hM hp
      have f5 : ux6 5 = (ptr (sb v1_2) (so v1_2 + ((0 : Int)).toNat * 2 + 1)) := hp 0 _ rfl rfl
      refine s_load (v := u13) hE goes_none (by decide) (lk rfl f5) ty29 rfl (At.cat (pre := [[(vB x7.Place)]]) (seg := [u13]) (post := []) (hM.atk hA12 (sl_blk hv1_2 hi9.2)) (cl1 (n := 1) (m := 0) rfl cl0)) ?_; intro a hE
      exact ⟨Kept.refl _ _, _, _, rfl, hE, rfl⟩
    · intro a w ux6 hE hM hp
      have f6 : ux6 6 = u13 := hp 0 _ rfl rfl
      refine s_len hE goes_none (by decide) (lk rfl f6) Try.underlying29 (hM.rd h14) ?_; intro a hE
      exact ⟨Kept.refl _ _, _, _, rfl, hE, rfl⟩
    · intro a w ux6 hE hM hp
      have f2 : ux6 2 = (vI (p0.Data.length : Int)) := hp 0 _ rfl rfl
      have f7 : ux6 7 = (vI (x7.Data.length : Int)) := hp 1 _ rfl rfl
      refine s_int hE goes_none (by decide) (lk rfl f2) (lk rfl f7) rfl ?_; intro a hE
      exact ⟨Kept.refl _ _, _, _, rfl, hE, rfl⟩
    · intro a w ux6 hE hM hp
      have f8 : ux6 8 = (vT ((p0.Data.length : Int) != (x7.Data.length : Int))) := hp 0 _ rfl rfl
      refine s_assign hE goes_none (by decide) (lk rfl f8) ?_; intro a hE
      exact ⟨Kept.refl _ _, _, _, rfl, hE, rfl⟩
    · intro a w ux6 hE hM hg
      have f0 : ux6 0 = (ptr b1 (0 + 1)) := hg 0 (by decide)
      have f1 : ux6 1 = v0_1 := hg 1 (by decide)
      have f2 : ux6 2 = (vI (p0.Data.length : Int)) := hg 2 (by decide)
      have f3 : ux6 3 = v1_2 := hg 3 (by decide)
      have f4 : ux6 4 = (ptr (sb v1_2) (so v1_2 + ((0 : Int)).toNat * 2)) := hg 4 (by decide)
      have f5 : ux6 5 = (ptr (sb v1_2) (so v1_2 + ((0 : Int)).toNat * 2 + 1)) := hg 5 (by decide)
      have f6 : ux6 6 = u13 := hg 6 (by decide)
      have f7 : ux6 7 = (vI (x7.Data.length : Int)) := hg 7 (by decide)
      have f8 : ux6 8 = (vT ((p0.Data.length : Int) != (x7.Data.length : Int))) := hg 8 (by decide)
      have f9 : ux6 9 = (vT ((p0.Data.length : Int) != (x7.Data.length : Int))) := hg 9 (by decide)
      have hE := hE.sub (e' := [(4, (ptr b1 (0 + 1))), (5, v0_1), (6, (vI (p0.Data.length : Int))), (7, v1_2), (8, (ptr (sb v1_2) (so v1_2 + ((0 : Int)).toNat * 2))), (9, (ptr (sb v1_2) (so v1_2 + ((0 : Int)).toNat * 2 + 1))), (10, u13), (11, (vI (x7.Data.length : Int))), (12, (vT ((p0.Data.length : Int) != (x7.Data.length : Int)))), (3, (vT ((p0.Data.length : Int) != (x7.Data.length : Int)))), (0, (Value.agg (cat [[(vB p0.Place)], [v0_1]]).toArray)), (1, (ptr pb1 0)), (2, (ptr b1 0))]) ⟨lk rfl f0, lk rfl f1, lk rfl f2, lk rfl f3, lk rfl f4, lk rfl f5, lk rfl f6, lk rfl f7, lk rfl f8, lk rfl f9, rfl, rfl, rfl, trivial⟩
      refine c_fin0 ?_
      have ht15 := Option.some.inj hl4
      subst ht15
      refine c_mid ?_
      have hM := M.fst (l := []) hM
      exact ⟨hE.sub ⟨rfl, trivial⟩, hM⟩
  · skip
    rintro a w ⟨hE, hM⟩
    have hr := Option.some.inj hF5
    subst hr
    exact wp_ret (k_ret1 hE rfl (res_tmp hE rfl) ⟨_, rfl, rfl, hM.kept⟩)
noncomputable def F_impl_areEven (p0 : (List GShare)) : Option (Bool) :=
  (F_slices_ContainsFunc_impl_Share_impl_Share p0 (fun z0 => F_impl_areEven_1 z0 p0)).bind fun (r3 : Bool) => some (!r3)
set_option maxRecDepth 20000 in
set_option maxHeartbeats 400000 in
theorem c_impl_areEven (w0 : World) (p0 : (List GShare)) (v0_1 : Value) (hv0_1 : Ro w0 p0 [v0_1]) (r : Bool) (hF : F_impl_areEven p0 = some r) :
    Calls Try.prog 63 [v0_1].toArray w0 (fun en w' => ∃ v, en = .returned v ∧ (v = (vT r) ∧ Kept (Old w0) w0 w')) := by
  refine c_enter (n := 7) Try.func63 rfl rfl (Nat.le_of_ble_eq_true rfl) rfl ?_
  intro a hE
  have hM := M.start w0
  unfold F_impl_areEven at hF
  refine c_region ?_
  refine s_box (cs := [v0_1]) hE hM goes_none (by decide) rfl (sl_cells (hM.rd hv0_1)) ?_; intro b1 w a hM hE
  refine s_assign hE goes_none (by decide) rfl ?_; intro a hE
  refine c_fin ?_
  refine c_region ?_
  refine s_load (v := v0_1) hE goes_none (by decide) rfl ty25 rfl (hM.rawAt (pre := [])) ?_; intro a hE
  refine s_makeFunc hE goes_none (by decide) rfl ?_; intro a hE
  obtain ⟨r3, e4, hF⟩ := bind_some hF
  refine s_call (vs := [v0_1, (Value.func (.func 117) #[] [(ptr b1 0)].toArray)]) hE goes_none (by decide) rfl cb58 (c_slices_ContainsFunc_impl_Share_impl_Share _ p0 v0_1 (hM.rdo hv0_1) (fun z0 => F_impl_areEven_1 z0 p0) 117 [(ptr b1 0)] cb117 (fun w2 hk2 z0 zu0_0 zh0_0 zr zhr => c_impl_areEven_1 w2 z0 zu0_0 zh0_0 b1 p0 v0_1 (ro_later (hM.rdo hv0_1) hk2) (at_later (hM.rawAt (pre := [])) hk2 (by simp [cat])) (at_lt_later (hM.rawAt (pre := [])) hk2 (by simp [cat])) zr zhr) r3 e4) ?_
  rintro v w a ⟨rfl, hK⟩ hE
  have hM := hM.keep hK
  refine s_not hE goes_none (by decide) rfl ?_; intro a hE
  refine s_assign hE goes_none (by decide) rfl ?_; intro a hE
  refine c_fin ?_
  have hr := Option.some.inj hF
  subst hr
  have hM := M.fst (l := []) hM
  exact wp_ret (k_ret1 hE rfl (res_tmp hE rfl) ⟨_, rfl, rfl, hM.kept⟩)
noncomputable def F_impl_checkShares (p0 : Int) (p1 : (List GShare)) (p2 : Int) : Option (Int) :=
  ((F_impl_IsField p0).bind fun (r4 : Bool) => if (!r4) = true then (some true) else ((F_slices_ContainsFunc_impl_Share_impl_Share p1 (fun z0 => F_impl_checkShares_1 z0)).bind fun (r8 : Bool) => if r8 = true then (some true) else ((F_impl_placesOf p1).bind fun (r12 : (List UInt8)) => (F_impl_areDifferent r12).bind fun (r15 : Bool) => some (!r15))) : Option (Bool)).bind fun (j1 : Bool) => if j1 = true then (some 1) else (((F_impl_length_impl_Share p1).bind fun (r22 : Int) => (F_impl_inRange r22 1 12).bind fun (r24 : Bool) => if (!r24) = true then (some true) else ((F_impl_areEven p1).bind fun (r28 : Bool) => if (!r28) = true then (some true) else ((F_impl_inRange p2 1 8).bind fun (r32 : Bool) => some (!r32))) : Option (Bool)).bind fun (j19 : Bool) => if j19 = true then (some 2) else (some 0))
set_option maxRecDepth 20000 in
set_option maxHeartbeats 400000 in
theorem c_impl_checkShares (w0 : World) (p0 : Int) (p1 : (List GShare)) (v1_1 : Value) (hv1_1 : Ro w0 p1 [v1_1]) (p2 : Int) (r : Int) (hF : F_impl_checkShares p0 p1 p2 = some r) :
    Calls Try.prog 97 [(vI p0), v1_1, (vI p2)].toArray w0 (fun en w' => ∃ v, en = .returned v ∧ (v = (vI r) ∧ Kept (Old w0) w0 w')) := by
  refine c_enter (n := 36) Try.func97 rfl rfl (Nat.le_of_ble_eq_true rfl) rfl ?_
  intro a hE
  have hM := M.start w0
  unfold F_impl_checkShares at hF
  refine c_region ?_
  refine s_assign hE goes_none (by decide) rfl ?_; intro a hE
  refine c_fin ?_
  refine wp_seq ?_
  refine wp_block ?_
  obtain ⟨j1, hl2, hF3⟩ := bind_some hF
  refine c_join (fun a w => Env 36 a [(1, v1_1), (2, (vI p2)), (7, (vT j1))] ∧ M (Old w0) w0 w []) ?_ ?_
  · skip
    refine wp_region_lit ?_
    refine s_move hE goes_none (by decide) rfl ?_; intro a hE
    obtain ⟨r4, e5, hl2⟩ := bind_some hl2
    refine s_call (vs := [(vI p0)]) hE goes_none (by decide) rfl cb68 (c_impl_IsField _ p0 r4 e5) ?_
    rintro v w a ⟨rfl, hK⟩ hE
    have hM := hM.keep hK
    refine s_not hE goes_none (by decide) rfl ?_; intro a hE
    refine s_move hE goes_none (by decide) rfl ?_; intro a hE
    refine splitB (!r4) (fun hb6 => ?_) (fun hb6 => ?_)
    · have hl2 := ite_t hl2 hb6
      refine s_skip hE rfl (lkb rfl hb6) rfl (by decide) ?_; intro a hE
      refine s_skip hE rfl (lkb rfl hb6) rfl (by decide) ?_; intro a hE
      refine s_pickT hE goes_none (by decide) (lkb rfl hb6) rfl ?_; intro a hE
      refine s_move hE goes_none (by decide) rfl ?_; intro a hE
      refine s_skip hE rfl rfl rfl (by decide) ?_; intro a hE
      refine s_skip hE rfl rfl rfl (by decide) ?_; intro a hE
      refine s_skip hE rfl rfl rfl (by decide) ?_; intro a hE
      refine s_skip hE rfl rfl rfl (by decide) ?_; intro a hE
      refine s_pickT hE goes_none (by decide) rfl rfl ?_; intro a hE
      refine s_assign hE goes_none (by decide) rfl ?_; intro a hE
      refine c_fin0 ?_
      have ht7 := Option.some.inj hl2
      subst ht7
      refine c_mid ?_
      exact ⟨hE.sub ⟨rfl, rfl, rfl, trivial⟩, hM⟩
    · have hl2 := ite_f hl2 hb6
      refine s_move hE (goes_yes hE rfl (lkb rfl hb6)) (by decide) rfl ?_; intro a hE
      obtain ⟨r8, e9, hl2⟩ := bind_some hl2
      refine s_call (vs := [v1_1, (Value.func (.func 139) #[] [].toArray)]) hE (goes_yes hE rfl (lkb rfl hb6)) (by decide) rfl cb58 (c_slices_ContainsFunc_impl_Share_impl_Share _ p1 v1_1 (hM.rdo hv1_1) (fun z0 => F_impl_checkShares_1 z0) 139 [] cb139 (fun w2 hk2 z0 zu0_0 zh0_0 zr zhr => c_impl_checkShares_1 w2 z0 zu0_0 zh0_0 zr zhr) r8 e9) ?_
      rintro v w a ⟨rfl, hK⟩ hE
      have hM := hM.keep hK
      refine s_pickF hE goes_none (by decide) (lkb rfl hb6) rfl ?_; intro a hE
      refine s_move hE goes_none (by decide) rfl ?_; intro a hE
      refine splitB r8 (fun hb10 => ?_) (fun hb10 => ?_)
      · have hl2 := ite_t hl2 hb10
        refine s_skip hE rfl (lkb rfl hb10) rfl (by decide) ?_; intro a hE
        refine s_skip hE rfl (lkb rfl hb10) rfl (by decide) ?_; intro a hE
        refine s_skip hE rfl (lkb rfl hb10) rfl (by decide) ?_; intro a hE
        refine s_skip hE rfl (lkb rfl hb10) rfl (by decide) ?_; intro a hE
        refine s_pickT hE goes_none (by decide) (lkb rfl hb10) rfl ?_; intro a hE
        refine s_assign hE goes_none (by decide) rfl ?_; intro a hE
        refine c_fin0 ?_
        have ht11 := Option.some.inj hl2
        subst ht11
        refine c_mid ?_
        exact ⟨hE.sub ⟨rfl, rfl, rfl, trivial⟩, hM⟩
      · have hl2 := ite_f hl2 hb10
        refine s_move hE (goes_yes hE rfl (lkb rfl hb10)) (by decide) rfl ?_; intro a hE
        obtain ⟨r12, e13, hl2⟩ := bind_some hl2
        refine s_call (vs := [v1_1]) hE (goes_yes hE rfl (lkb rfl hb10)) (by decide) rfl cb62 (c_impl_placesOf _ p1 v1_1 (hM.rdo hv1_1) r12 e13) ?_
        rintro u14 w a ⟨_, rfl, hFr, hK⟩ hE
        have hM := hM.add hK hFr
        obtain ⟨r15, e16, hl2⟩ := bind_some hl2
        refine s_call (vs := [u14]) hE (goes_yes hE rfl (lkb rfl hb10)) (by decide) rfl cb61 (c_impl_areDifferent _ r12 u14 (hM.sl (pre := []) noB) r15 e16) ?_
        rintro v w a ⟨rfl, hK⟩ hE
        have hM := hM.keep hK
        refine s_not hE (goes_yes hE rfl (lkb rfl hb10)) (by decide) rfl ?_; intro a hE
        refine s_pickF hE goes_none (by decide) (lkb rfl hb10) rfl ?_; intro a hE
        refine s_assign hE goes_none (by decide) rfl ?_; intro a hE
        refine c_fin0 ?_
        have ht17 := Option.some.inj hl2
        subst ht17
        refine c_mid ?_
        have hM := M.fst (l := []) hM
        exact ⟨hE.sub ⟨rfl, rfl, rfl, trivial⟩, hM⟩
  · skip
    rintro a w ⟨hE, hM⟩
    refine c_cond hE rfl ?_ ?_
    · intro hb18
      have hF3 := ite_t hF3 hb18
      refine c_region ?_
      refine s_assign hE goes_none (by decide) rfl ?_; intro a hE
      refine c_fin ?_
      have hr := Option.some.inj hF3
      subst hr
      exact wp_ret (r_inb (r_then (k_ret1 hE rfl (res_tmp hE rfl) ⟨_, rfl, rfl, hM.kept⟩)))
    · intro hb18
      have hF3 := ite_f hF3 hb18
      obtain ⟨j19, hl20, hF21⟩ := bind_some hF3
      refine c_join (fun a w => Env 36 a [(21, (vT j19))] ∧ M (Old w0) w0 w []) ?_ ?_
      · skip
        refine wp_region_lit ?_
        refine s_move hE goes_none (by decide) rfl ?_; intro a hE
        obtain ⟨r22, e23, hl20⟩ := bind_some hl20
        refine s_call (vs := [v1_1]) hE goes_none (by decide) rfl cb57 (c_impl_length_impl_Share _ p1 v1_1 (hM.rdo hv1_1) r22 e23) ?_
        rintro v w a ⟨rfl, hK⟩ hE
        have hM := hM.keep hK
        obtain ⟨r24, e25, hl20⟩ := bind_some hl20
        refine s_call (vs := [(vI r22), (vI 1), (vI 12)]) hE goes_none (by decide) rfl cb56 (c_impl_inRange _ r22 1 12 r24 e25) ?_
        rintro v w a ⟨rfl, hK⟩ hE
        have hM := hM.keep hK
        refine s_not hE goes_none (by decide) rfl ?_; intro a hE
        refine s_move hE goes_none (by decide) rfl ?_; intro a hE
        refine splitB (!r24) (fun hb26 => ?_) (fun hb26 => ?_)
        · have hl20 := ite_t hl20 hb26
          refine s_skip hE rfl (lkb rfl hb26) rfl (by decide) ?_; intro a hE
          refine s_skip hE rfl (lkb rfl hb26) rfl (by decide) ?_; intro a hE
          refine s_skip hE rfl (lkb rfl hb26) rfl (by decide) ?_; intro a hE
          refine s_pickT hE goes_none (by decide) (lkb rfl hb26) rfl ?_; intro a hE
          refine s_move hE goes_none (by decide) rfl ?_; intro a hE
          refine s_skip hE rfl rfl rfl (by decide) ?_; intro a hE
          refine s_skip hE rfl rfl rfl (by decide) ?_; intro a hE
          refine s_skip hE rfl rfl rfl (by decide) ?_; intro a hE
          refine s_pickT hE goes_none (by decide) rfl rfl ?_; intro a hE
          refine s_assign hE goes_none (by decide) rfl ?_; intro a hE
          refine c_fin0 ?_
          have ht27 := Option.some.inj hl20
          subst ht27
          refine c_mid ?_
          exact ⟨hE.sub ⟨rfl, trivial⟩, hM⟩
        · have hl20 := ite_f hl20 hb26
          refine s_move hE (goes_yes hE rfl (lkb rfl hb26)) (by decide) rfl ?_; intro a hE
          obtain ⟨r28, e29, hl20⟩ := bind_some hl20
          refine s_call (vs := [v1_1]) hE (goes_yes hE rfl (lkb rfl hb26)) (by decide) rfl cb63 (c_impl_areEven _ p1 v1_1 (hM.rdo hv1_1) r28 e29) ?_
          rintro v w a ⟨rfl, hK⟩ hE
          have hM := hM.keep hK
          refine s_not hE (goes_yes hE rfl (lkb rfl hb26)) (by decide) rfl ?_; intro a hE
          refine s_pickF hE goes_none (by decide) (lkb rfl hb26) rfl ?_; intro a hE
          refine s_move hE goes_none (by decide) rfl ?_; intro a hE
          refine splitB (!r28) (fun hb30 => ?_) (fun hb30 => ?_)
          · have hl20 := ite_t hl20 hb30
            refine s_skip hE rfl (lkb rfl hb30) rfl (by decide) ?_; intro a hE
            refine s_skip hE rfl (lkb rfl hb30) rfl (by decide) ?_; intro a hE
            refine s_skip hE rfl (lkb rfl hb30) rfl (by decide) ?_; intro a hE
            refine s_pickT hE goes_none (by decide) (lkb rfl hb30) rfl ?_; intro a hE
            refine s_assign hE goes_none (by decide) rfl ?_; intro a hE
            refine c_fin0 ?_
            have ht31 := Option.some.inj hl20
            subst ht31
            refine c_mid ?_
            exact ⟨hE.sub ⟨rfl, trivial⟩, hM⟩
          · have hl20 := ite_f hl20 hb30
            refine s_move hE (goes_yes hE rfl (lkb rfl hb30)) (by decide) rfl ?_; intro a hE
            obtain ⟨r32, e33, hl20⟩ := bind_some hl20
            refine s_call (vs := [(vI p2), (vI 1), (vI 8)]) hE (goes_yes hE rfl (lkb rfl hb30)) (by decide) rfl cb56 (c_impl_inRange _ p2 1 8 r32 e33) ?_
            rintro v w a ⟨rfl, hK⟩ hE
            have hM := hM.keep hK
            refine s_not hE (goes_yes hE rfl (lkb rfl hb30)) (by decide) rfl ?_; intro a hE
            refine s_pickF hE goes_none (by decide) (lkb rfl hb30) rfl ?_; intro a hE
            refine s_assign hE goes_none (by decide) rfl ?_; intro a hE
            refine c_fin0 ?_
            have ht34 := Option.some.inj hl20
            subst ht34
            refine c_mid ?_
            exact ⟨hE.sub ⟨rfl, trivial⟩, hM⟩
      · skip
        rintro a w ⟨hE, hM⟩
        refine c_cond hE rfl ?_ ?_
        · intro hb35
          have hF21 := ite_t hF21 hb35
          refine c_region ?_
          refine s_assign hE goes_none (by decide) rfl ?_; intro a hE
          refine c_fin ?_
          have hr := Option.some.inj hF21
          subst hr
          exact wp_ret (r_inb (r_then (k_ret1 hE rfl (res_tmp hE rfl) ⟨_, rfl, rfl, hM.kept⟩)))
        · intro hb35
          have hF21 := ite_f hF21 hb35
          refine wp_skip ?_
          refine c_nb ?_
          refine c_nx ?_
          refine c_region ?_
          refine s_assign hE goes_none (by decide) rfl ?_; intro a hE
          refine c_fin ?_
          have hr := Option.some.inj hF21
          subst hr
          exact wp_ret (k_ret1 hE rfl (res_tmp hE rfl) ⟨_, rfl, rfl, hM.kept⟩)
noncomputable def L0_impl_field_times (p1 : UInt8) (p2 : UInt8) (s4 : Int × Int) : Option (Fl (Int × Int) Int) :=
  if (decide (s4.2 < 8)) = true then (((nonneg s4.2).bind fun _ => (if (((shrB p2 s4.2) &&& 1) == 1) = true then ((nonneg s4.2).bind fun _ => some (xorI s4.1 (shlI (bI p1) s4.2))) else (some s4.1) : Option (Int)).bind fun (j13 : Int) => some j13 : Option (Int)).bind fun (j9 : Int) => some (Fl.nx (j9, wr (s4.2 + 1)))) else (some (Fl.ex s4.1))
noncomputable def F_impl_field_times (p0 : Int) (p1 : UInt8) (p2 : UInt8) : Option (UInt8) :=
  (iter (L0_impl_field_times p1 p2) (0, 0) : Option (Int)).bind fun (j1 : Int) => (F_impl_rest j1 p0 8).bind fun (r22 : Int) => some (byteI r22)
set_option maxRecDepth 20000 in
set_option maxHeartbeats 400000 in
theorem c_impl_field_times (w0 : World) (p0 : Int) (p1 : UInt8) (p2 : UInt8) (r : UInt8) (hF : F_impl_field_times p0 p1 p2 = some r) :
    Calls Try.prog 71 [(vI p0), (vB p1), (vB p2)].toArray w0 (fun en w' => ∃ v, en = .returned v ∧ (v = (vB r) ∧ Kept (Old w0) w0 w')) := by
  refine c_enter (n := 28) Try.func71 rfl rfl (Nat.le_of_ble_eq_true rfl) rfl ?_
  intro a hE
  have hM := M.start w0
  unfold F_impl_field_times at hF
  refine c_region ?_
  refine s_assign hE goes_none (by decide) rfl ?_; intro a hE
  refine c_fin ?_
  refine c_region ?_
  refine s_assign hE goes_none (by decide) rfl ?_; intro a hE
  refine c_fin ?_
  refine wp_seq ?_
  refine c_region ?_
  refine s_move hE goes_none (by decide) rfl ?_; intro a hE
  refine c_fin ?_
  obtain ⟨j1, hl2, hF3⟩ := bind_some hF
  refine c_cut (fun a w => Env 28 a [(0, (vI p0)), (7, (vI j1))] ∧ M (Old w0) w0 w []) ?_ ?_
  · skip
    refine wp_block ?_
    refine c_loop (fun (s4 : Int × Int) a w => Env 28 a [(0, (vI p0)), (1, (vB p1)), (2, (vB p2)), (7, (vI s4.1)), (9, (vI s4.2))] ∧ M (Old w0) w0 w []) hl2 ⟨hE.sub ⟨rfl, rfl, rfl, rfl, rfl, trivial⟩, hM⟩ ?_
    rintro s4 a w ⟨hE, hM⟩ o7 hs5 hx6
    unfold L0_impl_field_times at hs5
    refine c_region ?_
    refine s_int hE goes_none (by decide) rfl rfl rfl ?_; intro a hE
    refine c_fin ?_
    refine wp_seq ?_
    refine c_cond hE rfl ?_ ?_
    · intro hb8
      have hs5 := ite_t hs5 hb8
      refine wp_skip ?_
      refine c_nx ?_
      obtain ⟨j9, hl10, hF11⟩ := bind_some hs5
      refine c_join (fun a w => Env 28 a [(0, (vI p0)), (1, (vB p1)), (2, (vB p2)), (7, (vI j9)), (9, (vI s4.2))] ∧ M (Old w0) w0 w []) ?_ ?_
      · skip
        refine wp_block ?_
        refine c_region ?_
        refine s_move hE goes_none (by decide) rfl ?_; intro a hE
        refine s_assign hE goes_none (by decide) rfl ?_; intro a hE
        refine c_fin ?_
        refine c_region ?_
        refine s_move hE goes_none (by decide) rfl ?_; intro a hE
        refine s_move hE goes_none (by decide) rfl ?_; intro a hE
        obtain ⟨_, e12, hl10⟩ := bind_some hl10
        have e12 := nonneg_some e12
        refine s_sh hE goes_none (by decide) rfl rfl (bB_shr _ _ e12) ?_; intro a hE
        refine s_int hE goes_none (by decide) rfl rfl (bB_and (shrB p2 s4.2) 1) ?_; intro a hE
        refine s_int hE goes_none (by decide) rfl rfl (bB_eql ((shrB p2 s4.2) &&& 1) 1) ?_; intro a hE
        refine c_fin ?_
        obtain ⟨j13, hl14, hF15⟩ := bind_some hl10
        refine c_cut (fun a w => Env 28 a [(0, (vI p0)), (1, (vB p1)), (2, (vB p2)), (7, (vI j13)), (9, (vI s4.2))] ∧ M (Old w0) w0 w []) ?_ ?_
        · skip
          refine c_cond hE rfl ?_ ?_
          · intro hb16
            have hl14 := ite_t hl14 hb16
            refine wp_region_lit ?_
            refine s_move hE goes_none (by decide) rfl ?_; intro a hE
            refine s_move hE goes_none (by decide) rfl ?_; intro a hE
            refine s_conv hE goes_none (by decide) rfl Try.underlying5 Try.underlying2 ?_; intro a hE
            rw [byte_wide] at hE
            refine s_move hE goes_none (by decide) rfl ?_; intro a hE
            obtain ⟨_, e17, hl14⟩ := bind_some hl14
            have e17 := nonneg_some e17
            refine s_sh hE goes_none (by decide) rfl rfl (bI_shl _ _ e17) ?_; intro a hE
            refine s_int hE goes_none (by decide) rfl rfl rfl ?_; intro a hE
            refine s_assign hE goes_none (by decide) rfl ?_; intro a hE
            refine c_fin0 ?_
            have ht18 := Option.some.inj hl14
            subst ht18
            refine c_mid ?_
            exact ⟨hE.sub ⟨rfl, rfl, rfl, rfl, rfl, trivial⟩, hM⟩
          · intro hb16
            have hl14 := ite_f hl14 hb16
            refine wp_skip ?_
            have ht19 := Option.some.inj hl14
            subst ht19
            refine c_mid ?_
            exact ⟨hE.sub ⟨rfl, rfl, rfl, rfl, rfl, trivial⟩, hM⟩
        · skip
          rintro a w ⟨hE, hM⟩
          refine c_nb ?_
          have ht20 := Option.some.inj hF15
          subst ht20
          refine c_mid ?_
          exact ⟨hE.sub ⟨rfl, rfl, rfl, rfl, rfl, trivial⟩, hM⟩
      · skip
        rintro a w ⟨hE, hM⟩
        refine wp_region_lit ?_
        refine s_int hE goes_none (by decide) rfl rfl rfl ?_; intro a hE
        refine s_move hE goes_none (by decide) rfl ?_; intro a hE
        refine c_fin0 ?_
        refine c_mid ?_
        exact ⟨_, (Option.some.inj hF11).symm, hE.sub ⟨rfl, rfl, rfl, rfl, rfl, trivial⟩, hM⟩
    · intro hb8
      have hs5 := ite_f hs5 hb8
      refine wp_exit (e_then (e_then (e_eq ?_)))
      have ht21 := hx6 _ (Option.some.inj hs5).symm
      subst ht21
      refine c_mid ?_
      exact ⟨hE.sub ⟨rfl, rfl, trivial⟩, hM⟩
  · skip
    rintro a w ⟨hE, hM⟩
    refine c_nx ?_
    refine c_region ?_
    refine s_move hE goes_none (by decide) rfl ?_; intro a hE
    refine s_move hE goes_none (by decide) rfl ?_; intro a hE
    obtain ⟨r22, e23, hF3⟩ := bind_some hF3
    refine s_call (vs := [(vI j1), (vI p0), (vI 8)]) hE goes_none (by decide) rfl cb123 (c_impl_rest _ j1 p0 8 r22 e23) ?_
    rintro v w a ⟨rfl, hK⟩ hE
    have hM := hM.keep hK
    refine s_conv hE goes_none (by decide) rfl Try.underlying2 Try.underlying5 ?_; intro a hE
    rw [byteI_val] at hE
    refine s_assign hE goes_none (by decide) rfl ?_; intro a hE
    refine c_fin ?_
    have hr := Option.some.inj hF3
    subst hr
    exact wp_ret (k_ret1 hE rfl (res_tmp hE rfl) ⟨_, rfl, rfl, hM.kept⟩)
noncomputable def L0_impl_field_power (p0 : Int) (s4 : UInt8 × Int × UInt8) : Option (Fl (UInt8 × Int × UInt8) UInt8) :=
  if (decide (s4.2.1 > 0)) = true then (((if ((Int.tmod s4.2.1 2) == 1) = true then ((F_impl_field_times p0 s4.2.2 s4.1).bind fun (r16 : UInt8) => some r16) else (some s4.2.2) : Option (UInt8)).bind fun (j12 : UInt8) => (F_impl_field_times p0 s4.1 s4.1).bind fun (r20 : UInt8) => some (r20, j12) : Option (UInt8 × UInt8)).bind fun (j9 : UInt8 × UInt8) => some (Fl.nx (j9.1, wr (Int.tdiv s4.2.1 2), j9.2))) else (some (Fl.ex s4.2.2))
noncomputable def F_impl_field_power (p0 : Int) (p1 : UInt8) (p2 : Int) : Option (UInt8) :=
  (iter (L0_impl_field_power p0) (p1, p2, 1) : Option (UInt8)).bind fun (j1 : UInt8) => some j1
set_option maxRecDepth 20000 in
set_option maxHeartbeats 400000 in
theorem c_impl_field_power (w0 : World) (p0 : Int) (p1 : UInt8) (p2 : Int) (r : UInt8) (hF : F_impl_field_power p0 p1 p2 = some r) :
    Calls Try.prog 124 [(vI p0), (vB p1), (vI p2)].toArray w0 (fun en w' => ∃ v, en = .returned v ∧ (v = (vB r) ∧ Kept (Old w0) w0 w')) := by
  refine c_enter (n := 24) Try.func124 rfl rfl (Nat.le_of_ble_eq_true rfl) rfl ?_
  intro a hE
  have hM := M.start w0
  unfold F_impl_field_power at hF
  refine c_region ?_
  refine s_assign hE goes_none (by decide) rfl ?_; intro a hE
  refine c_fin ?_
  refine c_region ?_
  refine s_assign hE goes_none (by decide) rfl ?_; intro a hE
  refine c_fin ?_
  obtain ⟨j1, hl2, hF3⟩ := bind_some hF
  refine c_join (fun a w => Env 24 a [(7, (vB j1))] ∧ M (Old w0) w0 w []) ?_ ?_
  · skip
    refine wp_block ?_
    refine c_loop (fun (s4 : UInt8 × Int × UInt8) a w => Env 24 a [(0, (vI p0)), (1, (vB s4.1)), (2, (vI s4.2.1)), (7, (vB s4.2.2))] ∧ M (Old w0) w0 w []) hl2 ⟨hE.sub ⟨rfl, rfl, rfl, rfl, trivial⟩, hM⟩ ?_
    rintro s4 a w ⟨hE, hM⟩ o7 hs5 hx6
    unfold L0_impl_field_power at hs5
    refine wp_seq ?_
    refine c_region ?_
    refine s_move hE goes_none (by decide) rfl ?_; intro a hE
    refine s_int hE goes_none (by decide) rfl rfl rfl ?_; intro a hE
    refine c_fin ?_
    refine c_cond hE rfl ?_ ?_
    · intro hb8
      have hs5 := ite_t hs5 hb8
      refine wp_skip ?_
      refine c_nx ?_
      obtain ⟨j9, hl10, hF11⟩ := bind_some hs5
      refine c_join (fun a w => Env 24 a [(0, (vI p0)), (1, (vB j9.1)), (2, (vI s4.2.1)), (7, (vB j9.2))] ∧ M (Old w0) w0 w []) ?_ ?_
      · skip
        refine wp_block ?_
        obtain ⟨j12, hl13, hF14⟩ := bind_some hl10
        refine c_join (fun a w => Env 24 a [(0, (vI p0)), (1, (vB s4.1)), (2, (vI s4.2.1)), (7, (vB j12))] ∧ M (Old w0) w0 w []) ?_ ?_
        · skip
          refine c_region ?_
          refine s_move hE goes_none (by decide) rfl ?_; intro a hE
          refine s_int hE goes_none (by decide) rfl rfl (bI_rem _ _ (by decide)) ?_; intro a hE
          refine s_int hE goes_none (by decide) rfl rfl rfl ?_; intro a hE
          refine c_fin ?_
          refine c_cond hE rfl ?_ ?_
          · intro hb15
            have hl13 := ite_t hl13 hb15
            refine wp_region_lit ?_
            refine s_move hE goes_none (by decide) rfl ?_; intro a hE
            refine s_move hE goes_none (by decide) rfl ?_; intro a hE
            refine s_move hE goes_none (by decide) rfl ?_; intro a hE
            obtain ⟨r16, e17, hl13⟩ := bind_some hl13
            refine s_call (vs := [(vI p0), (vB s4.2.2), (vB s4.1)]) hE goes_none (by decide) rfl cb71 (c_impl_field_times _ p0 s4.2.2 s4.1 r16 e17) ?_
            rintro v w a ⟨rfl, hK⟩ hE
            have hM := hM.keep hK
            refine s_assign hE goes_none (by decide) rfl ?_; intro a hE
            refine c_fin0 ?_
            have ht18 := Option.some.inj hl13
            subst ht18
            refine c_mid ?_
            exact ⟨hE.sub ⟨rfl, rfl, rfl, rfl, trivial⟩, hM⟩
          · intro hb15
            have hl13 := ite_f hl13 hb15
            refine wp_skip ?_
            have ht19 := Option.some.inj hl13
            subst ht19
            refine c_mid ?_
            exact ⟨hE.sub ⟨rfl, rfl, rfl, rfl, trivial⟩, hM⟩
        · skip
          rintro a w ⟨hE, hM⟩
          refine wp_region_lit ?_
          refine s_move hE goes_none (by decide) rfl ?_; intro a hE
          refine s_move hE goes_none (by decide) rfl ?_; intro a hE
          refine s_move hE goes_none (by decide) rfl ?_; intro a hE
          obtain ⟨r20, e21, hF14⟩ := bind_some hF14
          refine s_call (vs := [(vI p0), (vB s4.1), (vB s4.1)]) hE goes_none (by decide) rfl cb71 (c_impl_field_times _ p0 s4.1 s4.1 r20 e21) ?_
          rintro v w a ⟨rfl, hK⟩ hE
          have hM := hM.keep hK
          refine s_assign hE goes_none (by decide) rfl ?_; intro a hE
          refine c_fin0 ?_
          refine c_nb ?_
          have ht22 := Option.some.inj hF14
          subst ht22
          refine c_mid ?_
          exact ⟨hE.sub ⟨rfl, rfl, rfl, rfl, trivial⟩, hM⟩
      · skip
        rintro a w ⟨hE, hM⟩
        refine wp_region_lit ?_
        refine s_move hE goes_none (by decide) rfl ?_; intro a hE
        refine s_int hE goes_none (by decide) rfl rfl (bI_quo _ _ (by decide)) ?_; intro a hE
        refine s_assign hE goes_none (by decide) rfl ?_; intro a hE
        refine c_fin0 ?_
        refine c_mid ?_
        exact ⟨_, (Option.some.inj hF11).symm, hE.sub ⟨rfl, rfl, rfl, rfl, trivial⟩, hM⟩
    · intro hb8
      have hs5 := ite_f hs5 hb8
      refine wp_exit (e_then (e_then (e_eq ?_)))
      have ht23 := hx6 _ (Option.some.inj hs5).symm
      subst ht23
      refine c_mid ?_
      exact ⟨hE.sub ⟨rfl, trivial⟩, hM⟩
  · skip
    rintro a w ⟨hE, hM⟩
    refine c_region ?_
    refine s_move hE goes_none (by decide) rfl ?_; intro a hE
    refine s_assign hE goes_none (by decide) rfl ?_; intro a hE
    refine c_fin ?_
    have hr := Option.some.inj hF3
    subst hr
    exact wp_ret (k_ret1 hE rfl (res_tmp hE rfl) ⟨_, rfl, rfl, hM.kept⟩)
noncomputable def F_impl_field_inverse (p0 : Int) (p1 : UInt8) : Option (UInt8) :=
  (F_impl_field_power p0 p1 254).bind fun (r1 : UInt8) => some r1
set_option maxRecDepth 20000 in
set_option maxHeartbeats 400000 in
theorem c_impl_field_inverse (w0 : World) (p0 : Int) (p1 : UInt8) (r : UInt8) (hF : F_impl_field_inverse p0 p1 = some r) :
    Calls Try.prog 72 [(vI p0), (vB p1)].toArray w0 (fun en w' => ∃ v, en = .returned v ∧ (v = (vB r) ∧ Kept (Old w0) w0 w')) := by
  refine c_enter (n := 8) Try.func72 rfl rfl (Nat.le_of_ble_eq_true rfl) rfl ?_
  intro a hE
  have hM := M.start w0
  unfold F_impl_field_inverse at hF
  refine c_region ?_
  refine s_assign hE goes_none (by decide) rfl ?_; intro a hE
  refine c_fin ?_
  refine c_region ?_
  refine s_move hE goes_none (by decide) rfl ?_; intro a hE
  refine s_move hE goes_none (by decide) rfl ?_; intro a hE
  obtain ⟨r1, e2, hF⟩ := bind_some hF
  refine s_call (vs := [(vI p0), (vB p1), (vI 254)]) hE goes_none (by decide) rfl cb124 (c_impl_field_power _ p0 p1 254 r1 e2) ?_
  rintro v w a ⟨rfl, hK⟩ hE
  have hM := hM.keep hK
  refine s_assign hE goes_none (by decide) rfl ?_; intro a hE
  refine c_fin ?_
  have hr := Option.some.inj hF
  subst hr
  exact wp_ret (k_ret1 hE rfl (res_tmp hE rfl) ⟨_, rfl, rfl, hM.kept⟩)
noncomputable def L1_impl_field_valuesAt (p0 : Int) (p1 : (List GShare)) (p2 : UInt8) (x25 : GShare) (s38 : UInt8 × Int) : Option (Fl (UInt8 × Int) UInt8) :=
  if (decide (s38.2 < (p1.length : Int))) = true then (((idx p1 s38.2).bind fun (x46 : GShare) => (if (x46.Place != x25.Place) = true then ((F_impl_field_inverse p0 (x25.Place ^^^ x46.Place)).bind fun (r61 : UInt8) => (F_impl_field_times p0 (p2 ^^^ x46.Place) r61).bind fun (r63 : UInt8) => (F_impl_field_times p0 s38.1 r63).bind fun (r65 : UInt8) => some r65) else (some s38.1) : Option (UInt8)).bind fun (j56 : UInt8) => some j56 : Option (UInt8)).bind fun (j43 : UInt8) => some (Fl.nx (j43, wr (s38.2 + 1)))) else (some (Fl.ex s38.1))
noncomputable def L2_impl_field_valuesAt (p0 : Int) (x25 : GShare) (j35 : UInt8) (s76 : Int × (List UInt8)) : Option (Fl (Int × (List UInt8)) (List UInt8)) :=
  if (decide (s76.1 < (x25.Data.length : Int))) = true then ((idx x25.Data s76.1).bind fun (x83 : UInt8) => (idx s76.2 s76.1).bind fun (x87 : UInt8) => (F_impl_field_times p0 x83 j35).bind fun (r90 : UInt8) => (idx s76.2 s76.1).bind fun (x92 : UInt8) => some (Fl.nx (wr (s76.1 + 1), (s76.2.set (s76.1).toNat (x87 ^^^ r90))))) else (some (Fl.ex s76.2))
noncomputable def L0_impl_field_valuesAt (p0 : Int) (p1 : (List GShare)) (p2 : UInt8) (s18 : Int × (List UInt8)) : Option (Fl (Int × (List UInt8)) (List UInt8)) :=
  if (decide (s18.1 < (p1.length : Int))) = true then ((idx p1 s18.1).bind fun (x25 : GShare) => (iter (L1_impl_field_valuesAt p0 p1 p2 x25) (1, 0) : Option (UInt8)).bind fun (j35 : UInt8) => (iter (L2_impl_field_valuesAt p0 x25 j35) (0, s18.2) : Option ((List UInt8))).bind fun (j71 : (List UInt8)) => some (Fl.nx (wr (s18.1 + 1), j71))) else (some (Fl.ex s18.2))
noncomputable def F_impl_field_valuesAt (p0 : Int) (p1 : (List GShare)) (p2 : UInt8) : Option ((List UInt8)) :=
  (idx p1 (0 : Int)).bind fun (x1 : GShare) => (mkS 1 (0 : UInt8) (x1.Data.length : Int)).bind fun (l9 : (List UInt8)) => (iter (L0_impl_field_valuesAt p0 p1 p2) (0, l9) : Option ((List UInt8))).bind fun (j13 : (List UInt8)) => some j13
set_option maxRecDepth 20000 in
set_option maxHeartbeats 400000 in
theorem c_impl_field_valuesAt (w0 : World) (p0 : Int) (p1 : (List GShare)) (v1_1 : Value) (hv1_1 : Ro w0 p1 [v1_1]) (p2 : UInt8) (r : (List UInt8)) (hF : F_impl_field_valuesAt p0 p1 p2 = some r) :
    Calls Try.prog 141 [(vI p0), v1_1, (vB p2)].toArray w0 (fun en w' => ∃ v, en = .returned v ∧ (∃ (y1 : Value), v = y1 ∧ Fr w0 w' [osl NoB (r : List UInt8) y1] ∧ Kept (Old w0) w0 w')) := by
  refine c_enter (n := 76) Try.func141 rfl rfl (Nat.le_of_ble_eq_true rfl) rfl ?_
  intro a hE
  have hM := M.start w0
  unfold F_impl_field_valuesAt at hF
  refine c_region ?_
  refine s_assign hE goes_none (by decide) rfl ?_; intro a hE
  refine c_fin ?_
  refine c_region ?_
  refine s_move hE goes_none (by decide) rfl ?_; intro a hE
  obtain ⟨x1, e2, hF⟩ := bind_some hF
  have hi3 := idx_some e2
  refine s_indexS hE goes_none (by decide) rfl rfl Try.underlying25 ty81 (hM.rd hv1_1) hi3.1 ?_; intro a hE
  refine s_fieldAddr hE goes_none (by decide) rfl (fd81_1) ?_; intro a hE
  obtain ⟨cs4, hs5, hA6⟩ := sl_atRo hv1_1 hi3.2 -- ^
  obtain ⟨u7, rfl, h8⟩ := un_GShare hs5 -- ^
  refine s_load (v := u7) hE goes_none (by decide) rfl ty29 rfl (At.cat (pre := [[(vB x1.Place)]]) (seg := [u7]) (post := []) (hM.atk hA6 (sl_blk hv1_1 hi3.2)) (cl1 (n := 1) (m := 0) rfl cl0)) ?_; intro a hE
  refine s_len hE goes_none (by decide) rfl Try.underlying29 (hM.rd h8) ?_; intro a hE
  obtain ⟨l9, e10, hF⟩ := bind_some hF
  refine s_make hE hM goes_none (by decide) rfl rfl Try.underlying29 ty5 rfl (by decide) (fun _ => sat_flat.2 ⟨rfl, rfl⟩) e10 ?_; intro u11 w a hM hE
  refine s_assign hE goes_none (by decide) rfl ?_; intro a hE
  refine c_fin ?_
  refine wp_seq ?_
  refine c_region ?_
  refine s_move hE goes_none (by decide) rfl ?_; intro a hE
  refine s_len hE goes_none (by decide) rfl Try.underlying25 (hM.rd hv1_1) ?_; intro a hE
  refine s_move hE goes_none (by decide) rfl ?_; intro a hE
  refine c_fin ?_
  obtain ⟨j13, hl14, hF15⟩ := bind_some hF
  refine c_cut (fun a w => ∃ (u16 : Value), Env 76 a [(7, u16)] ∧ M (Old w0) w0 w [osl NoB (j13 : List UInt8) u16]) ?_ ?_
  · skip
    refine wp_block ?_
    refine c_loop (fun (s18 : Int × (List UInt8)) a w => ∃ (u19 : Value), Env 76 a [(0, (vI p0)), (1, v1_1), (2, (vB p2)), (7, u19), (21, v1_1), (22, (vI (p1.length : Int))), (23, (vI s18.1))] ∧ M (Old w0) w0 w [osl NoB (s18.2 : List UInt8) u19]) hl14 ⟨u11, hE.sub ⟨rfl, rfl, rfl, rfl, rfl, rfl, rfl, trivial⟩, hM⟩ ?_
    rintro s18 a w ⟨u19, hE, hM⟩ o23 hs21 hx22
    unfold L0_impl_field_valuesAt at hs21
    refine c_region ?_
    refine s_int hE goes_none (by decide) rfl rfl rfl ?_; intro a hE
    refine c_fin ?_
    refine wp_seq ?_
    refine c_cond hE rfl ?_ ?_
    · intro hb24
      have hs21 := ite_t hs21 hb24
      refine wp_skip ?_
      refine c_nx ?_
      refine wp_seq ?_
      refine wp_block ?_
      refine c_region ?_
      obtain ⟨x25, e26, hs21⟩ := bind_some hs21
      have hi27 := idx_some e26
      refine s_indexS hE goes_none (by decide) rfl rfl Try.underlying25 ty81 (hM.rd hv1_1) hi27.1 ?_; intro a hE
      obtain ⟨cs28, hs29, hA30⟩ := sl_atRo hv1_1 hi27.2 -- ^
      obtain ⟨u31, rfl, h32⟩ := un_GShare hs29 -- ^
      refine s_loadA (cs := cat [[(vB x25.Place)], [u31]]) hE goes_none (by decide) rfl ty81 rfl (hM.atk hA30 (sl_blk hv1_1 hi27.2)) (cat_len (cl1 (n := 1) (m := 1) rfl (cl1 (n := 1) (m := 0) rfl cl0))) ?_; intro a hE
      refine s_alloc hE hM goes_none (by decide) ty81 ?_; intro b33 w a hM hE
      refine s_store (seg := cat [[(vB x25.Place)], [u31]]) (cs' := cat [[(vB x25.Place)], [u31]]) hE hM goes_none rfl rfl rfl ty81 (cat_len (cl1 (n := 1) (m := 1) rfl (cl1 (n := 1) (m := 0) rfl cl0))) (Nat.le_of_eq ((Nat.zero_add _).trans (Eq.trans (cat_len (cl1 (n := 1) (m := 1) rfl (cl1 (n := 1) (m := 0) rfl cl0))) (Eq.symm (cat_len (cl1 (n := 1) (m := 1) rfl (cl1 (n := 1) (m := 0) rfl cl0))))))) (cat_cell (cc1 (Flat.cell (x25.Place : UInt8)) (cc1 (Rep.cell (hM.rd h32)) cc0))) (splice_all (Eq.trans (cat_len (cl1 (n := 1) (m := 1) rfl (cl1 (n := 1) (m := 0) rfl cl0))) (Eq.symm (cat_len (cl1 (n := 1) (m := 1) rfl (cl1 (n := 1) (m := 0) rfl cl0)))))) ?_; intro w a hM hE
      refine c_fin ?_
      refine c_region ?_
      refine s_assign hE goes_none (by decide) rfl ?_; intro a hE
      refine c_fin ?_
      refine wp_seq ?_
      refine c_region ?_
      refine s_move hE goes_none (by decide) rfl ?_; intro a hE
      refine s_len hE goes_none (by decide) rfl Try.underlying25 (hM.rd hv1_1) ?_; intro a hE
      refine s_move hE goes_none (by decide) rfl ?_; intro a hE
      refine c_fin ?_
      obtain ⟨j35, hl36, hF37⟩ := bind_some hs21
      refine c_cut (fun a w => Env 76 a [(0, (vI p0)), (1, v1_1), (2, (vB p2)), (7, u19), (9, (ptr b33 0)), (10, (vB j35)), (21, v1_1), (22, (vI (p1.length : Int))), (23, (vI s18.1))] ∧ M (Old w0) w0 w [raw b33 (cat [[(vB x25.Place)], [u31]]), osl NoB (s18.2 : List UInt8) u19]) ?_ ?_
      · skip
        refine wp_block ?_
        refine c_loop (fun (s38 : UInt8 × Int) a w => Env 76 a [(0, (vI p0)), (1, v1_1), (2, (vB p2)), (7, u19), (9, (ptr b33 0)), (10, (vB s38.1)), (21, v1_1), (22, (vI (p1.length : Int))), (23, (vI s18.1)), (27, v1_1), (28, (vI (p1.length : Int))), (29, (vI s38.2))] ∧ M (Old w0) w0 w [raw b33 (cat [[(vB x25.Place)], [u31]]), osl NoB (s18.2 : List UInt8) u19]) hl36 ⟨hE.sub ⟨rfl, rfl, rfl, rfl, rfl, rfl, rfl, rfl, rfl, rfl, rfl, rfl, trivial⟩, hM⟩ ?_
        rintro s38 a w ⟨hE, hM⟩ o41 hs39 hx40
        unfold L1_impl_field_valuesAt at hs39
        refine c_region ?_
        refine s_int hE goes_none (by decide) rfl rfl rfl ?_; intro a hE
        refine c_fin ?_
        refine wp_seq ?_
        refine c_cond hE rfl ?_ ?_
        · intro hb42
          have hs39 := ite_t hs39 hb42
          refine wp_skip ?_
          refine c_nx ?_
          obtain ⟨j43, hl44, hF45⟩ := bind_some hs39
          refine c_join (fun a w => Env 76 a [(0, (vI p0)), (1, v1_1), (2, (vB p2)), (7, u19), (9, (ptr b33 0)), (10, (vB j43)), (21, v1_1), (22, (vI (p1.length : Int))), (23, (vI s18.1)), (27, v1_1), (28, (vI (p1.length : Int))), (29, (vI s38.2))] ∧ M (Old w0) w0 w [raw b33 (cat [[(vB x25.Place)], [u31]]), osl NoB (s18.2 : List UInt8) u19]) ?_ ?_
          · skip
            refine wp_block ?_
            refine c_region ?_
            obtain ⟨x46, e47, hl44⟩ := bind_some hl44
            have hi48 := idx_some e47
            refine s_indexS hE goes_none (by decide) rfl rfl Try.underlying25 ty81 (hM.rd hv1_1) hi48.1 ?_; intro a hE
            obtain ⟨cs49, hs50, hA51⟩ := sl_atRo hv1_1 hi48.2 -- ^
            obtain ⟨u52, rfl, h53⟩ := un_GShare hs50 -- ^
            refine s_loadA (cs := cat [[(vB x46.Place)], [u52]]) hE goes_none (by decide) rfl ty81 rfl (hM.atk hA51 (sl_blk hv1_1 hi48.2)) (cat_len (cl1 (n := 1) (m := 1) rfl (cl1 (n := 1) (m := 0) rfl cl0))) ?_; intro a hE
            refine s_alloc hE hM goes_none (by decide) ty81 ?_; intro b54 w a hM hE
            refine s_store (seg := cat [[(vB x46.Place)], [u52]]) (cs' := cat [[(vB x46.Place)], [u52]]) hE hM goes_none rfl rfl rfl ty81 (cat_len (cl1 (n := 1) (m := 1) rfl (cl1 (n := 1) (m := 0) rfl cl0))) (Nat.le_of_eq ((Nat.zero_add _).trans (Eq.trans (cat_len (cl1 (n := 1) (m := 1) rfl (cl1 (n := 1) (m := 0) rfl cl0))) (Eq.symm (cat_len (cl1 (n := 1) (m := 1) rfl (cl1 (n := 1) (m := 0) rfl cl0))))))) (cat_cell (cc1 (Flat.cell (x46.Place : UInt8)) (cc1 (Rep.cell (hM.rd h53)) cc0))) (splice_all (Eq.trans (cat_len (cl1 (n := 1) (m := 1) rfl (cl1 (n := 1) (m := 0) rfl cl0))) (Eq.symm (cat_len (cl1 (n := 1) (m := 1) rfl (cl1 (n := 1) (m := 0) rfl cl0)))))) ?_; intro w a hM hE
            refine c_fin ?_
            refine c_region ?_
            refine s_fieldAddr hE goes_none (by decide) rfl (fd81_0) ?_; intro a hE
            refine s_load (v := (vB x46.Place)) hE goes_none (by decide) rfl ty5 rfl (At.cat (pre := []) (seg := [(vB x46.Place)]) (post := [[u52]]) (hM.rawAt (pre := [])) cl0) ?_; intro a hE
            refine s_fieldAddr hE goes_none (by decide) rfl (fd81_0) ?_; intro a hE
            refine s_load (v := (vB x25.Place)) hE goes_none (by decide) rfl ty5 rfl (At.cat (pre := []) (seg := [(vB x25.Place)]) (post := [[u31]]) (hM.rawAt (pre := [_])) cl0) ?_; intro a hE
            refine s_int hE goes_none (by decide) rfl rfl (bB_neq x46.Place x25.Place) ?_; intro a hE
            refine c_fin ?_
            obtain ⟨j56, hl57, hF58⟩ := bind_some hl44
            refine c_cut (fun a w => Env 76 a [(0, (vI p0)), (1, v1_1), (2, (vB p2)), (7, u19), (9, (ptr b33 0)), (10, (vB j56)), (21, v1_1), (22, (vI (p1.length : Int))), (23, (vI s18.1)), (27, v1_1), (28, (vI (p1.length : Int))), (29, (vI s38.2))] ∧ M (Old w0) w0 w [raw b33 (cat [[(vB x25.Place)], [u31]]), osl NoB (s18.2 : List UInt8) u19]) ?_ ?_
            · skip
              refine c_cond hE rfl ?_ ?_
              · intro hb59
                have hl57 := ite_t hl57 hb59
                obtain ⟨r61, e62, hl57⟩ := bind_some hl57
                obtain ⟨r63, e64, hl57⟩ := bind_some hl57
                obtain ⟨r65, e66, hl57⟩ := bind_some hl57
                refine c_draw (n := 76) (hd := [_, _, _, _, _, _, _, _, _, _, _, _, _, _, _, _]) (tl := [_]) hmix rfl rfl [38, 39, 40, 41, 42, 43, 44, 45, 46, 47, 48, 49, 50, 51, 52, 53] (by decide) (fun w => M (Old w0) w0 w [raw b54 (cat [[(vB x46.Place)], [u52]]), raw b33 (cat [[(vB x25.Place)], [u31]]), osl NoB (s18.2 : List UInt8) u19]) (fun j => ([fun v _ => v = (vI p0), fun v _ => v = (vB s38.1), fun v _ => v = (vI p0), fun v _ => v = (vB p2), fun v _ => v = (ptr b54 (0 + 0)), fun v _ => v = (vB x46.Place), fun v _ => v = (vB (p2 ^^^ x46.Place)), fun v _ => v = (vI p0), fun v _ => v = (ptr b33 (0 + 0)), fun v _ => v = (vB x25.Place), fun v _ => v = (ptr b54 (0 + 0)), fun v _ => v = (vB x46.Place), fun v _ => v = (vB (x25.Place ^^^ x46.Place)), fun v _ => v = (vB r61), fun v _ => v = (vB r63), fun v _ => v = (vB r65)] : List (Value → World → Prop)).getD j (fun _ _ => True)) (fun _ _ h hk => h.keep hk) (gup (gupE (gupE (gupE (gupE (gupE (gupE (gupE (gupE (gupE (gupE (gupE (gupE (gupE (gupE (gupE (gupE gupN))))))))))))))))) hE hM.drew (steps_of (steps_cons ?_ (steps_cons ?_ (steps_cons ?_ (steps_cons ?_ (steps_cons ?_ (steps_cons ?_ (steps_cons ?_ (steps_cons ?_ (steps_cons ?_ (steps_cons ?_ (steps_cons ?_ (steps_cons ?_ (steps_cons ?_ (steps_cons ?_ (steps_cons ?_ (steps_cons ?_ steps_nil))))))))))))))))) ?_
                · intro a w ux60 hE hM hp
                  refine s_move hE goes_none (by decide) rfl ?_; intro a hE
                  exact ⟨Kept.refl _ _, _, _, rfl, hE, rfl⟩
                · intro a w ux60 hE hM hp
                  refine s_move hE goes_none (by decide) rfl ?_; intro a hE
                  exact ⟨Kept.refl _ _, _, _, rfl, hE, rfl⟩
                · intro a w ux60 hE hM hp
                  refine s_move hE goes_none (by decide) rfl ?_; intro a hE
                  exact ⟨Kept.refl _ _, _, _, rfl, hE, rfl⟩
                · intro a w ux60 hE hM hp
                  refine s_move hE goes_none (by decide) rfl ?_; intro a hE
                  exact ⟨Kept.refl _ _, _, _, rfl, hE, rfl⟩
                · intro a w ux60 hE hM hp
                  refine s_fieldAddr hE goes_none (by decide) rfl (fd81_0) ?_; intro a hE
                  exact ⟨Kept.refl _ _, _, _, rfl, hE, rfl⟩
                · intro a w ux60 hE hM hp
                  have f4 : ux60 4 = (ptr b54 (0 + 0)) := hp 0 _ rfl rfl
                  refine s_load (v := (vB x46.Place)) hE goes_none (by decide) (lk rfl f4) ty5 rfl (At.cat (pre := []) (seg := [(vB x46.Place)]) (post := [[u52]]) (hM.rawAt (pre := [])) cl0) ?_; intro a hE
                  exact ⟨Kept.refl _ _, _, _, rfl, hE, rfl⟩
                · intro a w ux60 hE hM hp
                  have f3 : ux60 3 = (vB p2) := hp 0 _ rfl rfl
                  have f5 : ux60 5 = (vB x46.Place) := hp 1 _ rfl rfl
                  refine s_int hE goes_none (by decide) (lk rfl f3) (lk rfl f5) (bB_xor p2 x46.Place) ?_; intro a hE
                  exact ⟨Kept.refl _ _, _, _, rfl, hE, rfl⟩
                · intro a w ux60 hE hM hp
                  refine s_move hE goes_none (by decide) rfl ?_; intro a hE
                  exact ⟨Kept.refl _ _, _, _, rfl, hE, rfl⟩
                · intro a w ux60 hE hM hp
                  refine s_fieldAddr hE goes_none (by decide) rfl (fd81_0) ?_; intro a hE
                  exact ⟨Kept.refl _ _, _, _, rfl, hE, rfl⟩
                · intro a w ux60 hE hM hp
                  have f8 : ux60 8 = (ptr b33 (0 + 0)) := hp 0 _ rfl rfl
                  refine s_load (v := (vB x25.Place)) hE goes_none (by decide) (lk rfl f8) ty5 rfl (At.cat (pre := []) (seg := [(vB x25.Place)]) (post := [[u31]]) (hM.rawAt (pre := [_])) cl0) ?_; intro a hE
                  exact ⟨Kept.refl _ _, _, _, rfl, hE, rfl⟩
                · intro a w ux60 hE hM hp
                  refine s_fieldAddr hE goes_none (by decide) rfl (fd81_0) ?_; intro a hE
                  exact ⟨Kept.refl _ _, _, _, rfl, hE, rfl⟩
                · intro a w ux60 hE hM hp
                  have f10 : ux60 10 = (ptr b54 (0 + 0)) := hp 0 _ rfl rfl
                  refine s_load (v := (vB x46.Place)) hE goes_none (by decide) (lk rfl f10) ty5 rfl (At.cat (pre := []) (seg := [(vB x46.Place)]) (post := [[u52]]) (hM.rawAt (pre := [])) cl0) ?_; intro a hE
                  exact ⟨Kept.refl _ _, _, _, rfl, hE, rfl⟩
                · intro a w ux60 hE hM hp
                  have f9 : ux60 9 = (vB x25.Place) := hp 0 _ rfl rfl
                  have f11 : ux60 11 = (vB x46.Place) := hp 1 _ rfl rfl
                  refine s_int hE goes_none (by decide) (lk rfl f9) (lk rfl f11) (bB_xor x25.Place x46.Place) ?_; intro a hE
                  exact ⟨Kept.refl _ _, _, _, rfl, hE, rfl⟩
                · intro a w ux60 hE hM hp
                  have f7 : ux60 7 = (vI p0) := hp 0 _ rfl rfl
                  have f12 : ux60 12 = (vB (x25.Place ^^^ x46.Place)) := hp 1 _ rfl rfl
                  refine s_call (vs := [(vI p0), (vB (x25.Place ^^^ x46.Place))]) hE goes_none (by decide) (evs_of (evsC (lk rfl f7) (evsC (lk rfl f12) evsN))) cb72 (c_impl_field_inverse _ p0 (x25.Place ^^^ x46.Place) r61 e62) ?_
                  rintro v w a ⟨rfl, hK⟩ hE
                  exact ⟨hK, _, _, rfl, hE, rfl⟩
                · intro a w ux60 hE hM hp
                  have f2 : ux60 2 = (vI p0) := hp 0 _ rfl rfl
                  have f6 : ux60 6 = (vB (p2 ^^^ x46.Place)) := hp 1 _ rfl rfl
                  have f13 : ux60 13 = (vB r61) := hp 2 _ rfl rfl
                  refine s_call (vs := [(vI p0), (vB (p2 ^^^ x46.Place)), (vB r61)]) hE goes_none (by decide) (evs_of (evsC (lk rfl f2) (evsC (lk rfl f6) (evsC (lk rfl f13) evsN)))) cb71 (c_impl_field_times _ p0 (p2 ^^^ x46.Place) r61 r63 e64) ?_
                  rintro v w a ⟨rfl, hK⟩ hE
                  exact ⟨hK, _, _, rfl, hE, rfl⟩
                · intro a w ux60 hE hM hp
                  have f0 : ux60 0 = (vI p0) := hp 0 _ rfl rfl
                  have f1 : ux60 1 = (vB s38.1) := hp 1 _ rfl rfl
                  have f14 : ux60 14 = (vB r63) := hp 2 _ rfl rfl
                  refine s_call (vs := [(vI p0), (vB s38.1), (vB r63)]) hE goes_none (by decide) (evs_of (evsC (lk rfl f0) (evsC (lk rfl f1) (evsC (lk rfl f14) evsN)))) cb71 (c_impl_field_times _ p0 s38.1 r63 r65 e66) ?_
                  rintro v w a ⟨rfl, hK⟩ hE
                  exact ⟨hK, _, _, rfl, hE, rfl⟩
                · intro a w ux60 hE hM hg
                  have f0 : ux60 0 = (vI p0) := hg 0 (by decide)
                  have f1 : ux60 1 = (vB s38.1) := hg 1 (by decide)
                  have f2 : ux60 2 = (vI p0) := hg 2 (by decide)
                  have f3 : ux60 3 = (vB p2) := hg 3 (by decide)
                  have f4 : ux60 4 = (ptr b54 (0 + 0)) := hg 4 (by decide)
                  have f5 : ux60 5 = (vB x46.Place) := hg 5 (by decide)
                  have f6 : ux60 6 = (vB (p2 ^^^ x46.Place)) := hg 6 (by decide)
                  have f7 : ux60 7 = (vI p0) := hg 7 (by decide)
                  have f8 : ux60 8 = (ptr b33 (0 + 0)) := hg 8 (by decide)
                  have f9 : ux60 9 = (vB x25.Place) := hg 9 (by decide)
                  have f10 : ux60 10 = (ptr b54 (0 + 0)) := hg 10 (by decide)
                  have f11 : ux60 11 = (vB x46.Place) := hg 11 (by decide)
                  have f12 : ux60 12 = (vB (x25.Place ^^^ x46.Place)) := hg 12 (by decide)
                  have f13 : ux60 13 = (vB r61) := hg 13 (by decide)
                  have f14 : ux60 14 = (vB r63) := hg 14 (by decide)
                  have f15 : ux60 15 = (vB r65) := hg 15 (by decide)
                  have hE := hE.sub (e' := [(38, (vI p0)), (39, (vB s38.1)), (40, (vI p0)), (41, (vB p2)), (42, (ptr b54 (0 + 0))), (43, (vB x46.Place)), (44, (vB (p2 ^^^ x46.Place))), (45, (vI p0)), (46, (ptr b33 (0 + 0))), (47, (vB x25.Place)), (48, (ptr b54 (0 + 0))), (49, (vB x46.Place)), (50, (vB (x25.Place ^^^ x46.Place))), (51, (vB r61)), (52, (vB r63)), (53, (vB r65)), (0, (vI p0)), (1, v1_1), (2, (vB p2)), (7, u19), (9, (ptr b33 0)), (10, (vB s38.1)), (12, (ptr b54 0)), (21, v1_1), (22, (vI (p1.length : Int))), (23, (vI s18.1)), (27, v1_1), (28, (vI (p1.length : Int))), (29, (vI s38.2)), (30, (vT (decide (s38.2 < (p1.length : Int))))), (31, (ptr (sb v1_1) (so v1_1 + (s38.2).toNat * 2))), (32, (Value.agg (cat [[(vB x46.Place)], [u52]]).toArray)), (33, (ptr b54 (0 + 0))), (34, (vB x46.Place)), (35, (ptr b33 (0 + 0))), (36, (vB x25.Place)), (37, (vT (x46.Place != x25.Place)))]) ⟨lk rfl f0, lk rfl f1, lk rfl f2, lk rfl f3, lk rfl f4, lk rfl f5, lk rfl f6, lk rfl f7, lk rfl f8, lk rfl f9, lk rfl f10, lk rfl f11, lk rfl f12, lk rfl f13, lk rfl f14, lk rfl f15, rfl, rfl, rfl, rfl, rfl, rfl, rfl, rfl, rfl, rfl, rfl, rfl, rfl, rfl, rfl, rfl, rfl, rfl, rfl, rfl, rfl, trivial⟩
                  refine s_assign hE goes_none (by decide) rfl ?_; intro a hE
                  refine c_fin0 ?_
                  have ht67 := Option.some.inj hl57
                  subst ht67
                  refine c_mid ?_
                  have hM := hM.pull (pre := [_, _])
                  have hM := hM.pull (pre := [_, _])
                  have hM := M.fst (l := [_, _]) hM
                  exact ⟨hE.sub ⟨rfl, rfl, rfl, rfl, rfl, rfl, rfl, rfl, rfl, rfl, rfl, rfl, trivial⟩, hM⟩
              · intro hb59
                have hl57 := ite_f hl57 hb59
                refine wp_skip ?_
                have ht68 := Option.some.inj hl57
                subst ht68
                refine c_mid ?_
                have hM := hM.pull (pre := [_, _])
                have hM := hM.pull (pre := [_, _])
                have hM := M.fst (l := [_, _]) hM
                exact ⟨hE.sub ⟨rfl, rfl, rfl, rfl, rfl, rfl, rfl, rfl, rfl, rfl, rfl, rfl, trivial⟩, hM⟩
            · skip
              rintro a w ⟨hE, hM⟩
              refine c_nb ?_
              have ht69 := Option.some.inj hF58
              subst ht69
              refine c_mid ?_
              exact ⟨hE.sub ⟨rfl, rfl, rfl, rfl, rfl, rfl, rfl, rfl, rfl, rfl, rfl, rfl, trivial⟩, hM⟩
          · skip
            rintro a w ⟨hE, hM⟩
            refine wp_region_lit ?_
            refine s_int hE goes_none (by decide) rfl rfl rfl ?_; intro a hE
            refine s_move hE goes_none (by decide) rfl ?_; intro a hE
            refine c_fin0 ?_
            refine c_mid ?_
            exact ⟨_, (Option.some.inj hF45).symm, hE.sub ⟨rfl, rfl, rfl, rfl, rfl, rfl, rfl, rfl, rfl, rfl, rfl, rfl, trivial⟩, hM⟩
        · intro hb42
          have hs39 := ite_f hs39 hb42
          refine wp_exit (e_then (e_then (e_eq ?_)))
          have ht70 := hx40 _ (Option.some.inj hs39).symm
          subst ht70
          refine c_mid ?_
          exact ⟨hE.sub ⟨rfl, rfl, rfl, rfl, rfl, rfl, rfl, rfl, rfl, trivial⟩, hM⟩
      · skip
        rintro a w ⟨hE, hM⟩
        refine c_nx ?_
        refine c_region ?_
        refine s_fieldAddr hE goes_none (by decide) rfl (fd81_1) ?_; intro a hE
        refine s_load (v := u31) hE goes_none (by decide) rfl ty29 rfl (At.cat (pre := [[(vB x25.Place)]]) (seg := [u31]) (post := []) (hM.rawAt (pre := [])) (cl1 (n := 1) (m := 0) rfl cl0)) ?_; intro a hE
        refine s_len hE goes_none (by decide) rfl Try.underlying29 (hM.rd h32) ?_; intro a hE
        refine s_move hE goes_none (by decide) rfl ?_; intro a hE
        refine c_fin ?_
        obtain ⟨j71, hl72, hF73⟩ := bind_some hF37
        refine c_cut (fun a w => ∃ (u74 : Value), Env 76 a [(0, (vI p0)), (1, v1_1), (2, (vB p2)), (7, u74), (21, v1_1), (22, (vI (p1.length : Int))), (23, (vI s18.1))] ∧ M (Old w0) w0 w [osl NoB (j71 : List UInt8) u74]) ?_ ?_
        · skip
          refine wp_block ?_
          have hM := hM.pull (pre := [_])
          have hM := M.fst (l := [_]) hM
          refine c_loop (fun (s76 : Int × (List UInt8)) a w => ∃ (u77 : Value), Env 76 a [(0, (vI p0)), (1, v1_1), (2, (vB p2)), (7, u77), (10, (vB j35)), (21, v1_1), (22, (vI (p1.length : Int))), (23, (vI s18.1)), (56, u31), (57, (vI (x25.Data.length : Int))), (58, (vI s76.1))] ∧ M (Old w0) w0 w [osl NoB (s76.2 : List UInt8) u77]) hl72 ⟨u19, hE.sub ⟨rfl, rfl, rfl, rfl, rfl, rfl, rfl, rfl, rfl, rfl, rfl, trivial⟩, hM⟩ ?_
          rintro s76 a w ⟨u77, hE, hM⟩ o81 hs79 hx80
          unfold L2_impl_field_valuesAt at hs79
          refine c_region ?_
          refine s_int hE goes_none (by decide) rfl rfl rfl ?_; intro a hE
          refine c_fin ?_
          refine wp_seq ?_
          refine c_cond hE rfl ?_ ?_
          · intro hb82
            have hs79 := ite_t hs79 hb82
            refine wp_skip ?_
            refine c_nx ?_
            refine wp_seq ?_
            refine wp_block ?_
            refine c_region ?_
            refine s_move hE goes_none (by decide) rfl ?_; intro a hE
            obtain ⟨x83, e84, hs79⟩ := bind_some hs79
            have hi85 := idx_some e84
            refine s_indexS hE goes_none (by decide) rfl rfl Try.underlying29 ty5 (hM.rd h32) hi85.1 ?_; intro a hE
            refine s_load (v := (vB x83)) hE goes_none (by decide) rfl ty5 rfl (sl_atF (hM.rd h32) hi85.2) ?_; intro a hE
            refine s_assign hE goes_none (by decide) rfl ?_; intro a hE
            refine s_assign hE goes_none (by decide) rfl ?_; intro a hE
            refine c_fin ?_
            obtain ⟨x87, e88, hs79⟩ := bind_some hs79
            have hi89 := idx_some e88
            obtain ⟨r90, e91, hs79⟩ := bind_some hs79
            obtain ⟨x92, e93, hs79⟩ := bind_some hs79
            have hi94 := idx_some e93
            refine c_draw (n := 76) (hd := [_, _, _, _, _, _, _, _, _, _]) (tl := [_]) hmix rfl rfl [63, 64, 65, 66, 67, 68, 69, 70, 71, 72] (by decide) (fun w => M (Old w0) w0 w [osl NoB (s76.2 : List UInt8) u77]) (fun j => ([fun v _ => v = u77, fun v _ => v = (vI s76.1), fun v _ => v = (ptr (sb u77) (so u77 + (s76.1).toNat * 1)), fun v _ => v = (vB x87), fun v _ => v = (vI p0), fun v _ => v = (vB x83), fun v _ => v = (vB j35), fun v _ => v = (vB r90), fun v _ => v = (vB (x87 ^^^ r90)), fun v _ => v = (ptr (sb u77) (so u77 + (s76.1).toNat * 1))] : List (Value → World → Prop)).getD j (fun _ _ => True)) (fun _ _ h hk => h.keep hk) (gup (gupE (gupE (gupE (gupE (gupE (gupE (gupE (gupE (gupE (gupE gupN))))))))))) hE hM.drew (steps_of (steps_cons ?_ (steps_cons ?_ (steps_cons ?_ (steps_cons ?_ (steps_cons ?_ (steps_cons ?_ (steps_cons ?_ (steps_cons ?_ (steps_cons ?_ (steps_cons ?_ steps_nil))))))))))) ?_
            · intro a w ux86 hE hM hp
              refine s_move hE goes_none (by decide) rfl ?_; intro a hE
              exact ⟨Kept.refl _ _, _, _, rfl, hE, rfl⟩
            · intro a w ux86 hE hM hp
              refine s_move hE goes_none (by decide) rfl ?_; intro a hE
              exact ⟨Kept.refl _ _, _, _, rfl, hE, rfl⟩
            · intro a w ux86 hE hM hp
              have f0 : ux86 0 = u77 := hp 0 _ rfl rfl
              have f1 : ux86 1 = (vI s76.1) := hp 1 _ rfl rfl
              refine s_indexS hE goes_none (by decide) (lk rfl f0) (lk rfl f1) Try.underlying29 ty5 (hM.sl (pre := []) noB) hi89.1 ?_; intro a hE
              exact ⟨Kept.refl _ _, _, _, rfl, hE, rfl⟩
            · intro a w ux86 hE hM hp
              have f2 : ux86 2 = (ptr (sb u77) (so u77 + (s76.1).toNat * 1)) := hp 0 _ rfl rfl
              refine s_load (v := (vB x87)) hE goes_none (by decide) (lk rfl f2) ty5 rfl (sl_atF (hM.sl (pre := []) noB) hi89.2) ?_; intro a hE
              exact ⟨Kept.refl _ _, _, _, rfl, hE, rfl⟩
            · intro a w ux86 hE hM hp
              refine s_move hE goes_none (by decide) rfl ?_; intro a hE
              exact ⟨Kept.refl _ _, _, _, rfl, hE, rfl⟩
            · intro a w ux86 hE hM hp
              refine s_move hE goes_none (by decide) rfl ?_; intro a hE
              exact ⟨Kept.refl _ _, _, _, rfl, hE, rfl⟩
            · intro a w ux86 hE hM hp
              refine s_move hE goes_none (by decide) rfl ?_; intro a hE
              exact ⟨Kept.refl _ _, _, _, rfl, hE, rfl⟩
            · intro a w ux86 hE hM hp
              have f4 : ux86 4 = (vI p0) := hp 0 _ rfl rfl
              have f5 : ux86 5 = (vB x83) := hp 1 _ rfl rfl
              have f6 : ux86 6 = (vB j35) := hp 2 _ rfl rfl
              refine s_call (vs := [(vI p0), (vB x83), (vB j35)]) hE goes_none (by decide) (evs_of (evsC (lk rfl f4) (evsC (lk rfl f5) (evsC (lk rfl f6) evsN)))) cb71 (c_impl_field_times _ p0 x83 j35 r90 e91) ?_
              rintro v w a ⟨rfl, hK⟩ hE
              exact ⟨hK, _, _, rfl, hE, rfl⟩
            · intro a w ux86 hE hM hp
              have f3 : ux86 3 = (vB x87) := hp 0 _ rfl rfl
              have f7 : ux86 7 = (vB r90) := hp 1 _ rfl rfl
              refine s_int hE goes_none (by decide) (lk rfl f3) (lk rfl f7) (bB_xor x87 r90) ?_; intro a hE
              exact ⟨Kept.refl _ _, _, _, rfl, hE, rfl⟩
            · intro a w ux86 hE hM hp
              have f0 : ux86 0 = u77 := hp 0 _ rfl rfl
              have f1 : ux86 1 = (vI s76.1) := hp 1 _ rfl rfl
              refine s_indexS hE goes_none (by decide) (lk rfl f0) (lk rfl f1) Try.underlying29 ty5 (hM.sl (pre := []) noB) hi94.1 ?_; intro a hE
              exact ⟨Kept.refl _ _, _, _, rfl, hE, rfl⟩
            · intro a w ux86 hE hM hg
              have f0 : ux86 0 = u77 := hg 0 (by decide)
              have f1 : ux86 1 = (vI s76.1) := hg 1 (by decide)
              have f2 : ux86 2 = (ptr (sb u77) (so u77 + (s76.1).toNat * 1)) := hg 2 (by decide)
              have f3 : ux86 3 = (vB x87) := hg 3 (by decide)
              have f4 : ux86 4 = (vI p0) := hg 4 (by decide)
              have f5 : ux86 5 = (vB x83) := hg 5 (by decide)
              have f6 : ux86 6 = (vB j35) := hg 6 (by decide)
              have f7 : ux86 7 = (vB r90) := hg 7 (by decide)
              have f8 : ux86 8 = (vB (x87 ^^^ r90)) := hg 8 (by decide)
              have f9 : ux86 9 = (ptr (sb u77) (so u77 + (s76.1).toNat * 1)) := hg 9 (by decide)
              have hE := hE.sub (e' := [(63, u77), (64, (vI s76.1)), (65, (ptr (sb u77) (so u77 + (s76.1).toNat * 1))), (66, (vB x87)), (67, (vI p0)), (68, (vB x83)), (69, (vB j35)), (70, (vB r90)), (71, (vB (x87 ^^^ r90))), (72, (ptr (sb u77) (so u77 + (s76.1).toNat * 1))), (0, (vI p0)), (1, v1_1), (2, (vB p2)), (7, u77), (10, (vB j35)), (13, (vI s76.1)), (14, (vB x83)), (21, v1_1), (22, (vI (p1.length : Int))), (23, (vI s18.1)), (56, u31), (57, (vI (x25.Data.length : Int))), (58, (vI s76.1)), (59, (vT (decide (s76.1 < (x25.Data.length : Int))))), (60, (vI s76.1)), (61, (ptr (sb u31) (so u31 + (s76.1).toNat * 1))), (62, (vB x83))]) ⟨lk rfl f0, lk rfl f1, lk rfl f2, lk rfl f3, lk rfl f4, lk rfl f5, lk rfl f6, lk rfl f7, lk rfl f8, lk rfl f9, rfl, rfl, rfl, rfl, rfl, rfl, rfl, rfl, rfl, rfl, rfl, rfl, rfl, rfl, rfl, rfl, rfl, trivial⟩
              refine s_storeS (i := (s76.1).toNat) (k0 := 0) (seg := [(vB (x87 ^^^ r90))]) (xo := x92) (xn := x87 ^^^ r90) hE hM goes_none rfl rfl rfl ty5 rfl (Flat.cell (x87 ^^^ r90 : UInt8)) hi94.2 (fit_num (m := 1) rfl (by decide)) (splice_all (Eq.trans rfl (Eq.symm rfl))) ?_; intro w a hM hE
              refine c_fin0 ?_
              refine c_nb ?_
              refine c_nx ?_
              refine wp_region_lit ?_
              refine s_int hE goes_none (by decide) rfl rfl rfl ?_; intro a hE
              refine s_move hE goes_none (by decide) rfl ?_; intro a hE
              refine c_fin0 ?_
              refine c_mid ?_
              exact ⟨_, (Option.some.inj hs79).symm, u77, hE.sub ⟨rfl, rfl, rfl, rfl, rfl, rfl, rfl, rfl, rfl, rfl, rfl, trivial⟩, hM⟩
          · intro hb82
            have hs79 := ite_f hs79 hb82
            refine wp_exit (e_then (e_then (e_eq ?_)))
            have ht95 := hx80 _ (Option.some.inj hs79).symm
            subst ht95
            refine c_mid ?_
            exact ⟨u77, hE.sub ⟨rfl, rfl, rfl, rfl, rfl, rfl, rfl, trivial⟩, hM⟩
        · skip
          rintro a w ⟨u74, hE, hM⟩
          refine c_nb ?_
          refine c_nx ?_
          refine wp_region_lit ?_
          refine s_int hE goes_none (by decide) rfl rfl rfl ?_; intro a hE
          refine s_move hE goes_none (by decide) rfl ?_; intro a hE
          refine c_fin0 ?_
          refine c_mid ?_
          exact ⟨_, (Option.some.inj hF73).symm, u74, hE.sub ⟨rfl, rfl, rfl, rfl, rfl, rfl, rfl, trivial⟩, hM⟩
    · intro hb24
      have hs21 := ite_f hs21 hb24
      refine wp_exit (e_then (e_then (e_eq ?_)))
      have ht96 := hx22 _ (Option.some.inj hs21).symm
      subst ht96
      refine c_mid ?_
      exact ⟨u19, hE.sub ⟨rfl, trivial⟩, hM⟩
  · skip
    rintro a w ⟨u16, hE, hM⟩
    refine c_nx ?_
    refine c_region ?_
    refine s_move hE goes_none (by decide) rfl ?_; intro a hE
    refine s_assign hE goes_none (by decide) rfl ?_; intro a hE
    refine c_fin ?_
    have hr := Option.some.inj hF15
    subst hr
    exact wp_ret (k_ret1 hE rfl (res_tmp hE rfl) ⟨_, rfl, u16, rfl, hM.outF (locN1 locN0), hM.kept⟩)
noncomputable def F_bytes_Equal (p0 : (List UInt8)) (p1 : (List UInt8)) : Option (Bool) :=
  some (decide ((⟨p0⟩ : Str) = (⟨p1⟩ : Str)))
set_option maxRecDepth 20000 in
set_option maxHeartbeats 400000 in
theorem c_bytes_Equal (w0 : World) (p0 : (List UInt8)) (v0_1 : Value) (hv0_1 : Ro w0 p0 [v0_1]) (p1 : (List UInt8)) (v1_1 : Value) (hv1_1 : Ro w0 p1 [v1_1]) (r : Bool) (hF : F_bytes_Equal p0 p1 = some r) :
    Calls Try.prog 98 [v0_1, v1_1].toArray w0 (fun en w' => ∃ v, en = .returned v ∧ (v = (vT r) ∧ Kept (Old w0) w0 w')) := by
  refine c_enter (n := 10) Try.func98 rfl rfl (Nat.le_of_ble_eq_true rfl) rfl ?_
  intro a hE
  have hM := M.start w0
  unfold F_bytes_Equal at hF
  refine c_region ?_
  refine s_assign hE goes_none (by decide) rfl ?_; intro a hE
  refine c_fin ?_
  refine c_region ?_
  refine s_move hE goes_none (by decide) rfl ?_; intro a hE
  refine s_bytesStr hE goes_none (by decide) rfl Try.underlying29 Try.underlying5 Try.underlying9 (hM.rd hv0_1) ?_; intro a hE
  refine s_move hE goes_none (by decide) rfl ?_; intro a hE
  refine s_bytesStr hE goes_none (by decide) rfl Try.underlying29 Try.underlying5 Try.underlying9 (hM.rd hv1_1) ?_; intro a hE
  refine s_eqS hE goes_none (by decide) rfl rfl ?_; intro a hE
  refine s_assign hE goes_none (by decide) rfl ?_; intro a hE
  refine c_fin ?_
  have hr := Option.some.inj hF
  subst hr
  exact wp_ret (k_ret1 hE rfl (res_tmp hE rfl) ⟨_, rfl, rfl, hM.kept⟩)
noncomputable def L0_impl_field_fit (p0 : Int) (p1 : (List GShare)) (p2 : Int) (s5 : Int) : Option (Fl Int (Fl Unit Bool)) :=
  if (decide (s5 < (p1.length : Int))) = true then (((slc p1 (0 : Int) p2).bind fun (l14 : (List GShare)) => (idx p1 s5).bind fun (x17 : GShare) => (F_impl_field_valuesAt p0 l14 x17.Place).bind fun (r25 : (List UInt8)) => (idx p1 s5).bind fun (x28 : GShare) => (F_bytes_Equal r25 x28.Data).bind fun (r36 : Bool) => some (!r36) : Option (Bool)).bind fun (j10 : Bool) => if j10 = true then (some (Fl.ex (Fl.ex false))) else (some (Fl.nx (wr (s5 + 1))))) else (some (Fl.ex (Fl.nx ())))
noncomputable def F_impl_field_fit (p0 : Int) (p1 : (List GShare)) (p2 : Int) : Option (Bool) :=
  (iter (L0_impl_field_fit p0 p1 p2) p2 : Option (Fl Unit Bool)).bind fun (j1 : Fl Unit Bool) => j1.el (fun (s4 : Unit) => some true) (fun r => some r)
set_option maxRecDepth 20000 in
set_option maxHeartbeats 400000 in
theorem c_impl_field_fit (w0 : World) (p0 : Int) (p1 : (List GShare)) (v1_1 : Value) (hv1_1 : Ro w0 p1 [v1_1]) (p2 : Int) (r : Bool) (hF : F_impl_field_fit p0 p1 p2 = some r) :
    Calls Try.prog 102 [(vI p0), v1_1, (vI p2)].toArray w0 (fun en w' => ∃ v, en = .returned v ∧ (v = (vT r) ∧ Kept (Old w0) w0 w')) := by
  refine c_enter (n := 32) Try.func102 rfl rfl (Nat.le_of_ble_eq_true rfl) rfl ?_
  intro a hE
  have hM := M.start w0
  unfold F_impl_field_fit at hF
  refine c_region ?_
  refine s_assign hE goes_none (by decide) rfl ?_; intro a hE
  refine c_fin ?_
  refine wp_seq ?_
  refine c_region ?_
  refine s_move hE goes_none (by decide) rfl ?_; intro a hE
  refine s_assign hE goes_none (by decide) rfl ?_; intro a hE
  refine c_fin ?_
  obtain ⟨j1, hl2, hF3⟩ := bind_some hF
  refine c_cut (fun a w => ∃ s4 : Unit, j1 = Fl.nx s4 ∧ Env 32 a [] ∧ M (Old w0) w0 w []) ?_ ?_
  · skip
    refine wp_block ?_
    refine c_loop (fun (s5 : Int) a w => Env 32 a [(0, (vI p0)), (1, v1_1), (2, (vI p2)), (7, (vI s5))] ∧ M (Old w0) w0 w []) hl2 ⟨hE.sub ⟨rfl, rfl, rfl, rfl, trivial⟩, hM⟩ ?_
    rintro s5 a w ⟨hE, hM⟩ o8 hs6 hx7
    unfold L0_impl_field_fit at hs6
    refine wp_seq ?_
    refine c_region ?_
    refine s_move hE goes_none (by decide) rfl ?_; intro a hE
    refine s_move hE goes_none (by decide) rfl ?_; intro a hE
    refine s_len hE goes_none (by decide) rfl Try.underlying25 (hM.rd hv1_1) ?_; intro a hE
    refine s_int hE goes_none (by decide) rfl rfl rfl ?_; intro a hE
    refine c_fin ?_
    refine c_cond hE rfl ?_ ?_
    · intro hb9
      have hs6 := ite_t hs6 hb9
      refine wp_skip ?_
      refine c_nx ?_
      refine wp_seq ?_
      refine wp_block ?_
      obtain ⟨j10, hl11, hF12⟩ := bind_some hs6
      refine c_join (fun a w => Env 32 a [(0, (vI p0)), (1, v1_1), (2, (vI p2)), (7, (vI s5)), (31, (vT j10))] ∧ M (Old w0) w0 w []) ?_ ?_
      · skip
        obtain ⟨l14, e15, hl11⟩ := bind_some hl11
        have h16 : Rep.sat (Old w0) w0 l14 [(sliceV v1_1 ((0 : Int)).toNat (p2).toNat 2)] [] := ro_slice hv1_1 e15 -- ^
        obtain ⟨x17, e18, hl11⟩ := bind_some hl11
        have hi19 := idx_some e18
        obtain ⟨cs20, hs21, hA22⟩ := sl_atRo hv1_1 hi19.2 -- ^
        obtain ⟨u23, rfl, h24⟩ := un_GShare hs21 -- ^
        obtain ⟨r25, e26, hl11⟩ := bind_some hl11
        obtain ⟨x28, e29, hl11⟩ := bind_some hl11
        have hi30 := idx_some e29
        obtain ⟨cs31, hs32, hA33⟩ := sl_atRo hv1_1 hi30.2 -- ^
        obtain ⟨u34, rfl, h35⟩ := un_GShare hs32 -- ^
        refine c_draw2 (n := 32) (hd := [_, _, _, _, _, _, _, _, _, _, _, _, _, _, _]) (tl := [_, _]) (its := []) hmix rfl rfl [15, 16, 17, 18, 19, 20, 21, 22, 23, 24, 25, 26, 27, 28, 29] (by decide) [(9, fun v => osl NoB (r25 : List UInt8) v)] rfl (fun j => ([fun v => v = (vI p0), fun v => v = v1_1, fun v => v = (vI p2), fun v => v = (sliceV v1_1 ((0 : Int)).toNat (p2).toNat 2), fun v => v = v1_1, fun v => v = (vI s5), fun v => v = (ptr (sb v1_1) (so v1_1 + (s5).toNat * 2)), fun v => v = (ptr (sb v1_1) (so v1_1 + (s5).toNat * 2 + 0)), fun v => v = (vB x17.Place), fun v => True, fun v => v = v1_1, fun v => v = (vI s5), fun v => v = (ptr (sb v1_1) (so v1_1 + (s5).toNat * 2)), fun v => v = (ptr (sb v1_1) (so v1_1 + (s5).toNat * 2 + 1)), fun v => v = u34] : List (Value → Prop)).getD j (fun _ => True)) hE hM.drew (steps_of (steps_cons ?_ (steps_cons ?_ (steps_cons ?_ (steps_cons ?_ (steps_cons ?_ (steps_cons ?_ (steps_cons ?_ (steps_cons ?_ (steps_cons ?_ (steps_cons ?_ (steps_cons ?_ (steps_cons ?_ (steps_cons ?_ (steps_cons ?_ (steps_cons ?_ steps_nil)))))))))))))))) ?_
        · intro a w ux13 D hE hM hD hp
          have hM0 := hM
          refine s_move hE goes_none (by decide) rfl ?_; intro a hE
          exact ⟨_, _, rfl, hE, rfl, hM0.optKeep rfl⟩
        · intro a w ux13 D hE hM hD hp
          have hM0 := hM
          refine s_move hE goes_none (by decide) rfl ?_; intro a hE
          exact ⟨_, _, rfl, hE, rfl, hM0.optKeep rfl⟩
        · intro a w ux13 D hE hM hD hp
          have hM0 := hM
          refine s_move hE goes_none (by decide) rfl ?_; intro a hE
          exact ⟨_, _, rfl, hE, rfl, hM0.optKeep rfl⟩
        · intro a w ux13 D hE hM hD hp
          have f1 : ux13 1 = v1_1 := (hp 0 _ rfl rfl).2
          have f2 : ux13 2 = (vI p2) := (hp 1 _ rfl rfl).2
          have hM0 := hM
          have hM : M (Old w0) w0 w [opt (D 9) (osl NoB (r25 : List UInt8) (ux13 9))] := hM
          refine s_slice hE goes_none (by decide) (lk rfl f1) rfl (opvo_some (lk rfl f2)) rfl rfl Try.underlying25 ty81 (hM.rd hv1_1) e15 ?_; intro a hE
          exact ⟨_, _, rfl, hE, rfl, hM0.optKeep rfl⟩
        · intro a w ux13 D hE hM hD hp
          have hM0 := hM
          refine s_move hE goes_none (by decide) rfl ?_; intro a hE
          exact ⟨_, _, rfl, hE, rfl, hM0.optKeep rfl⟩
        · intro a w ux13 D hE hM hD hp
          have hM0 := hM
          refine s_move hE goes_none (by decide) rfl ?_; intro a hE
          exact ⟨_, _, rfl, hE, rfl, hM0.optKeep rfl⟩
        · intro a w ux13 D hE hM hD hp
          have f4 : ux13 4 = v1_1 := (hp 0 _ rfl rfl).2
          have f5 : ux13 5 = (vI s5) := (hp 1 _ rfl rfl).2
          have hM0 := hM
          have hM : M (Old w0) w0 w [opt (D 9) (osl NoB (r25 : List UInt8) (ux13 9))] := hM
          refine s_indexS hE goes_none (by decide) (lk rfl f4) (lk rfl f5) Try.underlying25 ty81 (hM.rd hv1_1) hi19.1 ?_; intro a hE
          exact ⟨_, _, rfl, hE, rfl, hM0.optKeep rfl⟩
        · intro a w ux13 D hE hM hD hp
          have f6 : ux13 6 = (ptr (sb v1_1) (so v1_1 + (s5).toNat * 2)) := (hp 0 _ rfl rfl).2
          have hM0 := hM
          refine s_fieldAddr hE goes_none (by decide) (lk rfl f6) (fd81_0) ?_; intro a hE
          exact ⟨_, _, rfl, hE, rfl, hM0.optKeep rfl⟩
        · intro a w ux13 D hE hM hD hp
          have f7 : ux13 7 = (ptr (sb v1_1) (so v1_1 + (s5).toNat * 2 + 0)) := (hp 0 _ rfl rfl).2
          have hM0 := hM
          have hM : M (Old w0) w0 w [opt (D 9) (osl NoB (r25 : List UInt8) (ux13 9))] := hM
          refine s_load (v := (vB x17.Place)) hE goes_none (by decide) (lk rfl f7) ty5 rfl (At.cat (pre := []) (seg := [(vB x17.Place)]) (post := [[u23]]) (hM.atk hA22 (sl_blk hv1_1 hi19.2)) cl0) ?_; intro a hE
          exact ⟨_, _, rfl, hE, rfl, hM0.optKeep rfl⟩
        · intro a w ux13 D hE hM hD hp
          have f0 : ux13 0 = (vI p0) := (hp 0 _ rfl rfl).2
          have f3 : ux13 3 = (sliceV v1_1 ((0 : Int)).toNat (p2).toNat 2) := (hp 1 _ rfl rfl).2
          have f8 : ux13 8 = (vB x17.Place) := (hp 2 _ rfl rfl).2
          have hM0 := hM
          have hM : M (Old w0) w0 w [opt (D 9) (osl NoB (r25 : List UInt8) (ux13 9))] := hM
          refine s_call (vs := [(vI p0), (sliceV v1_1 ((0 : Int)).toNat (p2).toNat 2), (vB x17.Place)]) hE goes_none (by decide) (evs_of (evsC (lk rfl f0) (evsC (lk rfl f3) (evsC (lk rfl f8) evsN)))) cb141 (c_impl_field_valuesAt _ p0 l14 (sliceV v1_1 ((0 : Int)).toNat (p2).toNat 2) (hM.rdo h16) x17.Place r25 e26) ?_
          rintro _ w a ⟨_, rfl, hFr, hK⟩ hE
          have hM := hM0.add hK hFr
          exact ⟨_, _, rfl, hE, trivial, M.optFill (mk1 := []) (mk2 := []) (f := (fun v => osl NoB (r25 : List UInt8) v)) hM rfl hD⟩
        · intro a w ux13 D hE hM hD hp
          have hM0 := hM
          refine s_move hE goes_none (by decide) rfl ?_; intro a hE
          exact ⟨_, _, rfl, hE, rfl, hM0.optKeep rfl⟩
        · intro a w ux13 D hE hM hD hp
          have hM0 := hM
          refine s_move hE goes_none (by decide) rfl ?_; intro a hE
          exact ⟨_, _, rfl, hE, rfl, hM0.optKeep rfl⟩
        · intro a w ux13 D hE hM hD hp
          have f10 : ux13 10 = v1_1 := (hp 0 _ rfl rfl).2
          have f11 : ux13 11 = (vI s5) := (hp 1 _ rfl rfl).2
          have hM0 := hM
          have hM : M (Old w0) w0 w [opt (D 9) (osl NoB (r25 : List UInt8) (ux13 9))] := hM
          refine s_indexS hE goes_none (by decide) (lk rfl f10) (lk rfl f11) Try.underlying25 ty81 (hM.rd hv1_1) hi30.1 ?_; intro a hE
          exact ⟨_, _, rfl, hE, rfl, hM0.optKeep rfl⟩
        · intro a w ux13 D hE hM hD hp
          have f12 : ux13 12 = (ptr (sb v1_1) (so v1_1 + (s5).toNat * 2)) := (hp 0 _ rfl rfl).2
          have hM0 := hM
          refine s_fieldAddr hE goes_none (by decide) (lk rfl f12) (fd81_1) ?_; intro a hE
          exact ⟨_, _, rfl, hE, rfl, hM0.optKeep rfl⟩
        · intro a w ux13 D hE hM hD hp
          have f13 : ux13 13 = (ptr (sb v1_1) (so v1_1 + (s5).toNat * 2 + 1)) := (hp 0 _ rfl rfl).2
          have hM0 := hM
          have hM : M (Old w0) w0 w [opt (D 9) (osl NoB (r25 : List UInt8) (ux13 9))] := hM
          refine s_load (v := u34) hE goes_none (by decide) (lk rfl f13) ty29 rfl (At.cat (pre := [[(vB x28.Place)]]) (seg := [u34]) (post := []) (hM.atk hA33 (sl_blk hv1_1 hi30.2)) (cl1 (n := 1) (m := 0) rfl cl0)) ?_; intro a hE
          exact ⟨_, _, rfl, hE, rfl, hM0.optKeep rfl⟩
        · intro a w ux13 hE hM hg
          have f0 : ux13 0 = (vI p0) := hg 0 (by decide)
          have f1 : ux13 1 = v1_1 := hg 1 (by decide)
          have f2 : ux13 2 = (vI p2) := hg 2 (by decide)
          have f3 : ux13 3 = (sliceV v1_1 ((0 : Int)).toNat (p2).toNat 2) := hg 3 (by decide)
          have f4 : ux13 4 = v1_1 := hg 4 (by decide)
          have f5 : ux13 5 = (vI s5) := hg 5 (by decide)
          have f6 : ux13 6 = (ptr (sb v1_1) (so v1_1 + (s5).toNat * 2)) := hg 6 (by decide)
          have f7 : ux13 7 = (ptr (sb v1_1) (so v1_1 + (s5).toNat * 2 + 0)) := hg 7 (by decide)
          have f8 : ux13 8 = (vB x17.Place) := hg 8 (by decide)
          have f10 : ux13 10 = v1_1 := hg 10 (by decide)
          have f11 : ux13 11 = (vI s5) := hg 11 (by decide)
          have f12 : ux13 12 = (ptr (sb v1_1) (so v1_1 + (s5).toNat * 2)) := hg 12 (by decide)
          have f13 : ux13 13 = (ptr (sb v1_1) (so v1_1 + (s5).toNat * 2 + 1)) := hg 13 (by decide)
          have f14 : ux13 14 = u34 := hg 14 (by decide)
          have hM : M (Old w0) w0 w [osl NoB (r25 : List UInt8) (ux13 9)] := hM
          have hE := hE.sub (e' := [(15, (vI p0)), (16, v1_1), (17, (vI p2)), (18, (sliceV v1_1 ((0 : Int)).toNat (p2).toNat 2)), (19, v1_1), (20, (vI s5)), (21, (ptr (sb v1_1) (so v1_1 + (s5).toNat * 2))), (22, (ptr (sb v1_1) (so v1_1 + (s5).toNat * 2 + 0))), (23, (vB x17.Place)), (24, (ux13 9)), (25, v1_1), (26, (vI s5)), (27, (ptr (sb v1_1) (so v1_1 + (s5).toNat * 2))), (28, (ptr (sb v1_1) (so v1_1 + (s5).toNat * 2 + 1))), (29, u34), (0, (vI p0)), (1, v1_1), (2, (vI p2)), (7, (vI s5)), (9, (vI s5)), (10, v1_1), (11, (vI (p1.length : Int))), (12, (vT (decide (s5 < (p1.length : Int)))))]) ⟨lk rfl f0, lk rfl f1, lk rfl f2, lk rfl f3, lk rfl f4, lk rfl f5, lk rfl f6, lk rfl f7, lk rfl f8, rfl, lk rfl f10, lk rfl f11, lk rfl f12, lk rfl f13, lk rfl f14, rfl, rfl, rfl, rfl, rfl, rfl, rfl, rfl, trivial⟩
          obtain ⟨r36, e37, hl11⟩ := bind_some hl11
          refine s_call (vs := [(ux13 9), u34]) hE goes_none (by decide) rfl cb98 (c_bytes_Equal _ r25 (ux13 9) (hM.sl (pre := []) noB) x28.Data u34 (hM.rdo h35) r36 e37) ?_
          rintro v w a ⟨rfl, hK⟩ hE
          have hM := hM.keep hK
          refine s_not hE goes_none (by decide) rfl ?_; intro a hE
          refine c_fin0 ?_
          have ht38 := Option.some.inj hl11
          subst ht38
          refine c_mid ?_
          have hM := M.fst (l := []) hM
          exact ⟨hE.sub ⟨rfl, rfl, rfl, rfl, rfl, trivial⟩, hM⟩
      · skip
        rintro a w ⟨hE, hM⟩
        refine c_cond hE rfl ?_ ?_
        · intro hb39
          have hF12 := ite_t hF12 hb39
          refine c_region ?_
          refine s_assign hE goes_none (by decide) rfl ?_; intro a hE
          refine c_fin ?_
          have ht40 := hx7 _ (Option.some.inj hF12).symm
          subst ht40
          have hr := Option.some.inj hF3
          subst hr
          exact wp_ret (r_inb (r_then (r_then (r_inb (r_then (r_then (k_ret1 hE rfl (res_tmp hE rfl) ⟨_, rfl, rfl, hM.kept⟩)))))))
        · intro hb39
          have hF12 := ite_f hF12 hb39
          refine wp_skip ?_
          refine c_nb ?_
          refine c_nx ?_
          refine wp_region_lit ?_
          refine s_move hE goes_none (by decide) rfl ?_; intro a hE
          refine s_int hE goes_none (by decide) rfl rfl rfl ?_; intro a hE
          refine s_assign hE goes_none (by decide) rfl ?_; intro a hE
          refine c_fin0 ?_
          refine c_mid ?_
          exact ⟨_, (Option.some.inj hF12).symm, hE.sub ⟨rfl, rfl, rfl, rfl, trivial⟩, hM⟩
    · intro hb9
      have hs6 := ite_f hs6 hb9
      refine wp_exit (e_then (e_then (e_eq ?_)))
      have ht41 := hx7 _ (Option.some.inj hs6).symm
      subst ht41
      refine c_mid ?_
      exact ⟨(), rfl, hE.sub trivial, hM⟩
  · skip
    rintro a w ⟨s4, ht, hE, hM⟩
    subst ht
    refine c_nx ?_
    refine c_region ?_
    refine s_assign hE goes_none (by decide) rfl ?_; intro a hE
    refine c_fin ?_
    have hr := Option.some.inj hF3
    subst hr
    exact wp_ret (k_ret1 hE rfl (res_tmp hE rfl) ⟨_, rfl, rfl, hM.kept⟩)
noncomputable def F_impl_field_recover (p0 : Int) (p1 : (List GShare)) (p2 : Int) (p3 : UInt8) : Option ((List UInt8) × Int) :=
  (F_impl_length_impl_Share p1).bind fun (r1 : Int) => if (decide (r1 < p2)) = true then (some ([], 4)) else ((F_impl_field_fit p0 p1 p2).bind fun (r5 : Bool) => if (!r5) = true then (some ([], 5)) else ((slc p1 (0 : Int) p2).bind fun (l9 : (List GShare)) => (F_impl_field_valuesAt p0 l9 p3).bind fun (r12 : (List UInt8)) => some (r12, 0)))
set_option maxRecDepth 20000 in
set_option maxHeartbeats 400000 in
theorem c_impl_field_recover (w0 : World) (p0 : Int) (p1 : (List GShare)) (v1_1 : Value) (hv1_1 : Ro w0 p1 [v1_1]) (p2 : Int) (p3 : UInt8) (r : (List UInt8) × Int) (hF : F_impl_field_recover p0 p1 p2 p3 = some r) :
    Calls Try.prog 111 [(vI p0), v1_1, (vI p2), (vB p3)].toArray w0 (fun en w' => ∃ v, en = .returned v ∧ (∃ (y1 : Value), v = (Value.tuple [y1, (vI r.2)].toArray) ∧ Fr w0 w' [osl NoB (r.1 : List UInt8) y1] ∧ Kept (Old w0) w0 w')) := by
  refine c_enter (n := 27) Try.func111 rfl rfl (Nat.le_of_ble_eq_true rfl) rfl ?_
  intro a hE
  have hM := M.start w0
  unfold F_impl_field_recover at hF
  refine c_region ?_
  refine s_assign hE goes_none (by decide) rfl ?_; intro a hE
  refine s_assign hE goes_none (by decide) rfl ?_; intro a hE
  refine c_fin ?_
  refine wp_seq ?_
  refine wp_block ?_
  refine c_region ?_
  refine s_move hE goes_none (by decide) rfl ?_; intro a hE
  obtain ⟨r1, e2, hF⟩ := bind_some hF
  refine s_call (vs := [v1_1]) hE goes_none (by decide) rfl cb57 (c_impl_length_impl_Share _ p1 v1_1 (hM.rdo hv1_1) r1 e2) ?_
  rintro v w a ⟨rfl, hK⟩ hE
  have hM := hM.keep hK
  refine s_move hE goes_none (by decide) rfl ?_; intro a hE
  refine s_int hE goes_none (by decide) rfl rfl rfl ?_; intro a hE
  refine s_assign hE goes_none (by decide) rfl ?_; intro a hE
  refine c_fin ?_
  refine c_cond hE rfl ?_ ?_
  · intro hb3
    have hF := ite_t hF hb3
    refine c_region ?_
    refine s_assign hE goes_none (by decide) rfl ?_; intro a hE
    refine s_assign hE goes_none (by decide) rfl ?_; intro a hE
    refine c_fin ?_
    have hM := M.nilS (α := UInt8) NoB noB hM
    have hr := Option.some.inj hF
    subst hr
    exact wp_ret (r_inb (r_then (k_ret2 hE rfl (res_tmp hE rfl) (res_tmp hE rfl) ⟨_, rfl, (Value.slice none 0 0), rfl, hM.outF (locN1 locN0), hM.kept⟩)))
  · intro hb3
    have hF := ite_f hF hb3
    refine c_region ?_
    refine s_move hE goes_none (by decide) rfl ?_; intro a hE
    refine s_move hE goes_none (by decide) rfl ?_; intro a hE
    refine s_move hE goes_none (by decide) rfl ?_; intro a hE
    obtain ⟨r5, e6, hF⟩ := bind_some hF
    refine s_call (vs := [(vI p0), v1_1, (vI p2)]) hE goes_none (by decide) rfl cb102 (c_impl_field_fit _ p0 p1 v1_1 (hM.rdo hv1_1) p2 r5 e6) ?_
    rintro v w a ⟨rfl, hK⟩ hE
    have hM := hM.keep hK
    refine s_not hE goes_none (by decide) rfl ?_; intro a hE
    refine s_assign hE goes_none (by decide) rfl ?_; intro a hE
    refine c_fin ?_
    refine c_cond hE rfl ?_ ?_
    · intro hb7
      have hF := ite_t hF hb7
      refine c_region ?_
      refine s_assign hE goes_none (by decide) rfl ?_; intro a hE
      refine s_assign hE goes_none (by decide) rfl ?_; intro a hE
      refine c_fin ?_
      have hM := M.nilS (α := UInt8) NoB noB hM
      have hr := Option.some.inj hF
      subst hr
      exact wp_ret (r_inb (r_then (k_ret2 hE rfl (res_tmp hE rfl) (res_tmp hE rfl) ⟨_, rfl, (Value.slice none 0 0), rfl, hM.outF (locN1 locN0), hM.kept⟩)))
    · intro hb7
      have hF := ite_f hF hb7
      refine wp_skip ?_
      refine c_nb ?_
      refine c_nx ?_
      refine c_region ?_
      refine s_move hE goes_none (by decide) rfl ?_; intro a hE
      refine s_move hE goes_none (by decide) rfl ?_; intro a hE
      refine s_move hE goes_none (by decide) rfl ?_; intro a hE
      obtain ⟨l9, e10, hF⟩ := bind_some hF
      refine s_slice hE goes_none (by decide) rfl rfl rfl rfl rfl Try.underlying25 ty81 (hM.rd hv1_1) e10 ?_; intro a hE
      have h11 : Rep.sat (Old w0) w0 l9 [(sliceV v1_1 ((0 : Int)).toNat (p2).toNat 2)] [] := ro_slice hv1_1 e10 -- ^
      refine s_move hE goes_none (by decide) rfl ?_; intro a hE
      obtain ⟨r12, e13, hF⟩ := bind_some hF
      refine s_call (vs := [(vI p0), (sliceV v1_1 ((0 : Int)).toNat (p2).toNat 2), (vB p3)]) hE goes_none (by decide) rfl cb141 (c_impl_field_valuesAt _ p0 l9 (sliceV v1_1 ((0 : Int)).toNat (p2).toNat 2) (hM.rdo h11) p3 r12 e13) ?_
      rintro u14 w a ⟨_, rfl, hFr, hK⟩ hE
      have hM := hM.add hK hFr
      refine s_assign hE goes_none (by decide) rfl ?_; intro a hE
      refine s_assign hE goes_none (by decide) rfl ?_; intro a hE
      refine c_fin ?_
      have hr := Option.some.inj hF
      subst hr
      exact wp_ret (k_ret2 hE rfl (res_tmp hE rfl) (res_tmp hE rfl) ⟨_, rfl, u14, rfl, hM.outF (locN1 locN0), hM.kept⟩)
noncomputable def F_impl_RecoverData (p0 : Int) (p1 : (List GShare)) (p2 : Int) : Option ((List UInt8) × Int) :=
  (F_impl_checkShares p0 p1 p2).bind fun (r1 : Int) => if (r1 != 0) = true then (some ([], r1)) else ((F_impl_field_recover p0 p1 p2 0).bind fun (r5 : (List UInt8) × Int) => some (r5.1, r5.2))
set_option maxRecDepth 20000 in
set_option maxHeartbeats 400000 in
theorem c_impl_RecoverData (w0 : World) (p0 : Int) (p1 : (List GShare)) (v1_1 : Value) (hv1_1 : Ro w0 p1 [v1_1]) (p2 : Int) (r : (List UInt8) × Int) (hF : F_impl_RecoverData p0 p1 p2 = some r) :
    Calls Try.prog 50 [(vI p0), v1_1, (vI p2)].toArray w0 (fun en w' => ∃ v, en = .returned v ∧ (∃ (y1 : Value), v = (Value.tuple [y1, (vI r.2)].toArray) ∧ Fr w0 w' [osl NoB (r.1 : List UInt8) y1] ∧ Kept (Old w0) w0 w')) := by
  refine c_enter (n := 22) Try.func50 rfl rfl (Nat.le_of_ble_eq_true rfl) rfl ?_
  intro a hE
  have hM := M.start w0
  unfold F_impl_RecoverData at hF
  refine c_region ?_
  refine s_assign hE goes_none (by decide) rfl ?_; intro a hE
  refine s_assign hE goes_none (by decide) rfl ?_; intro a hE
  refine c_fin ?_
  refine wp_seq ?_
  refine c_region ?_
  refine s_move hE goes_none (by decide) rfl ?_; intro a hE
  refine s_move hE goes_none (by decide) rfl ?_; intro a hE
  refine s_move hE goes_none (by decide) rfl ?_; intro a hE
  obtain ⟨r1, e2, hF⟩ := bind_some hF
  refine s_call (vs := [(vI p0), v1_1, (vI p2)]) hE goes_none (by decide) rfl cb97 (c_impl_checkShares _ p0 p1 v1_1 (hM.rdo hv1_1) p2 r1 e2) ?_
  rintro v w a ⟨rfl, hK⟩ hE
  have hM := hM.keep hK
  refine s_assign hE goes_none (by decide) rfl ?_; intro a hE
  refine c_fin ?_
  refine c_region ?_
  refine s_move hE goes_none (by decide) rfl ?_; intro a hE
  refine s_int hE goes_none (by decide) rfl rfl rfl ?_; intro a hE
  refine c_fin ?_
  refine c_cond hE rfl ?_ ?_
  · intro hb3
    have hF := ite_t hF hb3
    refine c_region ?_
    refine s_move hE goes_none (by decide) rfl ?_; intro a hE
    refine s_assign hE goes_none (by decide) rfl ?_; intro a hE
    refine s_assign hE goes_none (by decide) rfl ?_; intro a hE
    refine c_fin ?_
    have hM := M.nilS (α := UInt8) NoB noB hM
    have hr := Option.some.inj hF
    subst hr
    exact wp_ret (r_then (k_ret2 hE rfl (res_tmp hE rfl) (res_tmp hE rfl) ⟨_, rfl, (Value.slice none 0 0), rfl, hM.outF (locN1 locN0), hM.kept⟩))
  · intro hb3
    have hF := ite_f hF hb3
    refine wp_skip ?_
    refine c_nx ?_
    refine c_region ?_
    refine s_move hE goes_none (by decide) rfl ?_; intro a hE
    refine s_move hE goes_none (by decide) rfl ?_; intro a hE
    refine s_move hE goes_none (by decide) rfl ?_; intro a hE
    obtain ⟨r5, e6, hF⟩ := bind_some hF
    refine s_call (vs := [(vI p0), v1_1, (vI p2), (vB 0)]) hE goes_none (by decide) rfl cb111 (c_impl_field_recover _ p0 p1 v1_1 (hM.rdo hv1_1) p2 0 r5 e6) ?_
    rintro v w a ⟨u7, rfl, hFr, hK⟩ hE
    have hM := hM.add hK hFr
    refine s_extract hE goes_none (by decide) rfl rfl ?_; intro a hE
    refine s_extract hE goes_none (by decide) rfl rfl ?_; intro a hE
    refine s_assign hE goes_none (by decide) rfl ?_; intro a hE
    refine s_assign hE goes_none (by decide) rfl ?_; intro a hE
    refine c_fin ?_
    have hr := Option.some.inj hF
    subst hr
    exact wp_ret (k_ret2 hE rfl (res_tmp hE rfl) (res_tmp hE rfl) ⟨_, rfl, u7, rfl, hM.outF (locN1 locN0), hM.kept⟩)
noncomputable def L0_laws_eqByteS (p0 : (List UInt8)) (p1 : (List UInt8)) (s6 : Int) : Option (Fl Int (Fl Unit Bool)) :=
  if (decide (s6 < (p0.length : Int))) = true then (((idx p0 s6).bind fun (x15 : UInt8) => (idx p1 s6).bind fun (x18 : UInt8) => some (x15 != x18) : Option (Bool)).bind fun (j11 : Bool) => if j11 = true then (some (Fl.ex (Fl.ex false))) else (some (Fl.nx (wr (s6 + 1))))) else (some (Fl.ex (Fl.nx ())))
noncomputable def F_laws_eqByteS (p0 : (List UInt8)) (p1 : (List UInt8)) : Option (Bool) :=
  if ((p0.length : Int) != (p1.length : Int)) = true then (some false) else ((iter (L0_laws_eqByteS p0 p1) 0 : Option (Fl Unit Bool)).bind fun (j2 : Fl Unit Bool) => j2.el (fun (s5 : Unit) => some true) (fun r => some r))
set_option maxRecDepth 20000 in
set_option maxHeartbeats 400000 in
theorem c_laws_eqByteS (w0 : World) (p0 : (List UInt8)) (v0_1 : Value) (hv0_1 : Ro w0 p0 [v0_1]) (p1 : (List UInt8)) (v1_1 : Value) (hv1_1 : Ro w0 p1 [v1_1]) (r : Bool) (hF : F_laws_eqByteS p0 p1 = some r) :
    Calls Try.prog 21 [v0_1, v1_1].toArray w0 (fun en w' => ∃ v, en = .returned v ∧ (v = (vT r) ∧ Kept (Old w0) w0 w')) := by
  refine c_enter (n := 26) Try.func21 rfl rfl (Nat.le_of_ble_eq_true rfl) rfl ?_
  intro a hE
  have hM := M.start w0
  unfold F_laws_eqByteS at hF
  refine c_region ?_
  refine s_assign hE goes_none (by decide) rfl ?_; intro a hE
  refine c_fin ?_
  refine wp_seq ?_
  refine c_region ?_
  refine s_move hE goes_none (by decide) rfl ?_; intro a hE
  refine s_len hE goes_none (by decide) rfl Try.underlying29 (hM.rd hv0_1) ?_; intro a hE
  refine s_move hE goes_none (by decide) rfl ?_; intro a hE
  refine s_len hE goes_none (by decide) rfl Try.underlying29 (hM.rd hv1_1) ?_; intro a hE
  refine s_int hE goes_none (by decide) rfl rfl rfl ?_; intro a hE
  refine c_fin ?_
  refine c_cond hE rfl ?_ ?_
  · intro hb1
    have hF := ite_t hF hb1
    refine c_region ?_
    refine s_assign hE goes_none (by decide) rfl ?_; intro a hE
    refine c_fin ?_
    have hr := Option.some.inj hF
    subst hr
    exact wp_ret (r_then (k_ret1 hE rfl (res_tmp hE rfl) ⟨_, rfl, rfl, hM.kept⟩))
  · intro hb1
    have hF := ite_f hF hb1
    refine wp_skip ?_
    refine c_nx ?_
    refine wp_seq ?_
    refine c_region ?_
    refine s_assign hE goes_none (by decide) rfl ?_; intro a hE
    refine c_fin ?_
    obtain ⟨j2, hl3, hF4⟩ := bind_some hF
    refine c_cut (fun a w => ∃ s5 : Unit, j2 = Fl.nx s5 ∧ Env 26 a [] ∧ M (Old w0) w0 w []) ?_ ?_
    · skip
      refine wp_block ?_
      refine c_loop (fun (s6 : Int) a w => Env 26 a [(0, v0_1), (1, v1_1), (5, (vI s6))] ∧ M (Old w0) w0 w []) hl3 ⟨hE.sub ⟨rfl, rfl, rfl, trivial⟩, hM⟩ ?_
      rintro s6 a w ⟨hE, hM⟩ o9 hs7 hx8
      unfold L0_laws_eqByteS at hs7
      refine wp_seq ?_
      refine c_region ?_
      refine s_move hE goes_none (by decide) rfl ?_; intro a hE
      refine s_move hE goes_none (by decide) rfl ?_; intro a hE
      refine s_len hE goes_none (by decide) rfl Try.underlying29 (hM.rd hv0_1) ?_; intro a hE
      refine s_int hE goes_none (by decide) rfl rfl rfl ?_; intro a hE
      refine c_fin ?_
      refine c_cond hE rfl ?_ ?_
      · intro hb10
        have hs7 := ite_t hs7 hb10
        refine wp_skip ?_
        refine c_nx ?_
        refine wp_seq ?_
        refine wp_block ?_
        obtain ⟨j11, hl12, hF13⟩ := bind_some hs7
        refine c_join (fun a w => Env 26 a [(0, v0_1), (1, v1_1), (5, (vI s6)), (25, (vT j11))] ∧ M (Old w0) w0 w []) ?_ ?_
        · skip
          obtain ⟨x15, e16, hl12⟩ := bind_some hl12
          have hi17 := idx_some e16
          obtain ⟨x18, e19, hl12⟩ := bind_some hl12
          have hi20 := idx_some e19
          refine c_draw (n := 26) (hd := [_, _, _, _, _, _, _, _, _]) (tl := []) hmix rfl rfl [17, 18, 19, 20, 21, 22, 23, 24, 25] (by decide) (fun w => M (Old w0) w0 w []) (fun j => ([fun v _ => v = v0_1, fun v _ => v = (vI s6), fun v _ => v = (ptr (sb v0_1) (so v0_1 + (s6).toNat * 1)), fun v _ => v = (vB x15), fun v _ => v = v1_1, fun v _ => v = (vI s6), fun v _ => v = (ptr (sb v1_1) (so v1_1 + (s6).toNat * 1)), fun v _ => v = (vB x18), fun v _ => v = (vT (x15 != x18))] : List (Value → World → Prop)).getD j (fun _ _ => True)) (fun _ _ h hk => h.keep hk) (gup (gupE (gupE (gupE (gupE (gupE (gupE (gupE (gupE (gupE gupN)))))))))) hE hM.drew (steps_of (steps_cons ?_ (steps_cons ?_ (steps_cons ?_ (steps_cons ?_ (steps_cons ?_ (steps_cons ?_ (steps_cons ?_ (steps_cons ?_ (steps_cons ?_ steps_nil)))))))))) ?_
          · intro a w ux14 hE hM hp
            refine s_move hE goes_none (by decide) rfl ?_; intro a hE
            exact ⟨Kept.refl _ _, _, _, rfl, hE, rfl⟩
          · intro a w ux14 hE hM hp
            refine s_move hE goes_none (by decide) rfl ?_; intro a hE
            exact ⟨Kept.refl _ _, _, _, rfl, hE, rfl⟩
          · intro a w ux14 hE hM hp
            have f0 : ux14 0 = v0_1 := hp 0 _ rfl rfl
            have f1 : ux14 1 = (vI s6) := hp 1 _ rfl rfl
            refine s_indexS hE goes_none (by decide) (lk rfl f0) (lk rfl f1) Try.underlying29 ty5 (hM.rd hv0_1) hi17.1 ?_; intro a hE
            exact ⟨Kept.refl _ _, _, _, rfl, hE, rfl⟩
          · intro a w ux14 hE hM hp
            have f2 : ux14 2 = (ptr (sb v0_1) (so v0_1 + (s6).toNat * 1)) := hp 0 _ rfl rfl
            refine s_load (v := (vB x15)) hE goes_none (by decide) (lk rfl f2) ty5 rfl (sl_atF (hM.rd hv0_1) hi17.2) ?_; intro a hE
            exact ⟨Kept.refl _ _, _, _, rfl, hE, rfl⟩
          · intro a w ux14 hE hM hp
            refine s_move hE goes_none (by decide) rfl ?_; intro a hE
            exact ⟨Kept.refl _ _, _, _, rfl, hE, rfl⟩
          · intro a w ux14 hE hM hp
            refine s_move hE goes_none (by decide) rfl ?_; intro a hE
            exact ⟨Kept.refl _ _, _, _, rfl, hE, rfl⟩
          · intro a w ux14 hE hM hp
            have f4 : ux14 4 = v1_1 := hp 0 _ rfl rfl
            have f5 : ux14 5 = (vI s6) := hp 1 _ rfl rfl
            refine s_indexS hE goes_none (by decide) (lk rfl f4) (lk rfl f5) Try.underlying29 ty5 (hM.rd hv1_1) hi20.1 ?_; intro a hE
            exact ⟨Kept.refl _ _, _, _, rfl, hE, rfl⟩
          · intro a w ux14 hE hM hp
            have f6 : ux14 6 = (ptr (sb v1_1) (so v1_1 + (s6).toNat * 1)) := hp 0 _ rfl rfl
            refine s_load (v := (vB x18)) hE goes_none (by decide) (lk rfl f6) ty5 rfl (sl_atF (hM.rd hv1_1) hi20.2) ?_; intro a hE
            exact ⟨Kept.refl _ _, _, _, rfl, hE, rfl⟩
          · intro a w ux14 hE hM hp
            have f3 : ux14 3 = (vB x15) := hp 0 _ rfl rfl
            have f7 : ux14 7 = (vB x18) := hp 1 _ rfl rfl
            refine s_int hE goes_none (by decide) (lk rfl f3) (lk rfl f7) (bB_neq x15 x18) ?_; intro a hE
            exact ⟨Kept.refl _ _, _, _, rfl, hE, rfl⟩
          · intro a w ux14 hE hM hg
            have f0 : ux14 0 = v0_1 := hg 0 (by decide)
            have f1 : ux14 1 = (vI s6) := hg 1 (by decide)
            have f2 : ux14 2 = (ptr (sb v0_1) (so v0_1 + (s6).toNat * 1)) := hg 2 (by decide)
            have f3 : ux14 3 = (vB x15) := hg 3 (by decide)
            have f4 : ux14 4 = v1_1 := hg 4 (by decide)
            have f5 : ux14 5 = (vI s6) := hg 5 (by decide)
            have f6 : ux14 6 = (ptr (sb v1_1) (so v1_1 + (s6).toNat * 1)) := hg 6 (by decide)
            have f7 : ux14 7 = (vB x18) := hg 7 (by decide)
            have f8 : ux14 8 = (vT (x15 != x18)) := hg 8 (by decide)
            have hE := hE.sub (e' := [(17, v0_1), (18, (vI s6)), (19, (ptr (sb v0_1) (so v0_1 + (s6).toNat * 1))), (20, (vB x15)), (21, v1_1), (22, (vI s6)), (23, (ptr (sb v1_1) (so v1_1 + (s6).toNat * 1))), (24, (vB x18)), (25, (vT (x15 != x18))), (0, v0_1), (1, v1_1), (5, (vI s6)), (11, (vI s6)), (12, v0_1), (13, (vI (p0.length : Int))), (14, (vT (decide (s6 < (p0.length : Int)))))]) ⟨lk rfl f0, lk rfl f1, lk rfl f2, lk rfl f3, lk rfl f4, lk rfl f5, lk rfl f6, lk rfl f7, lk rfl f8, rfl, rfl, rfl, rfl, rfl, rfl, rfl, trivial⟩
            refine c_fin0 ?_
            have ht21 := Option.some.inj hl12
            subst ht21
            refine c_mid ?_
            exact ⟨hE.sub ⟨rfl, rfl, rfl, rfl, trivial⟩, hM⟩
        · skip
          rintro a w ⟨hE, hM⟩
          refine c_cond hE rfl ?_ ?_
          · intro hb22
            have hF13 := ite_t hF13 hb22
            refine c_region ?_
            refine s_assign hE goes_none (by decide) rfl ?_; intro a hE
            refine c_fin ?_
            have ht23 := hx8 _ (Option.some.inj hF13).symm
            subst ht23
            have hr := Option.some.inj hF4
            subst hr
            exact wp_ret (r_inb (r_then (r_then (r_inb (r_then (r_then (k_ret1 hE rfl (res_tmp hE rfl) ⟨_, rfl, rfl, hM.kept⟩)))))))
          · intro hb22
            have hF13 := ite_f hF13 hb22
            refine wp_skip ?_
            refine c_nb ?_
            refine c_nx ?_
            refine wp_region_lit ?_
            refine s_move hE goes_none (by decide) rfl ?_; intro a hE
            refine s_int hE goes_none (by decide) rfl rfl rfl ?_; intro a hE
            refine s_assign hE goes_none (by decide) rfl ?_; intro a hE
            refine c_fin0 ?_
            refine c_mid ?_
            exact ⟨_, (Option.some.inj hF13).symm, hE.sub ⟨rfl, rfl, rfl, trivial⟩, hM⟩
      · intro hb10
        have hs7 := ite_f hs7 hb10
        refine wp_exit (e_then (e_then (e_eq ?_)))
        have ht24 := hx8 _ (Option.some.inj hs7).symm
        subst ht24
        refine c_mid ?_
        exact ⟨(), rfl, hE.sub trivial, hM⟩
    · skip
      rintro a w ⟨s5, ht, hE, hM⟩
      subst ht
      refine c_nx ?_
      refine c_region ?_
      refine s_assign hE goes_none (by decide) rfl ?_; intro a hE
      refine c_fin ?_
      have hr := Option.some.inj hF4
      subst hr
      exact wp_ret (k_ret1 hE rfl (res_tmp hE rfl) ⟨_, rfl, rfl, hM.kept⟩)
noncomputable def F_laws_eqShare (p0 : GShare) (p1 : GShare) : Option (Bool) :=
  if (p0.Place != p1.Place) = true then (some false) else ((F_laws_eqByteS p0.Data p1.Data).bind fun (r6 : Bool) => if (!r6) = true then (some false) else (some true))
set_option maxRecDepth 20000 in
set_option maxHeartbeats 400000 in
theorem c_laws_eqShare (w0 : World) (p0 : GShare) (v0_1 : Value) (hv0_1 : Ro w0 p0.Data [v0_1]) (p1 : GShare) (v1_1 : Value) (hv1_1 : Ro w0 p1.Data [v1_1]) (r : Bool) (hF : F_laws_eqShare p0 p1 = some r) :
    Calls Try.prog 64 [(Value.agg (cat [[(vB p0.Place)], [v0_1]]).toArray), (Value.agg (cat [[(vB p1.Place)], [v1_1]]).toArray)].toArray w0 (fun en w' => ∃ v, en = .returned v ∧ (v = (vT r) ∧ Kept (Old w0) w0 w')) := by
  refine c_enter (n := 16) Try.func64 rfl rfl (Nat.le_of_ble_eq_true rfl) rfl ?_
  intro a hE
  have hM := M.start w0
  unfold F_laws_eqShare at hF
  refine c_region ?_
  refine s_box (cs := cat [[(vB p0.Place)], [v0_1]]) hE hM goes_none (by decide) rfl rfl ?_; intro b1 w a hM hE
  refine s_box (cs := cat [[(vB p1.Place)], [v1_1]]) hE hM goes_none (by decide) rfl rfl ?_; intro b3 w a hM hE
  refine s_assign hE goes_none (by decide) rfl ?_; intro a hE
  refine c_fin ?_
  refine wp_seq ?_
  refine c_region ?_
  refine s_fieldAddr hE goes_none (by decide) rfl (fd81_0) ?_; intro a hE
  refine s_load (v := (vB p0.Place)) hE goes_none (by decide) rfl ty5 rfl (At.cat (pre := []) (seg := [(vB p0.Place)]) (post := [[v0_1]]) (hM.rawAt (pre := [_])) cl0) ?_; intro a hE
  refine s_fieldAddr hE goes_none (by decide) rfl (fd81_0) ?_; intro a hE
  refine s_load (v := (vB p1.Place)) hE goes_none (by decide) rfl ty5 rfl (At.cat (pre := []) (seg := [(vB p1.Place)]) (post := [[v1_1]]) (hM.rawAt (pre := [])) cl0) ?_; intro a hE
  refine s_int hE goes_none (by decide) rfl rfl (bB_neq p0.Place p1.Place) ?_; intro a hE
  refine c_fin ?_
  refine c_cond hE rfl ?_ ?_
  · intro hb5
    have hF := ite_t hF hb5
    refine c_region ?_
    refine s_assign hE goes_none (by decide) rfl ?_; intro a hE
    refine c_fin ?_
    have hr := Option.some.inj hF
    subst hr
    have hM := M.fst (l := []) hM
    exact wp_ret (r_then (k_ret1 hE rfl (res_tmp hE rfl) ⟨_, rfl, rfl, hM.kept⟩))
  · intro hb5
    have hF := ite_f hF hb5
    refine wp_skip ?_
    refine c_nx ?_
    refine wp_seq ?_
    refine c_region ?_
    refine s_fieldAddr hE goes_none (by decide) rfl (fd81_1) ?_; intro a hE
    refine s_load (v := v0_1) hE goes_none (by decide) rfl ty29 rfl (At.cat (pre := [[(vB p0.Place)]]) (seg := [v0_1]) (post := []) (hM.rawAt (pre := [_])) (cl1 (n := 1) (m := 0) rfl cl0)) ?_; intro a hE
    refine s_fieldAddr hE goes_none (by decide) rfl (fd81_1) ?_; intro a hE
    refine s_load (v := v1_1) hE goes_none (by decide) rfl ty29 rfl (At.cat (pre := [[(vB p1.Place)]]) (seg := [v1_1]) (post := []) (hM.rawAt (pre := [])) (cl1 (n := 1) (m := 0) rfl cl0)) ?_; intro a hE
    obtain ⟨r6, e7, hF⟩ := bind_some hF
    refine s_call (vs := [v0_1, v1_1]) hE goes_none (by decide) rfl cb21 (c_laws_eqByteS _ p0.Data v0_1 (hM.rdo hv0_1) p1.Data v1_1 (hM.rdo hv1_1) r6 e7) ?_
    rintro v w a ⟨rfl, hK⟩ hE
    have hM := hM.keep hK
    refine s_not hE goes_none (by decide) rfl ?_; intro a hE
    refine c_fin ?_
    refine c_cond hE rfl ?_ ?_
    · intro hb8
      have hF := ite_t hF hb8
      refine c_region ?_
      refine s_assign hE goes_none (by decide) rfl ?_; intro a hE
      refine c_fin ?_
      have hr := Option.some.inj hF
      subst hr
      have hM := M.fst (l := []) hM
      exact wp_ret (r_then (k_ret1 hE rfl (res_tmp hE rfl) ⟨_, rfl, rfl, hM.kept⟩))
    · intro hb8
      have hF := ite_f hF hb8
      refine wp_skip ?_
      refine c_nx ?_
      refine c_region ?_
      refine s_assign hE goes_none (by decide) rfl ?_; intro a hE
      refine c_fin ?_
      have hr := Option.some.inj hF
      subst hr
      have hM := M.fst (l := []) hM
      exact wp_ret (k_ret1 hE rfl (res_tmp hE rfl) ⟨_, rfl, rfl, hM.kept⟩)
noncomputable def L0_laws_eqShareS (p0 : (List GShare)) (p1 : (List GShare)) (s6 : Int) : Option (Fl Int (Fl Unit Bool)) :=
  if (decide (s6 < (p0.length : Int))) = true then (((idx p0 s6).bind fun (x15 : GShare) => (idx p1 s6).bind fun (x23 : GShare) => (F_laws_eqShare x15 x23).bind fun (r31 : Bool) => some (!r31) : Option (Bool)).bind fun (j11 : Bool) => if j11 = true then (some (Fl.ex (Fl.ex false))) else (some (Fl.nx (wr (s6 + 1))))) else (some (Fl.ex (Fl.nx ())))
noncomputable def F_laws_eqShareS (p0 : (List GShare)) (p1 : (List GShare)) : Option (Bool) :=
  if ((p0.length : Int) != (p1.length : Int)) = true then (some false) else ((iter (L0_laws_eqShareS p0 p1) 0 : Option (Fl Unit Bool)).bind fun (j2 : Fl Unit Bool) => j2.el (fun (s5 : Unit) => some true) (fun r => some r))
set_option maxRecDepth 20000 in
set_option maxHeartbeats 400000 in
theorem c_laws_eqShareS (w0 : World) (p0 : (List GShare)) (v0_1 : Value) (hv0_1 : Ro w0 p0 [v0_1]) (p1 : (List GShare)) (v1_1 : Value) (hv1_1 : Ro w0 p1 [v1_1]) (r : Bool) (hF : F_laws_eqShareS p0 p1 = some r) :
    Calls Try.prog 17 [v0_1, v1_1].toArray w0 (fun en w' => ∃ v, en = .returned v ∧ (v = (vT r) ∧ Kept (Old w0) w0 w')) := by
  refine c_enter (n := 27) Try.func17 rfl rfl (Nat.le_of_ble_eq_true rfl) rfl ?_
  intro a hE
  have hM := M.start w0
  unfold F_laws_eqShareS at hF
  refine c_region ?_
  refine s_assign hE goes_none (by decide) rfl ?_; intro a hE
  refine c_fin ?_
  refine wp_seq ?_
  refine c_region ?_
  refine s_move hE goes_none (by decide) rfl ?_; intro a hE
  refine s_len hE goes_none (by decide) rfl Try.underlying25 (hM.rd hv0_1) ?_; intro a hE
  refine s_move hE goes_none (by decide) rfl ?_; intro a hE
  refine s_len hE goes_none (by decide) rfl Try.underlying25 (hM.rd hv1_1) ?_; intro a hE
  refine s_int hE goes_none (by decide) rfl rfl rfl ?_; intro a hE
  refine c_fin ?_
  refine c_cond hE rfl ?_ ?_
  · intro hb1
    have hF := ite_t hF hb1
    refine c_region ?_
    refine s_assign hE goes_none (by decide) rfl ?_; intro a hE
    refine c_fin ?_
    have hr := Option.some.inj hF
    subst hr
    exact wp_ret (r_then (k_ret1 hE rfl (res_tmp hE rfl) ⟨_, rfl, rfl, hM.kept⟩))
  · intro hb1
    have hF := ite_f hF hb1
    refine wp_skip ?_
    refine c_nx ?_
    refine wp_seq ?_
    refine c_region ?_
    refine s_assign hE goes_none (by decide) rfl ?_; intro a hE
    refine c_fin ?_
    obtain ⟨j2, hl3, hF4⟩ := bind_some hF
    refine c_cut (fun a w => ∃ s5 : Unit, j2 = Fl.nx s5 ∧ Env 27 a [] ∧ M (Old w0) w0 w []) ?_ ?_
    · skip
      refine wp_block ?_
      refine c_loop (fun (s6 : Int) a w => Env 27 a [(0, v0_1), (1, v1_1), (5, (vI s6))] ∧ M (Old w0) w0 w []) hl3 ⟨hE.sub ⟨rfl, rfl, rfl, trivial⟩, hM⟩ ?_
      rintro s6 a w ⟨hE, hM⟩ o9 hs7 hx8
      unfold L0_laws_eqShareS at hs7
      refine wp_seq ?_
      refine c_region ?_
      refine s_move hE goes_none (by decide) rfl ?_; intro a hE
      refine s_move hE goes_none (by decide) rfl ?_; intro a hE
      refine s_len hE goes_none (by decide) rfl Try.underlying25 (hM.rd hv0_1) ?_; intro a hE
      refine s_int hE goes_none (by decide) rfl rfl rfl ?_; intro a hE
      refine c_fin ?_
      refine c_cond hE rfl ?_ ?_
      · intro hb10
        have hs7 := ite_t hs7 hb10
        refine wp_skip ?_
        refine c_nx ?_
        refine wp_seq ?_
        refine wp_block ?_
        obtain ⟨j11, hl12, hF13⟩ := bind_some hs7
        refine c_join (fun a w => Env 27 a [(0, v0_1), (1, v1_1), (5, (vI s6)), (26, (vT j11))] ∧ M (Old w0) w0 w []) ?_ ?_
        · skip
          obtain ⟨x15, e16, hl12⟩ := bind_some hl12
          have hi17 := idx_some e16
          obtain ⟨cs18, hs19, hA20⟩ := sl_atRo hv0_1 hi17.2 -- ^
          obtain ⟨u21, rfl, h22⟩ := un_GShare hs19 -- ^
          obtain ⟨x23, e24, hl12⟩ := bind_some hl12
          have hi25 := idx_some e24
          obtain ⟨cs26, hs27, hA28⟩ := sl_atRo hv1_1 hi25.2 -- ^
          obtain ⟨u29, rfl, h30⟩ := un_GShare hs27 -- ^
          obtain ⟨r31, e32, hl12⟩ := bind_some hl12
          refine c_draw (n := 27) (hd := [_, _, _, _, _, _, _, _, _, _]) (tl := []) hmix rfl rfl [17, 18, 19, 20, 21, 22, 23, 24, 25, 26] (by decide) (fun w => M (Old w0) w0 w []) (fun j => ([fun v _ => v = v0_1, fun v _ => v = (vI s6), fun v _ => v = (ptr (sb v0_1) (so v0_1 + (s6).toNat * 2)), fun v _ => v = (Value.agg (cat [[(vB x15.Place)], [u21]]).toArray), fun v _ => v = v1_1, fun v _ => v = (vI s6), fun v _ => v = (ptr (sb v1_1) (so v1_1 + (s6).toNat * 2)), fun v _ => v = (Value.agg (cat [[(vB x23.Place)], [u29]]).toArray), fun v _ => v = (vT r31), fun v _ => v = (vT (!r31))] : List (Value → World → Prop)).getD j (fun _ _ => True)) (fun _ _ h hk => h.keep hk) (gup (gupE (gupE (gupE (gupE (gupE (gupE (gupE (gupE (gupE (gupE gupN))))))))))) hE hM.drew (steps_of (steps_cons ?_ (steps_cons ?_ (steps_cons ?_ (steps_cons ?_ (steps_cons ?_ (steps_cons ?_ (steps_cons ?_ (steps_cons ?_ (steps_cons ?_ (steps_cons ?_ steps_nil))))))))))) ?_
          · intro a w ux14 hE hM hp
            refine s_move hE goes_none (by decide) rfl ?_; intro a hE
            exact ⟨Kept.refl _ _, _, _, rfl, hE, rfl⟩
          · intro a w ux14 hE hM hp
            refine s_move hE goes_none (by decide) rfl ?_; intro a hE
            exact ⟨Kept.refl _ _, _, _, rfl, hE, rfl⟩
          · intro a w ux14 hE hM hp
            have f0 : ux14 0 = v0_1 := hp 0 _ rfl rfl
            have f1 : ux14 1 = (vI s6) := hp 1 _ rfl rfl
            refine s_indexS hE goes_none (by decide) (lk rfl f0) (lk rfl f1) Try.underlying25 ty81 (hM.rd hv0_1) hi17.1 ?_; intro a hE
            exact ⟨Kept.refl _ _, _, _, rfl, hE, rfl⟩
          · intro a w ux14 hE hM hp
            have f2 : ux14 2 = (ptr (sb v0_1) (so v0_1 + (s6).toNat * 2)) := hp 0 _ rfl rfl
            refine s_loadA (cs := cat [[(vB x15.Place)], [u21]]) hE goes_none (by decide) (lk rfl f2) ty81 rfl (hM.atk hA20 (sl_blk hv0_1 hi17.2)) (cat_len (cl1 (n := 1) (m := 1) rfl (cl1 (n := 1) (m := 0) rfl cl0))) ?_; intro a hE
            exact ⟨Kept.refl _ _, _, _, rfl, hE, rfl⟩
          · intro a w ux14 hE hM hp
            refine s_move hE goes_none (by decide) rfl ?_; intro a hE
            exact ⟨Kept.refl _ _, _, _, rfl, hE, rfl⟩
          · intro a w ux14 hE hM hp
            refine s_move hE goes_none (by decide) rfl ?_; intro a hE
            exact ⟨Kept.refl _ _, _, _, rfl, hE, rfl⟩
          · intro a w ux14 hE hM hp
            have f4 : ux14 4 = v1_1 := hp 0 _ rfl rfl
            have f5 : ux14 5 = (vI s6) := hp 1 _ rfl rfl
            refine s_indexS hE goes_none (by decide) (lk rfl f4) (lk rfl f5) Try.underlying25 ty81 (hM.rd hv1_1) hi25.1 ?_; intro a hE
            exact ⟨Kept.refl _ _, _, _, rfl, hE, rfl⟩
          · intro a w ux14 hE hM hp
            have f6 : ux14 6 = (ptr (sb v1_1) (so v1_1 + (s6).toNat * 2)) := hp 0 _ rfl rfl
            refine s_loadA (cs := cat [[(vB x23.Place)], [u29]]) hE goes_none (by decide) (lk rfl f6) ty81 rfl (hM.atk hA28 (sl_blk hv1_1 hi25.2)) (cat_len (cl1 (n := 1) (m := 1) rfl (cl1 (n := 1) (m := 0) rfl cl0))) ?_; intro a hE
            exact ⟨Kept.refl _ _, _, _, rfl, hE, rfl⟩
          · intro a w ux14 hE hM hp
            have f3 : ux14 3 = (Value.agg (cat [[(vB x15.Place)], [u21]]).toArray) := hp 0 _ rfl rfl
            have f7 : ux14 7 = (Value.agg (cat [[(vB x23.Place)], [u29]]).toArray) := hp 1 _ rfl rfl
            refine s_call (vs := [(Value.agg (cat [[(vB x15.Place)], [u21]]).toArray), (Value.agg (cat [[(vB x23.Place)], [u29]]).toArray)]) hE goes_none (by decide) (evs_of (evsC (lk rfl f3) (evsC (lk rfl f7) evsN))) cb64 (c_laws_eqShare _ x15 u21 (hM.rdo h22) x23 u29 (hM.rdo h30) r31 e32) ?_
            rintro v w a ⟨rfl, hK⟩ hE
            exact ⟨hK, _, _, rfl, hE, rfl⟩
          · intro a w ux14 hE hM hp
            have f8 : ux14 8 = (vT r31) := hp 0 _ rfl rfl
            refine s_not hE goes_none (by decide) (lk rfl f8) ?_; intro a hE
            exact ⟨Kept.refl _ _, _, _, rfl, hE, rfl⟩
          · intro a w ux14 hE hM hg
            have f0 : ux14 0 = v0_1 := hg 0 (by decide)
            have f1 : ux14 1 = (vI s6) := hg 1 (by decide)
            have f2 : ux14 2 = (ptr (sb v0_1) (so v0_1 + (s6).toNat * 2)) := hg 2 (by decide)
            have f3 : ux14 3 = (Value.agg (cat [[(vB x15.Place)], [u21]]).toArray) := hg 3 (by decide)
            have f4 : ux14 4 = v1_1 := hg 4 (by decide)
            have f5 : ux14 5 = (vI s6) := hg 5 (by decide)
            have f6 : ux14 6 = (ptr (sb v1_1) (so v1_1 + (s6).toNat * 2)) := hg 6 (by decide)
            have f7 : ux14 7 = (Value.agg (cat [[(vB x23.Place)], [u29]]).toArray) := hg 7 (by decide)
            have f8 : ux14 8 = (vT r31) := hg 8 (by decide)
            have f9 : ux14 9 = (vT (!r31)) := hg 9 (by decide)
            have hE := hE.sub (e' := [(17, v0_1), (18, (vI s6)), (19, (ptr (sb v0_1) (so v0_1 + (s6).toNat * 2))), (20, (Value.agg (cat [[(vB x15.Place)], [u21]]).toArray)), (21, v1_1), (22, (vI s6)), (23, (ptr (sb v1_1) (so v1_1 + (s6).toNat * 2))), (24, (Value.agg (cat [[(vB x23.Place)], [u29]]).toArray)), (25, (vT r31)), (26, (vT (!r31))), (0, v0_1), (1, v1_1), (5, (vI s6)), (11, (vI s6)), (12, v0_1), (13, (vI (p0.length : Int))), (14, (vT (decide (s6 < (p0.length : Int)))))]) ⟨lk rfl f0, lk rfl f1, lk rfl f2, lk rfl f3, lk rfl f4, lk rfl f5, lk rfl f6, lk rfl f7, lk rfl f8, lk rfl f9, rfl, rfl, rfl, rfl, rfl, rfl, rfl, trivial⟩
            refine c_fin0 ?_
            have ht33 := Option.some.inj hl12
            subst ht33
            refine c_mid ?_
            exact ⟨hE.sub ⟨rfl, rfl, rfl, rfl, trivial⟩, hM⟩
        · skip
          rintro a w ⟨hE, hM⟩
          refine c_cond hE rfl ?_ ?_
          · intro hb34
            have hF13 := ite_t hF13 hb34
            refine c_region ?_
            refine s_assign hE goes_none (by decide) rfl ?_; intro a hE
            refine c_fin ?_
            have ht35 := hx8 _ (Option.some.inj hF13).symm
            subst ht35
            have hr := Option.some.inj hF4
            subst hr
            exact wp_ret (r_inb (r_then (r_then (r_inb (r_then (r_then (k_ret1 hE rfl (res_tmp hE rfl) ⟨_, rfl, rfl, hM.kept⟩)))))))
          · intro hb34
            have hF13 := ite_f hF13 hb34
            refine wp_skip ?_
            refine c_nb ?_
            refine c_nx ?_
            refine wp_region_lit ?_
            refine s_move hE goes_none (by decide) rfl ?_; intro a hE
            refine s_int hE goes_none (by decide) rfl rfl rfl ?_; intro a hE
            refine s_assign hE goes_none (by decide) rfl ?_; intro a hE
            refine c_fin0 ?_
            refine c_mid ?_
            exact ⟨_, (Option.some.inj hF13).symm, hE.sub ⟨rfl, rfl, rfl, trivial⟩, hM⟩
      · intro hb10
        have hs7 := ite_f hs7 hb10
        refine wp_exit (e_then (e_then (e_eq ?_)))
        have ht36 := hx8 _ (Option.some.inj hs7).symm
        subst ht36
        refine c_mid ?_
        exact ⟨(), rfl, hE.sub trivial, hM⟩
    · skip
      rintro a w ⟨s5, ht, hE, hM⟩
      subst ht
      refine c_nx ?_
      refine c_region ?_
      refine s_assign hE goes_none (by decide) rfl ?_; intro a hE
      refine c_fin ?_
      have hr := Option.some.inj hF4
      subst hr
      exact wp_ret (k_ret1 hE rfl (res_tmp hE rfl) ⟨_, rfl, rfl, hM.kept⟩)
noncomputable def L0_laws_markByteS (s4 : (List UInt8) × Int × Int) : Option (Fl ((List UInt8) × Int × Int) ((List UInt8) × Int)) :=
  if (decide (s4.2.2 < (s4.1.length : Int))) = true then ((idx s4.1 s4.2.2).bind fun (x9 : UInt8) => some (Fl.nx ((s4.1.set (s4.2.2).toNat (byteI s4.2.1)), wr (s4.2.1 + 1), wr (s4.2.2 + 1)))) else (some (Fl.ex (s4.1, s4.2.1)))
noncomputable def F_laws_markByteS (p0 : (List UInt8)) (p1 : Int) : Option ((List UInt8) × Int) :=
  (iter (L0_laws_markByteS) (p0, p1, 0) : Option ((List UInt8) × Int)).bind fun (j1 : (List UInt8) × Int) => some (j1.1, j1.2)
set_option maxRecDepth 20000 in
set_option maxHeartbeats 400000 in
theorem c_laws_markByteS (St : Nat → Prop) (W w0 : World) (its : List Item) (p0 : (List UInt8)) (v0_1 : Value) (p1 : Int) (hM : M St W w0 (own NoB (p0 : (List UInt8)) [v0_1] :: its)) (r : (List UInt8) × Int) (hF : F_laws_markByteS p0 p1 = some r) :
    Calls Try.prog 22 [v0_1, (vI p1)].toArray w0 (fun en w' => ∃ v, en = .returned v ∧ (v = (vI r.2) ∧ M St W w' (own NoB (r.1 : (List UInt8)) [v0_1] :: its))) := by
  refine c_enter (n := 20) Try.func22 rfl rfl (Nat.le_of_ble_eq_true rfl) rfl ?_
  intro a hE
  unfold F_laws_markByteS at hF
  refine c_region ?_
  refine s_assign hE goes_none (by decide) rfl ?_; intro a hE
  refine c_fin ?_
  refine wp_seq ?_
  refine c_region ?_
  refine s_assign hE goes_none (by decide) rfl ?_; intro a hE
  refine c_fin ?_
  obtain ⟨j1, hl2, hF3⟩ := bind_some hF
  refine c_cut (fun a w => Env 20 a [(0, v0_1), (1, (vI j1.2))] ∧ M St W w (own NoB (j1.1 : (List UInt8)) [v0_1] :: its)) ?_ ?_
  · skip
    refine wp_block ?_
    refine c_loop (fun (s4 : (List UInt8) × Int × Int) a w => Env 20 a [(0, v0_1), (1, (vI s4.2.1)), (5, (vI s4.2.2))] ∧ M St W w (own NoB (s4.1 : (List UInt8)) [v0_1] :: its)) hl2 ⟨hE.sub ⟨rfl, rfl, rfl, trivial⟩, hM⟩ ?_
    rintro s4 a w ⟨hE, hM⟩ o7 hs5 hx6
    unfold L0_laws_markByteS at hs5
    refine wp_seq ?_
    refine c_region ?_
    refine s_move hE goes_none (by decide) rfl ?_; intro a hE
    refine s_move hE goes_none (by decide) rfl ?_; intro a hE
    refine s_len hE goes_none (by decide) rfl Try.underlying29 (hM.ro (pre := []) (fun b hb => hb.elim)) ?_; intro a hE
    refine s_int hE goes_none (by decide) rfl rfl rfl ?_; intro a hE
    refine c_fin ?_
    refine c_cond hE rfl ?_ ?_
    · intro hb8
      have hs5 := ite_t hs5 hb8
      refine wp_skip ?_
      refine c_nx ?_
      refine wp_seq ?_
      refine wp_block ?_
      refine c_region ?_
      refine s_move hE goes_none (by decide) rfl ?_; intro a hE
      refine s_move hE goes_none (by decide) rfl ?_; intro a hE
      refine s_move hE goes_none (by decide) rfl ?_; intro a hE
      refine s_conv hE goes_none (by decide) rfl Try.underlying3 Try.underlying5 ?_; intro a hE
      rw [byteI_val] at hE
      obtain ⟨x9, e10, hs5⟩ := bind_some hs5
      have hi11 := idx_some e10
      refine s_indexS hE goes_none (by decide) rfl rfl Try.underlying29 ty5 (hM.ro (pre := []) (fun b hb => hb.elim)) hi11.1 ?_; intro a hE
      have hM := hM.toOsl (List.getElem?_eq_some_iff.1 hi11.2).1
      refine s_storeS (i := (s4.2.2).toNat) (k0 := 0) (seg := [(vB (byteI s4.2.1))]) (xo := x9) (xn := byteI s4.2.1) hE hM goes_none rfl rfl rfl ty5 rfl (Flat.cell (byteI s4.2.1 : UInt8)) hi11.2 (fit_num (m := 1) rfl (by decide)) (splice_all (Eq.trans rfl (Eq.symm rfl))) ?_; intro w a hM hE
      have hM := hM.toOwn noB
      refine c_fin ?_
      refine wp_region_lit ?_
      refine s_move hE goes_none (by decide) rfl ?_; intro a hE
      refine s_int hE goes_none (by decide) rfl rfl rfl ?_; intro a hE
      refine s_assign hE goes_none (by decide) rfl ?_; intro a hE
      refine c_fin0 ?_
      refine c_nb ?_
      refine c_nx ?_
      refine wp_region_lit ?_
      refine s_move hE goes_none (by decide) rfl ?_; intro a hE
      refine s_int hE goes_none (by decide) rfl rfl rfl ?_; intro a hE
      refine s_assign hE goes_none (by decide) rfl ?_; intro a hE
      refine c_fin0 ?_
      refine c_mid ?_
      exact ⟨_, (Option.some.inj hs5).symm, hE.sub ⟨rfl, rfl, rfl, trivial⟩, hM⟩
    · intro hb8
      have hs5 := ite_f hs5 hb8
      refine wp_exit (e_then (e_then (e_eq ?_)))
      have ht12 := hx6 _ (Option.some.inj hs5).symm
      subst ht12
      refine c_mid ?_
      exact ⟨hE.sub ⟨rfl, rfl, trivial⟩, hM⟩
  · skip
    rintro a w ⟨hE, hM⟩
    refine c_nx ?_
    refine c_region ?_
    refine s_move hE goes_none (by decide) rfl ?_; intro a hE
    refine s_assign hE goes_none (by decide) rfl ?_; intro a hE
    refine c_fin ?_
    have hr := Option.some.inj hF3
    subst hr
    exact wp_ret (k_ret1 hE rfl (res_tmp hE rfl) ⟨_, rfl, rfl, hM⟩)
noncomputable def L0_laws_markShareS (s4 : (List GShare) × Int × Int) : Option (Fl ((List GShare) × Int × Int) ((List GShare) × Int)) :=
  if (decide (s4.2.2 < (s4.1.length : Int))) = true then ((idx s4.1 s4.2.2).bind fun (x9 : GShare) => (idx (s4.1.set (s4.2.2).toNat (⟨byteI s4.2.1, x9.Data⟩ : GShare)) s4.2.2).bind fun (x12 : GShare) => (F_laws_markByteS x12.Data (wr (s4.2.1 + 1))).bind fun (r19 : (List UInt8) × Int) => some (Fl.nx (((s4.1.set (s4.2.2).toNat (⟨byteI s4.2.1, x9.Data⟩ : GShare)).set (s4.2.2).toNat (⟨x12.Place, r19.1⟩ : GShare)), r19.2, wr (s4.2.2 + 1)))) else (some (Fl.ex (s4.1, s4.2.1)))
noncomputable def F_laws_markShareS (p0 : (List GShare)) (p1 : Int) : Option ((List GShare) × Int) :=
  (iter (L0_laws_markShareS) (p0, p1, 0) : Option ((List GShare) × Int)).bind fun (j1 : (List GShare) × Int) => some (j1.1, j1.2)
set_option maxRecDepth 20000 in
set_option maxHeartbeats 400000 in
theorem c_laws_markShareS (St : Nat → Prop) (W w0 : World) (its : List Item) (p0 : (List GShare)) (v0_1 : Value) (p1 : Int) (hM : M St W w0 (own NoB (p0 : (List GShare)) [v0_1] :: its)) (r : (List GShare) × Int) (hF : F_laws_markShareS p0 p1 = some r) :
    Calls Try.prog 35 [v0_1, (vI p1)].toArray w0 (fun en w' => ∃ v, en = .returned v ∧ (v = (vI r.2) ∧ M St W w' (own NoB (r.1 : (List GShare)) [v0_1] :: its))) := by
  refine c_enter (n := 28) Try.func35 rfl rfl (Nat.le_of_ble_eq_true rfl) rfl ?_
  intro a hE
  unfold F_laws_markShareS at hF
  refine c_region ?_
  refine s_assign hE goes_none (by decide) rfl ?_; intro a hE
  refine c_fin ?_
  refine wp_seq ?_
  refine c_region ?_
  refine s_assign hE goes_none (by decide) rfl ?_; intro a hE
  refine c_fin ?_
  obtain ⟨j1, hl2, hF3⟩ := bind_some hF
  refine c_cut (fun a w => Env 28 a [(0, v0_1), (1, (vI j1.2))] ∧ M St W w (own NoB (j1.1 : (List GShare)) [v0_1] :: its)) ?_ ?_
  · skip
    refine wp_block ?_
    refine c_loop (fun (s4 : (List GShare) × Int × Int) a w => Env 28 a [(0, v0_1), (1, (vI s4.2.1)), (5, (vI s4.2.2))] ∧ M St W w (own NoB (s4.1 : (List GShare)) [v0_1] :: its)) hl2 ⟨hE.sub ⟨rfl, rfl, rfl, trivial⟩, hM⟩ ?_
    rintro s4 a w ⟨hE, hM⟩ o7 hs5 hx6
    unfold L0_laws_markShareS at hs5
    refine wp_seq ?_
    refine c_region ?_
    refine s_move hE goes_none (by decide) rfl ?_; intro a hE
    refine s_move hE goes_none (by decide) rfl ?_; intro a hE
    refine s_len hE goes_none (by decide) rfl Try.underlying25 (hM.ro (pre := []) (fun b hb => hb.elim)) ?_; intro a hE
    refine s_int hE goes_none (by decide) rfl rfl rfl ?_; intro a hE
    refine c_fin ?_
    refine c_cond hE rfl ?_ ?_
    · intro hb8
      have hs5 := ite_t hs5 hb8
      refine wp_skip ?_
      refine c_nx ?_
      refine wp_seq ?_
      refine wp_block ?_
      refine c_region ?_
      refine s_move hE goes_none (by decide) rfl ?_; intro a hE
      refine s_move hE goes_none (by decide) rfl ?_; intro a hE
      refine s_move hE goes_none (by decide) rfl ?_; intro a hE
      refine s_conv hE goes_none (by decide) rfl Try.underlying3 Try.underlying5 ?_; intro a hE
      rw [byteI_val] at hE
      obtain ⟨x9, e10, hs5⟩ := bind_some hs5
      have hi11 := idx_some e10
      refine s_indexS hE goes_none (by decide) rfl rfl Try.underlying25 ty81 (hM.ro (pre := []) (fun b hb => hb.elim)) hi11.1 ?_; intro a hE
      refine s_fieldAddr hE goes_none (by decide) rfl (fd81_0) ?_; intro a hE
      have hM := hM.toOsl (List.getElem?_eq_some_iff.1 hi11.2).1
      refine s_storeRF (i := (s4.2.2).toNat) (k0 := 0 + 0) (seg := [(vB (byteI s4.2.1))]) (xo := x9) (xn := (⟨byteI s4.2.1, x9.Data⟩ : GShare)) hE hM noB goes_none rfl rfl rfl ty5 rfl (Flat.cell (byteI s4.2.1 : UInt8)) hi11.2 (fit_num (m := 1) rfl (by decide)) (fun S w cs f h => by obtain ⟨y1, _, rfl, rfl, s1⟩ := unf_GShare h; exact sat_cast (splice_cat (pre := []) (seg := [(vB x9.Place)]) (post := [[y1]]) cl0 (Eq.trans rfl (Eq.symm rfl))) (pk_GShare s1 (by simp))) ?_; intro w a hM hE
      have hM := hM.toOwn noB
      refine c_fin ?_
      refine c_region ?_
      refine s_move hE goes_none (by decide) rfl ?_; intro a hE
      refine s_int hE goes_none (by decide) rfl rfl rfl ?_; intro a hE
      refine s_assign hE goes_none (by decide) rfl ?_; intro a hE
      refine c_fin ?_
      refine wp_region_lit ?_
      refine s_move hE goes_none (by decide) rfl ?_; intro a hE
      refine s_move hE goes_none (by decide) rfl ?_; intro a hE
      obtain ⟨x12, e13, hs5⟩ := bind_some hs5
      have hi14 := idx_some e13
      refine s_indexS hE goes_none (by decide) rfl rfl Try.underlying25 ty81 (hM.ro (pre := []) (fun b hb => hb.elim)) hi14.1 ?_; intro a hE
      refine s_fieldAddr hE goes_none (by decide) rfl (fd81_1) ?_; intro a hE
      have hM := (hM.toOsl (List.getElem?_eq_some_iff.1 hi14.2).1).open1 noB hi14.2
      obtain ⟨cs15, hM, hA16⟩ := hM
      obtain ⟨_, hx, _⟩ := hM.head
      obtain ⟨u17, _, rfl, _, _⟩ := unf_GShare hx
      have hM := hM.unpackL (m := [own NoB (x12.Data : (List UInt8)) [u17]]) (fun fp h => by obtain ⟨_, rfl, s1⟩ := unc_GShare h; exact SepR.one (own_loc noB) s1)
      simp only [List.cons_append, List.nil_append] at hM
      refine s_load (v := u17) hE goes_none (by decide) rfl ty29 rfl (At.cat (pre := [[(vB x12.Place)]]) (seg := [u17]) (post := []) hA16 (cl1 (n := 1) (m := 0) rfl cl0)) ?_; intro a hE
      refine s_move hE goes_none (by decide) rfl ?_; intro a hE
      obtain ⟨r19, e20, hs5⟩ := bind_some hs5
      refine s_call (vs := [u17, (vI (wr (s4.2.1 + 1)))]) hE goes_none (by decide) rfl cb22 (c_laws_markByteS _ _ _ _ x12.Data u17 (wr (s4.2.1 + 1)) hM r19 e20) ?_
      rintro v w a ⟨rfl, hM⟩ hE
      have hM := hM.pull (pre := [_])
      have hM := hM.pull (pre := [_])
      have hM := hM.packL (m := [own NoB (r19.1 : (List UInt8)) [u17]]) (it := own NoB (⟨x12.Place, r19.1⟩ : GShare) (cat [[(vB x12.Place)], [u17]])) (own_loc noB) (fun fp h => by obtain ⟨_, _, rfl, _, s1, rfl⟩ := h; exact pk_GShare s1 (by simp))
      have hM := (hM.close1 noB).toOwn noB
      refine s_assign hE goes_none (by decide) rfl ?_; intro a hE
      refine c_fin0 ?_
      refine c_nb ?_
      refine c_nx ?_
      refine wp_region_lit ?_
      refine s_move hE goes_none (by decide) rfl ?_; intro a hE
      refine s_int hE goes_none (by decide) rfl rfl rfl ?_; intro a hE
      refine s_assign hE goes_none (by decide) rfl ?_; intro a hE
      refine c_fin0 ?_
      refine c_mid ?_
      exact ⟨_, (Option.some.inj hs5).symm, hE.sub ⟨rfl, rfl, rfl, trivial⟩, hM⟩
    · intro hb8
      have hs5 := ite_f hs5 hb8
      refine wp_exit (e_then (e_then (e_eq ?_)))
      have ht21 := hx6 _ (Option.some.inj hs5).symm
      subst ht21
      refine c_mid ?_
      exact ⟨hE.sub ⟨rfl, rfl, trivial⟩, hM⟩
  · skip
    rintro a w ⟨hE, hM⟩
    refine c_nx ?_
    refine c_region ?_
    refine s_move hE goes_none (by decide) rfl ?_; intro a hE
    refine s_assign hE goes_none (by decide) rfl ?_; intro a hE
    refine c_fin ?_
    have hr := Option.some.inj hF3
    subst hr
    exact wp_ret (k_ret1 hE rfl (res_tmp hE rfl) ⟨_, rfl, rfl, hM⟩)
noncomputable def L0_laws_heldByteS (p0 : (List UInt8)) (s5 : Int × Int) : Option (Fl (Int × Int) (Fl Int Int)) :=
  if (decide (s5.2 < (p0.length : Int))) = true then ((idx p0 s5.2).bind fun (x10 : UInt8) => if (x10 != (byteI s5.1)) = true then (some (Fl.ex (Fl.ex (-1)))) else (some (Fl.nx (wr (s5.1 + 1), wr (s5.2 + 1))))) else (some (Fl.ex (Fl.nx s5.1)))
noncomputable def F_laws_heldByteS (p0 : (List UInt8)) (p1 : Int) : Option (Int) :=
  (iter (L0_laws_heldByteS p0) (p1, 0) : Option (Fl Int Int)).bind fun (j1 : Fl Int Int) => j1.el (fun (s4 : Int) => some s4) (fun r => some r)
set_option maxRecDepth 20000 in
set_option maxHeartbeats 400000 in
theorem c_laws_heldByteS (w0 : World) (p0 : (List UInt8)) (v0_1 : Value) (hv0_1 : Ro w0 p0 [v0_1]) (p1 : Int) (r : Int) (hF : F_laws_heldByteS p0 p1 = some r) :
    Calls Try.prog 23 [v0_1, (vI p1)].toArray w0 (fun en w' => ∃ v, en = .returned v ∧ (v = (vI r) ∧ Kept (Old w0) w0 w')) := by
  refine c_enter (n := 22) Try.func23 rfl rfl (Nat.le_of_ble_eq_true rfl) rfl ?_
  intro a hE
  have hM := M.start w0
  unfold F_laws_heldByteS at hF
  refine c_region ?_
  refine s_assign hE goes_none (by decide) rfl ?_; intro a hE
  refine c_fin ?_
  refine wp_seq ?_
  refine c_region ?_
  refine s_assign hE goes_none (by decide) rfl ?_; intro a hE
  refine c_fin ?_
  obtain ⟨j1, hl2, hF3⟩ := bind_some hF
  refine c_cut (fun a w => ∃ s4 : Int, j1 = Fl.nx s4 ∧ Env 22 a [(1, (vI s4))] ∧ M (Old w0) w0 w []) ?_ ?_
  · skip
    refine wp_block ?_
    refine c_loop (fun (s5 : Int × Int) a w => Env 22 a [(0, v0_1), (1, (vI s5.1)), (5, (vI s5.2))] ∧ M (Old w0) w0 w []) hl2 ⟨hE.sub ⟨rfl, rfl, rfl, trivial⟩, hM⟩ ?_
    rintro s5 a w ⟨hE, hM⟩ o8 hs6 hx7
    unfold L0_laws_heldByteS at hs6
    refine wp_seq ?_
    refine c_region ?_
    refine s_move hE goes_none (by decide) rfl ?_; intro a hE
    refine s_move hE goes_none (by decide) rfl ?_; intro a hE
    refine s_len hE goes_none (by decide) rfl Try.underlying29 (hM.rd hv0_1) ?_; intro a hE
    refine s_int hE goes_none (by decide) rfl rfl rfl ?_; intro a hE
    refine c_fin ?_
    refine c_cond hE rfl ?_ ?_
    · intro hb9
      have hs6 := ite_t hs6 hb9
      refine wp_skip ?_
      refine c_nx ?_
      refine wp_seq ?_
      refine wp_block ?_
      refine wp_seq ?_
      refine c_region ?_
      refine s_move hE goes_none (by decide) rfl ?_; intro a hE
      refine s_move hE goes_none (by decide) rfl ?_; intro a hE
      obtain ⟨x10, e11, hs6⟩ := bind_some hs6
      have hi12 := idx_some e11
      refine s_indexS hE goes_none (by decide) rfl rfl Try.underlying29 ty5 (hM.rd hv0_1) hi12.1 ?_; intro a hE
      refine s_load (v := (vB x10)) hE goes_none (by decide) rfl ty5 rfl (sl_atF (hM.rd hv0_1) hi12.2) ?_; intro a hE
      refine s_move hE goes_none (by decide) rfl ?_; intro a hE
      refine s_conv hE goes_none (by decide) rfl Try.underlying3 Try.underlying5 ?_; intro a hE
      rw [byteI_val] at hE
      refine s_int hE goes_none (by decide) rfl rfl (bB_neq x10 (byteI s5.1)) ?_; intro a hE
      refine c_fin ?_
      refine c_cond hE rfl ?_ ?_
      · intro hb13
        have hs6 := ite_t hs6 hb13
        refine c_region ?_
        refine s_assign hE goes_none (by decide) rfl ?_; intro a hE
        refine c_fin ?_
        have ht14 := hx7 _ (Option.some.inj hs6).symm
        subst ht14
        have hr := Option.some.inj hF3
        subst hr
        exact wp_ret (r_then (r_inb (r_then (r_then (r_inb (r_then (r_then (k_ret1 hE rfl (res_tmp hE rfl) ⟨_, rfl, rfl, hM.kept⟩))))))))
      · intro hb13
        have hs6 := ite_f hs6 hb13
        refine wp_skip ?_
        refine c_nx ?_
        refine wp_region_lit ?_
        refine s_move hE goes_none (by decide) rfl ?_; intro a hE
        refine s_int hE goes_none (by decide) rfl rfl rfl ?_; intro a hE
        refine s_assign hE goes_none (by decide) rfl ?_; intro a hE
        refine c_fin0 ?_
        refine c_nb ?_
        refine c_nx ?_
        refine wp_region_lit ?_
        refine s_move hE goes_none (by decide) rfl ?_; intro a hE
        refine s_int hE goes_none (by decide) rfl rfl rfl ?_; intro a hE
        refine s_assign hE goes_none (by decide) rfl ?_; intro a hE
        refine c_fin0 ?_
        refine c_mid ?_
        exact ⟨_, (Option.some.inj hs6).symm, hE.sub ⟨rfl, rfl, rfl, trivial⟩, hM⟩
    · intro hb9
      have hs6 := ite_f hs6 hb9
      refine wp_exit (e_then (e_then (e_eq ?_)))
      have ht15 := hx7 _ (Option.some.inj hs6).symm
      subst ht15
      refine c_mid ?_
      exact ⟨s5.1, rfl, hE.sub ⟨rfl, trivial⟩, hM⟩
  · skip
    rintro a w ⟨s4, ht, hE, hM⟩
    subst ht
    refine c_nx ?_
    refine c_region ?_
    refine s_move hE goes_none (by decide) rfl ?_; intro a hE
    refine s_assign hE goes_none (by decide) rfl ?_; intro a hE
    refine c_fin ?_
    have hr := Option.some.inj hF3
    subst hr
    exact wp_ret (k_ret1 hE rfl (res_tmp hE rfl) ⟨_, rfl, rfl, hM.kept⟩)
noncomputable def F_laws_FnExactRecoverData (p0 : Int) (p1 : (List GShare)) (p2 : Int) : Option (Bool) :=
  (F_laws_szShareS p1 1048576).bind fun (r1 : Int) => if (decide (r1 < 0)) = true then (some true) else ((F_laws_toShareS p1).bind fun (r4 : (List GShare)) => (F_spec_RecoverData p0 r4 p2).bind fun (r7 : (List UInt8) × Int) => (F_laws_toShareS p1).bind fun (r10 : (List GShare)) => (F_impl_RecoverData p0 r10 p2).bind fun (r13 : (List UInt8) × Int) => ((F_laws_eqByteS r13.1 r7.1).bind fun (r19 : Bool) => if (!r19) = true then (some true) else (some (r13.2 != r7.2)) : Option (Bool)).bind fun (j16 : Bool) => if j16 = true then (some false) else ((F_laws_toShareS p1).bind fun (r25 : (List GShare)) => (F_laws_eqShareS r10 r25).bind fun (r28 : Bool) => if (!r28) = true then (some false) else ((F_laws_markShareS r10 1).bind fun (r31 : (List GShare) × Int) => (if (decide (r31.2 < 0)) = true then (some true) else ((F_laws_eqByteS r13.1 r7.1).bind fun (r38 : Bool) => if (!r38) = true then (some true) else (some (r13.2 != r7.2))) : Option (Bool)).bind fun (j33 : Bool) => if j33 = true then (some false) else ((F_laws_markByteS r13.1 1).bind fun (r44 : (List UInt8) × Int) => (F_laws_heldByteS r44.1 1).bind fun (r46 : Int) => if (decide (r46 < 0)) = true then (some false) else (if (r46 != r44.2) = true then (some false) else ((F_laws_toShareS p1).bind fun (r50 : (List GShare)) => (F_impl_RecoverData p0 r50 p2).bind fun (r53 : (List UInt8) × Int) => ((F_laws_eqByteS r53.1 r7.1).bind fun (r59 : Bool) => if (!r59) = true then (some true) else (some (r53.2 != r7.2)) : Option (Bool)).bind fun (j56 : Bool) => if j56 = true then (some false) else ((F_laws_heldByteS r44.1 1).bind fun (r65 : Int) => if (decide (r65 < 0)) = true then (some false) else (if (r65 != r44.2) = true then (some false) else (some true)))))))))
set_option maxRecDepth 20000 in
set_option maxHeartbeats 400000 in
theorem c_laws_FnExactRecoverData (w0 : World) (p0 : Int) (p1 : (List GShare)) (v1_1 : Value) (hv1_1 : Ro w0 p1 [v1_1]) (p2 : Int) (r : Bool) (hF : F_laws_FnExactRecoverData p0 p1 p2 = some r) :
    Calls Try.prog 11 [(vI p0), v1_1, (vI p2)].toArray w0 (fun en w' => ∃ v, en = .returned v ∧ (v = (vT r) ∧ Kept (Old w0) w0 w')) := by
  refine c_enter (n := 106) Try.func11 rfl rfl (Nat.le_of_ble_eq_true rfl) rfl ?_
  intro a hE
  have hM := M.start w0
  unfold F_laws_FnExactRecoverData at hF
  refine c_region ?_
  refine s_assign hE goes_none (by decide) rfl ?_; intro a hE
  refine c_fin ?_
  refine c_region ?_
  refine s_assign hE goes_none (by decide) rfl ?_; intro a hE
  refine c_fin ?_
  refine c_region ?_
  refine s_move hE goes_none (by decide) rfl ?_; intro a hE
  refine s_move hE goes_none (by decide) rfl ?_; intro a hE
  obtain ⟨r1, e2, hF⟩ := bind_some hF
  refine s_call (vs := [v1_1, (vI 1048576)]) hE goes_none (by decide) rfl cb13 (c_laws_szShareS _ p1 v1_1 (hM.rdo hv1_1) 1048576 r1 e2) ?_
  rintro v w a ⟨rfl, hK⟩ hE
  have hM := hM.keep hK
  refine s_assign hE goes_none (by decide) rfl ?_; intro a hE
  refine c_fin ?_
  refine wp_seq ?_
  refine c_region ?_
  refine s_move hE goes_none (by decide) rfl ?_; intro a hE
  refine s_int hE goes_none (by decide) rfl rfl rfl ?_; intro a hE
  refine c_fin ?_
  refine c_cond hE rfl ?_ ?_
  · intro hb3
    have hF := ite_t hF hb3
    refine c_region ?_
    refine s_assign hE goes_none (by decide) rfl ?_; intro a hE
    refine c_fin ?_
    have hr := Option.some.inj hF
    subst hr
    exact wp_ret (r_then (k_ret1 hE rfl (res_tmp hE rfl) ⟨_, rfl, rfl, hM.kept⟩))
  · intro hb3
    have hF := ite_f hF hb3
    refine wp_skip ?_
    refine c_nx ?_
    refine c_region ?_
    refine s_move hE goes_none (by decide) rfl ?_; intro a hE
    refine s_move hE goes_none (by decide) rfl ?_; intro a hE
    obtain ⟨r4, e5, hF⟩ := bind_some hF
    refine s_call (vs := [v1_1]) hE goes_none (by decide) rfl cb15 (c_laws_toShareS _ p1 v1_1 (hM.rdo hv1_1) r4 e5) ?_
    rintro u6 w a ⟨_, rfl, hFr, hK⟩ hE
    have hM := hM.add hK hFr
    refine s_move hE goes_none (by decide) rfl ?_; intro a hE
    obtain ⟨r7, e8, hF⟩ := bind_some hF
    refine s_call (vs := [(vI p0), u6, (vI p2)]) hE goes_none (by decide) rfl cb49 (c_spec_RecoverData _ p0 r4 u6 (hM.sl (pre := []) noB) p2 r7 e8) ?_
    rintro v w a ⟨u9, rfl, hFr, hK⟩ hE
    have hM := hM.add hK hFr
    refine s_move hE goes_none (by decide) rfl ?_; intro a hE
    refine s_extract hE goes_none (by decide) rfl rfl ?_; intro a hE
    refine s_extract hE goes_none (by decide) rfl rfl ?_; intro a hE
    refine s_assign hE goes_none (by decide) rfl ?_; intro a hE
    refine s_assign hE goes_none (by decide) rfl ?_; intro a hE
    refine c_fin ?_
    refine c_region ?_
    refine s_move hE goes_none (by decide) rfl ?_; intro a hE
    obtain ⟨r10, e11, hF⟩ := bind_some hF
    refine s_call (vs := [v1_1]) hE goes_none (by decide) rfl cb15 (c_laws_toShareS _ p1 v1_1 (hM.rdo hv1_1) r10 e11) ?_
    rintro u12 w a ⟨_, rfl, hFr, hK⟩ hE
    have hM := hM.add hK hFr
    refine s_assign hE goes_none (by decide) rfl ?_; intro a hE
    refine c_fin ?_
    refine c_region ?_
    refine s_move hE goes_none (by decide) rfl ?_; intro a hE
    refine s_move hE goes_none (by decide) rfl ?_; intro a hE
    refine s_move hE goes_none (by decide) rfl ?_; intro a hE
    obtain ⟨r13, e14, hF⟩ := bind_some hF
    refine s_call (vs := [(vI p0), u12, (vI p2)]) hE goes_none (by decide) rfl cb50 (c_impl_RecoverData _ p0 r10 u12 (hM.sl (pre := []) noB) p2 r13 e14) ?_
    rintro v w a ⟨u15, rfl, hFr, hK⟩ hE
    have hM := hM.add hK hFr
    refine s_move hE goes_none (by decide) rfl ?_; intro a hE
    refine s_extract hE goes_none (by decide) rfl rfl ?_; intro a hE
    refine s_extract hE goes_none (by decide) rfl rfl ?_; intro a hE
    refine s_assign hE goes_none (by decide) rfl ?_; intro a hE
    refine s_assign hE goes_none (by decide) rfl ?_; intro a hE
    refine c_fin ?_
    refine wp_seq ?_
    obtain ⟨j16, hl17, hF18⟩ := bind_some hF
    refine c_join (fun a w => Env 106 a [(0, (vI p0)), (1, v1_1), (2, (vI p2)), (8, u9), (9, (vI r7.2)), (10, u12), (11, u15), (12, (vI r13.2)), (48, (vT j16))] ∧ M (Old w0) w0 w [osl NoB (r13.1 : List UInt8) u15, osl NoB (r10 : List GShare) u12, osl NoB (r7.1 : List UInt8) u9]) ?_ ?_
    · skip
      refine wp_region_lit ?_
      refine s_move hE goes_none (by decide) rfl ?_; intro a hE
      refine s_move hE goes_none (by decide) rfl ?_; intro a hE
      obtain ⟨r19, e20, hl17⟩ := bind_some hl17
      refine s_call (vs := [u15, u9]) hE goes_none (by decide) rfl cb21 (c_laws_eqByteS _ r13.1 u15 (hM.sl (pre := []) noB) r7.1 u9 (hM.sl (pre := [_, _]) noB) r19 e20) ?_
      rintro v w a ⟨rfl, hK⟩ hE
      have hM := hM.keep hK
      refine s_not hE goes_none (by decide) rfl ?_; intro a hE
      refine s_move hE goes_none (by decide) rfl ?_; intro a hE
      refine splitB (!r19) (fun hb21 => ?_) (fun hb21 => ?_)
      · have hl17 := ite_t hl17 hb21
        refine s_skip hE rfl (lkb rfl hb21) rfl (by decide) ?_; intro a hE
        refine s_skip hE rfl (lkb rfl hb21) rfl (by decide) ?_; intro a hE
        refine s_skip hE rfl (lkb rfl hb21) rfl (by decide) ?_; intro a hE
        refine s_pickT hE goes_none (by decide) (lkb rfl hb21) rfl ?_; intro a hE
        refine c_fin0 ?_
        have ht22 := Option.some.inj hl17
        subst ht22
        refine c_mid ?_
        have hM := hM.pull (pre := [_, _])
        have hM := hM.pull (pre := [_, _])
        have hM := hM.pull (pre := [_, _])
        have hM := M.fst (l := [_, _, _]) hM
        exact ⟨hE.sub ⟨rfl, rfl, rfl, rfl, rfl, rfl, rfl, rfl, rfl, trivial⟩, hM⟩
      · have hl17 := ite_f hl17 hb21
        refine s_move hE (goes_yes hE rfl (lkb rfl hb21)) (by decide) rfl ?_; intro a hE
        refine s_move hE (goes_yes hE rfl (lkb rfl hb21)) (by decide) rfl ?_; intro a hE
        refine s_int hE (goes_yes hE rfl (lkb rfl hb21)) (by decide) rfl rfl rfl ?_; intro a hE
        refine s_pickF hE goes_none (by decide) (lkb rfl hb21) rfl ?_; intro a hE
        refine c_fin0 ?_
        have ht23 := Option.some.inj hl17
        subst ht23
        refine c_mid ?_
        have hM := hM.pull (pre := [_, _])
        have hM := hM.pull (pre := [_, _])
        have hM := hM.pull (pre := [_, _])
        have hM := M.fst (l := [_, _, _]) hM
        exact ⟨hE.sub ⟨rfl, rfl, rfl, rfl, rfl, rfl, rfl, rfl, rfl, trivial⟩, hM⟩
    · skip
      rintro a w ⟨hE, hM⟩
      refine c_cond hE rfl ?_ ?_
      · intro hb24
        have hF18 := ite_t hF18 hb24
        refine c_region ?_
        refine s_assign hE goes_none (by decide) rfl ?_; intro a hE
        refine c_fin ?_
        have hr := Option.some.inj hF18
        subst hr
        have hM := M.fst (l := []) hM
        exact wp_ret (r_then (k_ret1 hE rfl (res_tmp hE rfl) ⟨_, rfl, rfl, hM.kept⟩))
      · intro hb24
        have hF18 := ite_f hF18 hb24
        refine wp_skip ?_
        refine c_nx ?_
        refine wp_seq ?_
        refine c_region ?_
        refine s_move hE goes_none (by decide) rfl ?_; intro a hE
        refine s_move hE goes_none (by decide) rfl ?_; intro a hE
        obtain ⟨r25, e26, hF18⟩ := bind_some hF18
        refine s_call (vs := [v1_1]) hE goes_none (by decide) rfl cb15 (c_laws_toShareS _ p1 v1_1 (hM.rdo hv1_1) r25 e26) ?_
        rintro u27 w a ⟨_, rfl, hFr, hK⟩ hE
        have hM := hM.add hK hFr
        obtain ⟨r28, e29, hF18⟩ := bind_some hF18
        refine s_call (vs := [u12, u27]) hE goes_none (by decide) rfl cb17 (c_laws_eqShareS _ r10 u12 (hM.sl (pre := [_, _]) noB) r25 u27 (hM.sl (pre := []) noB) r28 e29) ?_
        rintro v w a ⟨rfl, hK⟩ hE
        have hM := hM.keep hK
        refine s_not hE goes_none (by decide) rfl ?_; intro a hE
        refine c_fin ?_
        refine c_cond hE rfl ?_ ?_
        · intro hb30
          have hF18 := ite_t hF18 hb30
          refine c_region ?_
          refine s_assign hE goes_none (by decide) rfl ?_; intro a hE
          refine c_fin ?_
          have hr := Option.some.inj hF18
          subst hr
          have hM := M.fst (l := []) hM
          exact wp_ret (r_then (k_ret1 hE rfl (res_tmp hE rfl) ⟨_, rfl, rfl, hM.kept⟩))
        · intro hb30
          have hF18 := ite_f hF18 hb30
          refine wp_skip ?_
          refine c_nx ?_
          refine c_region ?_
          refine s_assign hE goes_none (by decide) rfl ?_; intro a hE
          refine c_fin ?_
          refine c_region ?_
          refine s_move hE goes_none (by decide) rfl ?_; intro a hE
          refine s_move hE goes_none (by decide) rfl ?_; intro a hE
          have hM := hM.pull (pre := [_, _])
          have hM := hM.toOwn noB
          obtain ⟨r31, e32, hF18⟩ := bind_some hF18
          refine s_call (vs := [u12, (vI 1)]) hE goes_none (by decide) rfl cb35 (c_laws_markShareS _ _ _ _ r10 u12 1 hM r31 e32) ?_
          rintro v w a ⟨rfl, hM⟩ hE
          refine s_assign hE goes_none (by decide) rfl ?_; intro a hE
          refine c_fin ?_
          refine wp_seq ?_
          obtain ⟨j33, hl34, hF35⟩ := bind_some hF18
          refine c_join (fun a w => Env 106 a [(0, (vI p0)), (1, v1_1), (2, (vI p2)), (8, u9), (9, (vI r7.2)), (11, u15), (69, (vT j33))] ∧ M (Old w0) w0 w [osl NoB (r13.1 : List UInt8) u15, osl NoB (r7.1 : List UInt8) u9]) ?_ ?_
          · skip
            refine wp_region_lit ?_
            refine s_move hE goes_none (by decide) rfl ?_; intro a hE
            refine s_int hE goes_none (by decide) rfl rfl rfl ?_; intro a hE
            refine s_move hE goes_none (by decide) rfl ?_; intro a hE
            refine splitB (decide (r31.2 < 0)) (fun hb36 => ?_) (fun hb36 => ?_)
            · have hl34 := ite_t hl34 hb36
              refine s_skip hE rfl (lkb rfl hb36) rfl (by decide) ?_; intro a hE
              refine s_skip hE rfl (lkb rfl hb36) rfl (by decide) ?_; intro a hE
              refine s_skip hE rfl (lkb rfl hb36) rfl (by decide) ?_; intro a hE
              refine s_skip hE rfl (lkb rfl hb36) rfl (by decide) ?_; intro a hE
              refine s_pickT hE goes_none (by decide) (lkb rfl hb36) rfl ?_; intro a hE
              refine s_move hE goes_none (by decide) rfl ?_; intro a hE
              refine s_skip hE rfl rfl rfl (by decide) ?_; intro a hE
              refine s_skip hE rfl rfl rfl (by decide) ?_; intro a hE
              refine s_skip hE rfl rfl rfl (by decide) ?_; intro a hE
              refine s_pickT hE goes_none (by decide) rfl rfl ?_; intro a hE
              refine c_fin0 ?_
              have ht37 := Option.some.inj hl34
              subst ht37
              refine c_mid ?_
              have hM := hM.pull (pre := [_, _, _])
              have hM := hM.pull (pre := [_, _, _])
              have hM := M.fst (l := [_, _]) hM
              exact ⟨hE.sub ⟨rfl, rfl, rfl, rfl, rfl, rfl, rfl, trivial⟩, hM⟩
            · have hl34 := ite_f hl34 hb36
              refine s_move hE (goes_yes hE rfl (lkb rfl hb36)) (by decide) rfl ?_; intro a hE
              refine s_move hE (goes_yes hE rfl (lkb rfl hb36)) (by decide) rfl ?_; intro a hE
              obtain ⟨r38, e39, hl34⟩ := bind_some hl34
              refine s_call (vs := [u15, u9]) hE (goes_yes hE rfl (lkb rfl hb36)) (by decide) rfl cb21 (c_laws_eqByteS _ r13.1 u15 (hM.sl (pre := [_, _]) noB) r7.1 u9 (hM.sl (pre := [_, _, _]) noB) r38 e39) ?_
              rintro v w a ⟨rfl, hK⟩ hE
              have hM := hM.keep hK
              refine s_not hE (goes_yes hE rfl (lkb rfl hb36)) (by decide) rfl ?_; intro a hE
              refine s_pickF hE goes_none (by decide) (lkb rfl hb36) rfl ?_; intro a hE
              refine s_move hE goes_none (by decide) rfl ?_; intro a hE
              refine splitB (!r38) (fun hb40 => ?_) (fun hb40 => ?_)
              · have hl34 := ite_t hl34 hb40
                refine s_skip hE rfl (lkb rfl hb40) rfl (by decide) ?_; intro a hE
                refine s_skip hE rfl (lkb rfl hb40) rfl (by decide) ?_; intro a hE
                refine s_skip hE rfl (lkb rfl hb40) rfl (by decide) ?_; intro a hE
                refine s_pickT hE goes_none (by decide) (lkb rfl hb40) rfl ?_; intro a hE
                refine c_fin0 ?_
                have ht41 := Option.some.inj hl34
                subst ht41
                refine c_mid ?_
                have hM := hM.pull (pre := [_, _, _])
                have hM := hM.pull (pre := [_, _, _])
                have hM := M.fst (l := [_, _]) hM
                exact ⟨hE.sub ⟨rfl, rfl, rfl, rfl, rfl, rfl, rfl, trivial⟩, hM⟩
              · have hl34 := ite_f hl34 hb40
                refine s_move hE (goes_yes hE rfl (lkb rfl hb40)) (by decide) rfl ?_; intro a hE
                refine s_move hE (goes_yes hE rfl (lkb rfl hb40)) (by decide) rfl ?_; intro a hE
                refine s_int hE (goes_yes hE rfl (lkb rfl hb40)) (by decide) rfl rfl rfl ?_; intro a hE
                refine s_pickF hE goes_none (by decide) (lkb rfl hb40) rfl ?_; intro a hE
                refine c_fin0 ?_
                have ht42 := Option.some.inj hl34
                subst ht42
                refine c_mid ?_
                have hM := hM.pull (pre := [_, _, _])
                have hM := hM.pull (pre := [_, _, _])
                have hM := M.fst (l := [_, _]) hM
                exact ⟨hE.sub ⟨rfl, rfl, rfl, rfl, rfl, rfl, rfl, trivial⟩, hM⟩
          · skip
            rintro a w ⟨hE, hM⟩
            refine c_cond hE rfl ?_ ?_
            · intro hb43
              have hF35 := ite_t hF35 hb43
              refine c_region ?_
              refine s_assign hE goes_none (by decide) rfl ?_; intro a hE
              refine c_fin ?_
              have hr := Option.some.inj hF35
              subst hr
              have hM := M.fst (l := []) hM
              exact wp_ret (r_then (k_ret1 hE rfl (res_tmp hE rfl) ⟨_, rfl, rfl, hM.kept⟩))
            · intro hb43
              have hF35 := ite_f hF35 hb43
              refine wp_skip ?_
              refine c_nx ?_
              refine c_region ?_
              refine s_assign hE goes_none (by decide) rfl ?_; intro a hE
              refine c_fin ?_
              refine c_region ?_
              refine s_move hE goes_none (by decide) rfl ?_; intro a hE
              refine s_move hE goes_none (by decide) rfl ?_; intro a hE
              have hM := hM.toOwn noB
              obtain ⟨r44, e45, hF35⟩ := bind_some hF35
              refine s_call (vs := [u15, (vI 1)]) hE goes_none (by decide) rfl cb22 (c_laws_markByteS _ _ _ _ r13.1 u15 1 hM r44 e45) ?_
              rintro v w a ⟨rfl, hM⟩ hE
              refine s_assign hE goes_none (by decide) rfl ?_; intro a hE
              refine c_fin ?_
              refine c_region ?_
              refine s_assign hE goes_none (by decide) rfl ?_; intro a hE
              refine c_fin ?_
              refine c_region ?_
              refine s_move hE goes_none (by decide) rfl ?_; intro a hE
              refine s_move hE goes_none (by decide) rfl ?_; intro a hE
              obtain ⟨r46, e47, hF35⟩ := bind_some hF35
              refine s_call (vs := [u15, (vI 1)]) hE goes_none (by decide) rfl cb23 (c_laws_heldByteS _ r44.1 u15 (hM.ro (pre := []) (fun b hb => hb.elim)) 1 r46 e47) ?_
              rintro v w a ⟨rfl, hK⟩ hE
              have hM := hM.keep hK
              refine s_assign hE goes_none (by decide) rfl ?_; intro a hE
              refine c_fin ?_
              refine wp_seq ?_
              refine c_region ?_
              refine s_move hE goes_none (by decide) rfl ?_; intro a hE
              refine s_int hE goes_none (by decide) rfl rfl rfl ?_; intro a hE
              refine c_fin ?_
              refine c_cond hE rfl ?_ ?_
              · intro hb48
                have hF35 := ite_t hF35 hb48
                refine c_region ?_
                refine s_assign hE goes_none (by decide) rfl ?_; intro a hE
                refine c_fin ?_
                have hr := Option.some.inj hF35
                subst hr
                have hM := M.fst (l := []) hM
                exact wp_ret (r_then (k_ret1 hE rfl (res_tmp hE rfl) ⟨_, rfl, rfl, hM.kept⟩))
              · intro hb48
                have hF35 := ite_f hF35 hb48
                refine wp_skip ?_
                refine c_nx ?_
                refine wp_seq ?_
                refine c_region ?_
                refine s_move hE goes_none (by decide) rfl ?_; intro a hE
                refine s_move hE goes_none (by decide) rfl ?_; intro a hE
                refine s_int hE goes_none (by decide) rfl rfl rfl ?_; intro a hE
                refine c_fin ?_
                refine c_cond hE rfl ?_ ?_
                · intro hb49
                  have hF35 := ite_t hF35 hb49
                  refine c_region ?_
                  refine s_assign hE goes_none (by decide) rfl ?_; intro a hE
                  refine c_fin ?_
                  have hr := Option.some.inj hF35
                  subst hr
                  have hM := M.fst (l := []) hM
                  exact wp_ret (r_then (k_ret1 hE rfl (res_tmp hE rfl) ⟨_, rfl, rfl, hM.kept⟩))
                · intro hb49
                  have hF35 := ite_f hF35 hb49
                  refine wp_skip ?_
                  refine c_nx ?_
                  refine c_region ?_
                  refine s_move hE goes_none (by decide) rfl ?_; intro a hE
                  refine s_move hE goes_none (by decide) rfl ?_; intro a hE
                  obtain ⟨r50, e51, hF35⟩ := bind_some hF35
                  refine s_call (vs := [v1_1]) hE goes_none (by decide) rfl cb15 (c_laws_toShareS _ p1 v1_1 (hM.rdo hv1_1) r50 e51) ?_
                  rintro u52 w a ⟨_, rfl, hFr, hK⟩ hE
                  have hM := hM.add hK hFr
                  refine s_move hE goes_none (by decide) rfl ?_; intro a hE
                  obtain ⟨r53, e54, hF35⟩ := bind_some hF35
                  refine s_call (vs := [(vI p0), u52, (vI p2)]) hE goes_none (by decide) rfl cb50 (c_impl_RecoverData _ p0 r50 u52 (hM.sl (pre := []) noB) p2 r53 e54) ?_
                  rintro v w a ⟨u55, rfl, hFr, hK⟩ hE
                  have hM := hM.add hK hFr
                  refine s_move hE goes_none (by decide) rfl ?_; intro a hE
                  refine s_extract hE goes_none (by decide) rfl rfl ?_; intro a hE
                  refine s_extract hE goes_none (by decide) rfl rfl ?_; intro a hE
                  refine s_assign hE goes_none (by decide) rfl ?_; intro a hE
                  refine s_assign hE goes_none (by decide) rfl ?_; intro a hE
                  refine c_fin ?_
                  refine wp_seq ?_
                  obtain ⟨j56, hl57, hF58⟩ := bind_some hF35
                  refine c_join (fun a w => Env 106 a [(11, u15), (14, (vI r44.2)), (97, (vT j56))] ∧ M (Old w0) w0 w [own NoB (r44.1 : (List UInt8)) [u15]]) ?_ ?_
                  · skip
                    refine wp_region_lit ?_
                    refine s_move hE goes_none (by decide) rfl ?_; intro a hE
                    refine s_move hE goes_none (by decide) rfl ?_; intro a hE
                    obtain ⟨r59, e60, hl57⟩ := bind_some hl57
                    refine s_call (vs := [u55, u9]) hE goes_none (by decide) rfl cb21 (c_laws_eqByteS _ r53.1 u55 (hM.sl (pre := []) noB) r7.1 u9 (hM.sl (pre := [_, _, _]) noB) r59 e60) ?_
                    rintro v w a ⟨rfl, hK⟩ hE
                    have hM := hM.keep hK
                    refine s_not hE goes_none (by decide) rfl ?_; intro a hE
                    refine s_move hE goes_none (by decide) rfl ?_; intro a hE
                    refine splitB (!r59) (fun hb61 => ?_) (fun hb61 => ?_)
                    · have hl57 := ite_t hl57 hb61
                      refine s_skip hE rfl (lkb rfl hb61) rfl (by decide) ?_; intro a hE
                      refine s_skip hE rfl (lkb rfl hb61) rfl (by decide) ?_; intro a hE
                      refine s_skip hE rfl (lkb rfl hb61) rfl (by decide) ?_; intro a hE
                      refine s_pickT hE goes_none (by decide) (lkb rfl hb61) rfl ?_; intro a hE
                      refine c_fin0 ?_
                      have ht62 := Option.some.inj hl57
                      subst ht62
                      refine c_mid ?_
                      have hM := hM.pull (pre := [_, _])
                      have hM := M.fst (l := [_]) hM
                      exact ⟨hE.sub ⟨rfl, rfl, rfl, trivial⟩, hM⟩
                    · have hl57 := ite_f hl57 hb61
                      refine s_move hE (goes_yes hE rfl (lkb rfl hb61)) (by decide) rfl ?_; intro a hE
                      refine s_move hE (goes_yes hE rfl (lkb rfl hb61)) (by decide) rfl ?_; intro a hE
                      refine s_int hE (goes_yes hE rfl (lkb rfl hb61)) (by decide) rfl rfl rfl ?_; intro a hE
                      refine s_pickF hE goes_none (by decide) (lkb rfl hb61) rfl ?_; intro a hE
                      refine c_fin0 ?_
                      have ht63 := Option.some.inj hl57
                      subst ht63
                      refine c_mid ?_
                      have hM := hM.pull (pre := [_, _])
                      have hM := M.fst (l := [_]) hM
                      exact ⟨hE.sub ⟨rfl, rfl, rfl, trivial⟩, hM⟩
                  · skip
                    rintro a w ⟨hE, hM⟩
                    refine c_cond hE rfl ?_ ?_
                    · intro hb64
                      have hF58 := ite_t hF58 hb64
                      refine c_region ?_
                      refine s_assign hE goes_none (by decide) rfl ?_; intro a hE
                      refine c_fin ?_
                      have hr := Option.some.inj hF58
                      subst hr
                      have hM := M.fst (l := []) hM
                      exact wp_ret (r_then (k_ret1 hE rfl (res_tmp hE rfl) ⟨_, rfl, rfl, hM.kept⟩))
                    · intro hb64
                      have hF58 := ite_f hF58 hb64
                      refine wp_skip ?_
                      refine c_nx ?_
                      refine c_region ?_
                      refine s_assign hE goes_none (by decide) rfl ?_; intro a hE
                      refine c_fin ?_
                      refine c_region ?_
                      refine s_move hE goes_none (by decide) rfl ?_; intro a hE
                      refine s_move hE goes_none (by decide) rfl ?_; intro a hE
                      obtain ⟨r65, e66, hF58⟩ := bind_some hF58
                      refine s_call (vs := [u15, (vI 1)]) hE goes_none (by decide) rfl cb23 (c_laws_heldByteS _ r44.1 u15 (hM.ro (pre := []) (fun b hb => hb.elim)) 1 r65 e66) ?_
                      rintro v w a ⟨rfl, hK⟩ hE
                      have hM := hM.keep hK
                      refine s_assign hE goes_none (by decide) rfl ?_; intro a hE
                      refine c_fin ?_
                      refine wp_seq ?_
                      refine c_region ?_
                      refine s_move hE goes_none (by decide) rfl ?_; intro a hE
                      refine s_int hE goes_none (by decide) rfl rfl rfl ?_; intro a hE
                      refine c_fin ?_
                      refine c_cond hE rfl ?_ ?_
                      · intro hb67
                        have hF58 := ite_t hF58 hb67
                        refine c_region ?_
                        refine s_assign hE goes_none (by decide) rfl ?_; intro a hE
                        refine c_fin ?_
                        have hr := Option.some.inj hF58
                        subst hr
                        have hM := M.fst (l := []) hM
                        exact wp_ret (r_then (k_ret1 hE rfl (res_tmp hE rfl) ⟨_, rfl, rfl, hM.kept⟩))
                      · intro hb67
                        have hF58 := ite_f hF58 hb67
                        refine wp_skip ?_
                        refine c_nx ?_
                        refine wp_seq ?_
                        refine c_region ?_
                        refine s_move hE goes_none (by decide) rfl ?_; intro a hE
                        refine s_move hE goes_none (by decide) rfl ?_; intro a hE
                        refine s_int hE goes_none (by decide) rfl rfl rfl ?_; intro a hE
                        refine c_fin ?_
                        refine c_cond hE rfl ?_ ?_
                        · intro hb68
                          have hF58 := ite_t hF58 hb68
                          refine c_region ?_
                          refine s_assign hE goes_none (by decide) rfl ?_; intro a hE
                          refine c_fin ?_
                          have hr := Option.some.inj hF58
                          subst hr
                          have hM := M.fst (l := []) hM
                          exact wp_ret (r_then (k_ret1 hE rfl (res_tmp hE rfl) ⟨_, rfl, rfl, hM.kept⟩))
                        · intro hb68
                          have hF58 := ite_f hF58 hb68
                          refine wp_skip ?_
                          refine c_nx ?_
                          refine c_region ?_
                          refine s_assign hE goes_none (by decide) rfl ?_; intro a hE
                          refine c_fin ?_
                          have hr := Option.some.inj hF58
                          subst hr
                          have hM := M.fst (l := []) hM
                          exact wp_ret (k_ret1 hE rfl (res_tmp hE rfl) ⟨_, rfl, rfl, hM.kept⟩)
end Go.Proofs.Ytbonmndobipbnaa
