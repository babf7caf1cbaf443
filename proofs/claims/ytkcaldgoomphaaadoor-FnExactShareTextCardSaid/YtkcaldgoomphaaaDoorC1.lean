/- The walk of what the law reaches: contracts of functions. -/
import Derived.Test.YtkcaldgoomphaaaDoorShelfF
import Derived.Test.YtkcaldgoomphaaaDoorProg
set_option linter.unusedVariables false
set_option linter.unusedSimpArgs false
namespace Go.Proofs.YtkcaldgoomphaaaDoor
open Go
structure GShare where
  Place : UInt8
  Data : (List UInt8)
  deriving DecidableEq, Inhabited
instance : Dat GShare := ⟨fun x => Dat.bd (α := UInt8 × (List UInt8)) (x.Place, x.Data), fun x => Dat.sz (α := UInt8 × (List UInt8)) (x.Place, x.Data) + 1⟩
instance : Rep GShare := repIso (α := UInt8 × (List UInt8)) (fun x => (x.Place, x.Data))
theorem unf_GShare {S : Nat → Prop} {w : World} {x : GShare} {cs : List Value} {fp : List Nat} (h : Rep.sat S w x cs fp) : ∃ (u1 : Value), ∃ (g1 : List Nat), cs = cat [Flat.enc x.Place, [u1]] ∧ fp = g1 ∧ Rep.sat S w x.Data [u1] g1 := by
  obtain ⟨c0, d0, f0, q0, rfl, rfl, h0, hr0⟩ := h
  obtain ⟨rfl, rfl⟩ := h0
  obtain ⟨u1, rfl⟩ := sl_one hr0
  exact ⟨u1, _, rfl, by simp, hr0⟩
theorem unc_GShare {S : Nat → Prop} {w : World} {x : GShare} {u1 : Value} {fp : List Nat} (h : Rep.sat S w x (cat [Flat.enc x.Place, [u1]]) fp) : ∃ (g1 : List Nat), fp = g1 ∧ Rep.sat S w x.Data [u1] g1 := by
  obtain ⟨w1, g1, hc, hf, s1⟩ := unf_GShare h
  obtain ⟨e1, k1⟩ := cat_inj hc rfl
  obtain rfl := (List.cons.inj k1).1
  exact ⟨g1, hf, s1⟩
theorem un_GShare {S : Nat → Prop} {w : World} {x : GShare} {cs : List Value} (h : Rep.sat S w x cs []) : ∃ u1, cs = cat [Flat.enc x.Place, [u1]] ∧ Rep.sat S w x.Data [u1] [] := by
  obtain ⟨c0, d0, f0, g0, rfl, hf0, h0, hr0⟩ := h
  obtain ⟨rfl, rfl⟩ := List.append_eq_nil_iff.1 hf0.symm
  obtain ⟨rfl, _⟩ := h0
  obtain ⟨u1, rfl⟩ := sl_one hr0
  exact ⟨u1, rfl, hr0⟩
theorem pk_GShare {S : Nat → Prop} {w : World} {x : GShare} {u1 : Value} {g1 fp : List Nat} (h1 : Rep.sat S w x.Data [u1] g1) (hfp : fp = g1) : Rep.sat S w x (cat [Flat.enc x.Place, [u1]]) fp := by
  rw [hfp]
  refine ⟨_, _, [], g1, rfl, (by simp), ⟨rfl, rfl⟩, ?_⟩
  exact h1
theorem pm_GShare {St : Nat → Prop} {w0 w : World} {its : List Item} {i1 : Item} {x : GShare} {u1 : Value} (h : M St w0 w (i1 :: its)) (s1 : SatI i1 x.Data u1) : M St w0 w (own NoB x (cat [Flat.enc x.Place, [u1]]) :: its) := h.packL (m := [_]) (own_loc noB) fun fp h => by obtain ⟨_, _, rfl, _, k1, rfl⟩ := h; exact pk_GShare (s1 _ _ k1) (by simp)
theorem um_GShare {St : Nat → Prop} {w0 w : World} {its : List Item} {x : GShare} {u1 : Value} (h : M St w0 w (own NoB x (cat [Flat.enc x.Place, [u1]]) :: its)) : M St w0 w (own NoB x.Data [u1] :: its) := h.unpackL (m := [own NoB x.Data [u1]]) fun fp h => by obtain ⟨_, rfl, s1⟩ := unc_GShare h; exact SepR.one (own_loc noB) s1
theorem zsat_GShare (w : World) : Rep.sat NoB w (⟨(0 : UInt8), ([] : (List UInt8))⟩ : GShare) (cat [(Flat.enc (0 : UInt8)), [.slice none 0 0]]) [] := pk_GShare zsat_nil rfl
theorem ty5 : Ty Tryd.prog 5 (.int .u8) 1 1 (Flat.enc (0 : UInt8)) := ⟨Tryd.underlying5, by kernel_rfl⟩
theorem ty22 : Ty Tryd.prog 22 (.slice 5) 1 24 [.slice none 0 0] := ⟨Tryd.underlying22, by kernel_rfl⟩
theorem ty24 : Ty Tryd.prog 24 (.struct [{ name := "Place", type := 5, offset := 0, embedded := false, tag := "", pkgPath := "", byteOffset := 0 }, { name := "Data", type := 22, offset := 1, embedded := false, tag := "", pkgPath := "", byteOffset := 8 }].toArray) 2 32 (cat [(Flat.enc (0 : UInt8)), [.slice none 0 0]]) := ⟨Tryd.underlying24, by kernel_rfl⟩
theorem ty28 : Ty Tryd.prog 28 (.struct [{ name := "Place", type := 5, offset := 0, embedded := false, tag := "", pkgPath := "", byteOffset := 0 }, { name := "Data", type := 22, offset := 1, embedded := false, tag := "", pkgPath := "", byteOffset := 8 }].toArray) 2 32 (cat [(Flat.enc (0 : UInt8)), [.slice none 0 0]]) := ⟨Tryd.underlying28, by kernel_rfl⟩
theorem fd24_0 : Fd Tryd.prog 24 0 0 := fd_mk ty24.und rfl rfl ty5 (by decide)
theorem fd24_1 : Fd Tryd.prog 24 1 1 := fd_mk ty24.und rfl rfl ty22 (by decide)
theorem fd28_0 : Fd Tryd.prog 28 0 0 := fd_mk ty28.und rfl rfl ty5 (by decide)
theorem fd28_1 : Fd Tryd.prog 28 1 1 := fd_mk ty28.und rfl rfl ty22 (by decide)
theorem hmix : Tryd.prog.follows .mixedOrders = true := by kernel_rfl
theorem cb5 : Callable Tryd.prog 5 := ⟨_, _, Tryd.func5, by decide, rfl⟩
theorem cb6 : Callable Tryd.prog 6 := ⟨_, _, Tryd.func6, by decide, rfl⟩
theorem cb7 : Callable Tryd.prog 7 := ⟨_, _, Tryd.func7, by decide, rfl⟩
theorem cb8 : Callable Tryd.prog 8 := ⟨_, _, Tryd.func8, by decide, rfl⟩
theorem cb9 : Callable Tryd.prog 9 := ⟨_, _, Tryd.func9, by decide, rfl⟩
theorem cb14 : Callable Tryd.prog 14 := ⟨_, _, Tryd.func14, by decide, rfl⟩
theorem cb15 : Callable Tryd.prog 15 := ⟨_, _, Tryd.func15, by decide, rfl⟩
theorem cb16 : Callable Tryd.prog 16 := ⟨_, _, Tryd.func16, by decide, rfl⟩
theorem cb17 : Callable Tryd.prog 17 := ⟨_, _, Tryd.func17, by decide, rfl⟩
theorem cb18 : Callable Tryd.prog 18 := ⟨_, _, Tryd.func18, by decide, rfl⟩
theorem cb19 : Callable Tryd.prog 19 := ⟨_, _, Tryd.func19, by decide, rfl⟩
theorem cb20 : Callable Tryd.prog 20 := ⟨_, _, Tryd.func20, by decide, rfl⟩
theorem cb31 : Callable Tryd.prog 31 := ⟨_, _, Tryd.func31, by decide, rfl⟩
theorem cb32 : Callable Tryd.prog 32 := ⟨_, _, Tryd.func32, by decide, rfl⟩
theorem cb33 : Callable Tryd.prog 33 := ⟨_, _, Tryd.func33, by decide, rfl⟩
theorem cb34 : Callable Tryd.prog 34 := ⟨_, _, Tryd.func34, by decide, rfl⟩
theorem cb39 : Callable Tryd.prog 39 := ⟨_, _, Tryd.func39, by decide, rfl⟩
noncomputable def F_laws_szByteS (p0 : (List UInt8)) (p1 : Int) : Option (Int) :=
  if (decide ((wr (p1 - (p0.length : Int))) < 0)) = true then (some (-1)) else (some (wr (p1 - (p0.length : Int))))
set_option maxRecDepth 20000 in
set_option maxHeartbeats 400000 in
theorem c_laws_szByteS (w0 : World) (p0 : (List UInt8)) (v0_1 : Value) (hv0_1 : Ro w0 p0 [v0_1]) (p1 : Int) (r : Int) (hF : F_laws_szByteS p0 p1 = some r) :
    Calls Tryd.prog 14 [v0_1, (vI p1)].toArray w0 (fun en w' => ∃ v, en = .returned v ∧ (v = (vI r) ∧ Kept (Old w0) w0 w')) := by
  refine c_enter (n := 12) Tryd.func14 rfl rfl (Nat.le_of_ble_eq_true rfl) rfl ?_
  intro a hE
  have hM := M.start w0
  unfold F_laws_szByteS at hF
  refine c_region ?_
  refine s_assign hE goes_none (by decide) rfl ?_; intro a hE
  refine c_fin ?_
  refine c_region ?_
  refine s_move hE goes_none (by decide) rfl ?_; intro a hE
  refine s_move hE goes_none (by decide) rfl ?_; intro a hE
  refine s_len hE goes_none (by decide) rfl Tryd.underlying22 (hM.rd hv0_1) ?_; intro a hE
  refine s_int hE goes_none (by decide) rfl rfl rfl ?_; intro a hE
  refine s_assign hE goes_none (by decide) rfl ?_; intro a hE
  refine c_fin ?_
  refine wp_seq ?_
  refine c_region ?_
  refine s_move hE goes_none (by decide) rfl ?_; intro a hE
  refine s_int hE goes_none (by decide) rfl rfl rfl ?_; intro a hE
  refine c_fin ?_
  refine c_cond hE rfl ?_ ?_
  · intro hb1
    have hF := ite_t hF hb1
    refine c_region ?_
    refine s_assign hE goes_none (by decide) rfl ?_; intro a hE
    refine c_fin ?_
    have hr := Option.some.inj hF
    subst hr
    exact wp_ret (r_then (k_ret1 hE rfl (res_tmp hE rfl) ⟨_, rfl, rfl, hM.kept⟩))
  · intro hb1
    have hF := ite_f hF hb1
    refine wp_skip ?_
    refine c_nx ?_
    refine c_region ?_
    refine s_move hE goes_none (by decide) rfl ?_; intro a hE
    refine s_assign hE goes_none (by decide) rfl ?_; intro a hE
    refine c_fin ?_
    have hr := Option.some.inj hF
    subst hr
    exact wp_ret (k_ret1 hE rfl (res_tmp hE rfl) ⟨_, rfl, rfl, hM.kept⟩)
noncomputable def F_laws_szShare (p0 : GShare) (p1 : Int) : Option (Int) :=
  (F_laws_szByteS p0.Data p1).bind fun (r3 : Int) => if (decide (r3 < 0)) = true then (some (-1)) else (some r3)
set_option maxRecDepth 20000 in
set_option maxHeartbeats 400000 in
theorem c_laws_szShare (w0 : World) (p0 : GShare) (v0_1 : Value) (hv0_1 : Ro w0 p0.Data [v0_1]) (p1 : Int) (r : Int) (hF : F_laws_szShare p0 p1 = some r) :
    Calls Tryd.prog 5 [(Value.agg (cat [[(vB p0.Place)], [v0_1]]).toArray), (vI p1)].toArray w0 (fun en w' => ∃ v, en = .returned v ∧ (v = (vI r) ∧ Kept (Old w0) w0 w')) := by
  refine c_enter (n := 12) Tryd.func5 rfl rfl (Nat.le_of_ble_eq_true rfl) rfl ?_
  intro a hE
  have hM := M.start w0
  unfold F_laws_szShare at hF
  refine c_region ?_
  refine s_box (cs := cat [[(vB p0.Place)], [v0_1]]) hE hM goes_none (by decide) rfl rfl ?_; intro b1 w a hM hE
  refine s_assign hE goes_none (by decide) rfl ?_; intro a hE
  refine c_fin ?_
  refine c_region ?_
  refine s_fieldAddr hE goes_none (by decide) rfl (fd24_1) ?_; intro a hE
  refine s_load (v := v0_1) hE goes_none (by decide) rfl ty22 rfl (At.cat (pre := [[(vB p0.Place)]]) (seg := [v0_1]) (post := []) (hM.rawAt (pre := [])) (cl1 (n := 1) (m := 0) rfl cl0)) ?_; intro a hE
  refine s_move hE goes_none (by decide) rfl ?_; intro a hE
  obtain ⟨r3, e4, hF⟩ := bind_some hF
  refine s_call (vs := [v0_1, (vI p1)]) hE goes_none (by decide) rfl cb14 (c_laws_szByteS _ p0.Data v0_1 (hM.rdo hv0_1) p1 r3 e4) ?_
  rintro v w a ⟨rfl, hK⟩ hE
  have hM := hM.keep hK
  refine s_assign hE goes_none (by decide) rfl ?_; intro a hE
  refine c_fin ?_
  refine wp_seq ?_
  refine c_region ?_
  refine s_move hE goes_none (by decide) rfl ?_; intro a hE
  refine s_int hE goes_none (by decide) rfl rfl rfl ?_; intro a hE
  refine c_fin ?_
  refine c_cond hE rfl ?_ ?_
  · intro hb5
    have hF := ite_t hF hb5
    refine c_region ?_
    refine s_assign hE goes_none (by decide) rfl ?_; intro a hE
    refine c_fin ?_
    have hr := Option.some.inj hF
    subst hr
    have hM := M.fst (l := []) hM
    exact wp_ret (r_then (k_ret1 hE rfl (res_tmp hE rfl) ⟨_, rfl, rfl, hM.kept⟩))
  · intro hb5
    have hF := ite_f hF hb5
    refine wp_skip ?_
    refine c_nx ?_
    refine c_region ?_
    refine s_move hE goes_none (by decide) rfl ?_; intro a hE
    refine s_assign hE goes_none (by decide) rfl ?_; intro a hE
    refine c_fin ?_
    have hr := Option.some.inj hF
    subst hr
    have hM := M.fst (l := []) hM
    exact wp_ret (k_ret1 hE rfl (res_tmp hE rfl) ⟨_, rfl, rfl, hM.kept⟩)
noncomputable def L0_laws_toByteS (p0 : (List UInt8)) (s10 : (List UInt8) × Int) : Option (Fl ((List UInt8) × Int) (List UInt8)) :=
  if (decide (s10.2 < (p0.length : Int))) = true then ((idx p0 s10.2).bind fun (x17 : UInt8) => (idx s10.1 s10.2).bind fun (x20 : UInt8) => some (Fl.nx ((s10.1.set (s10.2).toNat x17), wr (s10.2 + 1)))) else (some (Fl.ex s10.1))
noncomputable def F_laws_toByteS (p0 : (List UInt8)) : Option ((List UInt8)) :=
  (mkS 1 (0 : UInt8) (p0.length : Int)).bind fun (l1 : (List UInt8)) => (iter (L0_laws_toByteS p0) (l1, 0) : Option ((List UInt8))).bind fun (j5 : (List UInt8)) => some j5
set_option maxRecDepth 20000 in
set_option maxHeartbeats 400000 in
theorem c_laws_toByteS (w0 : World) (p0 : (List UInt8)) (v0_1 : Value) (hv0_1 : Ro w0 p0 [v0_1]) (r : (List UInt8)) (hF : F_laws_toByteS p0 = some r) :
    Calls Tryd.prog 17 [v0_1].toArray w0 (fun en w' => ∃ v, en = .returned v ∧ (∃ (y1 : Value), v = y1 ∧ Fr w0 w' [osl NoB (r : List UInt8) y1] ∧ Kept (Old w0) w0 w')) := by
  refine c_enter (n := 22) Tryd.func17 rfl rfl (Nat.le_of_ble_eq_true rfl) rfl ?_
  intro a hE
  have hM := M.start w0
  unfold F_laws_toByteS at hF
  refine c_region ?_
  refine s_assign hE goes_none (by decide) rfl ?_; intro a hE
  refine c_fin ?_
  refine c_region ?_
  refine s_move hE goes_none (by decide) rfl ?_; intro a hE
  refine s_len hE goes_none (by decide) rfl Tryd.underlying22 (hM.rd hv0_1) ?_; intro a hE
  obtain ⟨l1, e2, hF⟩ := bind_some hF
  refine s_make hE hM goes_none (by decide) rfl rfl Tryd.underlying22 ty5 rfl (by decide) (fun _ => sat_flat.2 ⟨rfl, rfl⟩) e2 ?_; intro u3 w a hM hE
  refine s_assign hE goes_none (by decide) rfl ?_; intro a hE
  refine c_fin ?_
  refine wp_seq ?_
  refine c_region ?_
  refine s_assign hE goes_none (by decide) rfl ?_; intro a hE
  refine c_fin ?_
  obtain ⟨j5, hl6, hF7⟩ := bind_some hF
  refine c_cut (fun a w => ∃ (u8 : Value), Env 22 a [(3, u8)] ∧ M (Old w0) w0 w [osl NoB (j5 : List UInt8) u8]) ?_ ?_
  · skip
    refine wp_block ?_
    refine c_loop (fun (s10 : (List UInt8) × Int) a w => ∃ (u11 : Value), Env 22 a [(0, v0_1), (3, u11), (4, (vI s10.2))] ∧ M (Old w0) w0 w [osl NoB (s10.1 : List UInt8) u11]) hl6 ⟨u3, hE.sub ⟨rfl, rfl, rfl, trivial⟩, hM⟩ ?_
    rintro s10 a w ⟨u11, hE, hM⟩ o15 hs13 hx14
    unfold L0_laws_toByteS at hs13
    refine wp_seq ?_
    refine c_region ?_
    refine s_move hE goes_none (by decide) rfl ?_; intro a hE
    refine s_move hE goes_none (by decide) rfl ?_; intro a hE
    refine s_len hE goes_none (by decide) rfl Tryd.underlying22 (hM.rd hv0_1) ?_; intro a hE
    refine s_int hE goes_none (by decide) rfl rfl rfl ?_; intro a hE
    refine c_fin ?_
    refine c_cond hE rfl ?_ ?_
    · intro hb16
      have hs13 := ite_t hs13 hb16
      refine wp_skip ?_
      refine c_nx ?_
      refine wp_seq ?_
      refine wp_block ?_
      refine wp_region_lit ?_
      refine s_move hE goes_none (by decide) rfl ?_; intro a hE
      refine s_move hE goes_none (by decide) rfl ?_; intro a hE
      refine s_move hE goes_none (by decide) rfl ?_; intro a hE
      refine s_move hE goes_none (by decide) rfl ?_; intro a hE
      obtain ⟨x17, e18, hs13⟩ := bind_some hs13
      have hi19 := idx_some e18
      refine s_indexS hE goes_none (by decide) rfl rfl Tryd.underlying22 ty5 (hM.rd hv0_1) hi19.1 ?_; intro a hE
      refine s_load (v := (vB x17)) hE goes_none (by decide) rfl ty5 rfl (sl_atF (hM.rd hv0_1) hi19.2) ?_; intro a hE
      obtain ⟨x20, e21, hs13⟩ := bind_some hs13
      have hi22 := idx_some e21
      refine s_indexS hE goes_none (by decide) rfl rfl Tryd.underlying22 ty5 (hM.sl (pre := []) noB) hi22.1 ?_; intro a hE
      refine s_storeS (i := (s10.2).toNat) (k0 := 0) (seg := [(vB x17)]) (xo := x20) (xn := x17) hE hM goes_none rfl rfl rfl ty5 rfl (Flat.cell (x17 : UInt8)) hi22.2 (fit_num (m := 1) rfl (by decide)) (splice_all (Eq.trans rfl (Eq.symm rfl))) ?_; intro w a hM hE
      refine c_fin0 ?_
      refine c_nb ?_
      refine c_nx ?_
      refine wp_region_lit ?_
      refine s_move hE goes_none (by decide) rfl ?_; intro a hE
      refine s_int hE goes_none (by decide) rfl rfl rfl ?_; intro a hE
      refine s_assign hE goes_none (by decide) rfl ?_; intro a hE
      refine c_fin0 ?_
      refine c_mid ?_
      exact ⟨_, (Option.some.inj hs13).symm, u11, hE.sub ⟨rfl, rfl, rfl, trivial⟩, hM⟩
    · intro hb16
      have hs13 := ite_f hs13 hb16
      refine wp_exit (e_then (e_then (e_eq ?_)))
      have ht23 := hx14 _ (Option.some.inj hs13).symm
      subst ht23
      refine c_mid ?_
      exact ⟨u11, hE.sub ⟨rfl, trivial⟩, hM⟩
  · skip
    rintro a w ⟨u8, hE, hM⟩
    refine c_nx ?_
    refine c_region ?_
    refine s_move hE goes_none (by decide) rfl ?_; intro a hE
    refine s_assign hE goes_none (by decide) rfl ?_; intro a hE
    refine c_fin ?_
    have hr := Option.some.inj hF7
    subst hr
    exact wp_ret (k_ret1 hE rfl (res_tmp hE rfl) ⟨_, rfl, u8, rfl, hM.outF (locN1 locN0), hM.kept⟩)
noncomputable def F_laws_toShare (p0 : GShare) : Option (GShare) :=
  (F_laws_toByteS p0.Data).bind fun (r7 : (List UInt8)) => some (⟨p0.Place, r7⟩ : GShare)
set_option maxRecDepth 20000 in
set_option maxHeartbeats 400000 in
theorem c_laws_toShare (w0 : World) (p0 : GShare) (v0_1 : Value) (hv0_1 : Ro w0 p0.Data [v0_1]) (r : GShare) (hF : F_laws_toShare p0 = some r) :
    Calls Tryd.prog 7 [(Value.agg (cat [[(vB p0.Place)], [v0_1]]).toArray)].toArray w0 (fun en w' => ∃ v, en = .returned v ∧ (∃ (y1 : Value), v = (Value.agg (cat [[(vB r.Place)], [y1]]).toArray) ∧ Fr w0 w' [osl NoB (r.Data : List UInt8) y1] ∧ Kept (Old w0) w0 w')) := by
  refine c_enter (n := 12) Tryd.func7 rfl rfl (Nat.le_of_ble_eq_true rfl) rfl ?_
  intro a hE
  have hM := M.start w0
  unfold F_laws_toShare at hF
  refine c_region ?_
  refine s_box (cs := cat [[(vB p0.Place)], [v0_1]]) hE hM goes_none (by decide) rfl rfl ?_; intro b1 w a hM hE
  refine s_alloc hE hM goes_none (by decide) ty28 ?_; intro b3 w a hM hE
  refine c_fin ?_
  refine c_region ?_
  refine s_alloc hE hM goes_none (by decide) ty28 ?_; intro b5 w a hM hE
  refine c_fin ?_
  refine c_region ?_
  refine s_fieldAddr hE goes_none (by decide) rfl (fd24_0) ?_; intro a hE
  refine s_load (v := (vB p0.Place)) hE goes_none (by decide) rfl ty5 rfl (At.cat (pre := []) (seg := [(vB p0.Place)]) (post := [[v0_1]]) (hM.rawAt (pre := [_, _])) cl0) ?_; intro a hE
  refine s_fieldAddr hE goes_none (by decide) rfl (fd28_0) ?_; intro a hE
  refine s_store (seg := [(vB p0.Place)]) (cs' := cat [[(vB p0.Place)], [(Value.slice none 0 0)]]) hE hM goes_none rfl rfl rfl ty5 rfl (fit_cat (pre := []) (seg := [(vB 0)]) (post := [[(Value.slice none 0 0)]]) cl0 (Eq.trans rfl (Eq.symm rfl))) (Flat.cell (p0.Place : UInt8)) (splice_cat (pre := []) (seg := [(vB 0)]) (post := [[(Value.slice none 0 0)]]) cl0 (Eq.trans rfl (Eq.symm rfl))) ?_; intro w a hM hE
  refine c_fin ?_
  refine c_region ?_
  refine s_fieldAddr hE goes_none (by decide) rfl (fd24_1) ?_; intro a hE
  refine s_load (v := v0_1) hE goes_none (by decide) rfl ty22 rfl (At.cat (pre := [[(vB p0.Place)]]) (seg := [v0_1]) (post := []) (hM.rawAt (pre := [_, _])) (cl1 (n := 1) (m := 0) rfl cl0)) ?_; intro a hE
  obtain ⟨r7, e8, hF⟩ := bind_some hF
  refine s_call (vs := [v0_1]) hE goes_none (by decide) rfl cb17 (c_laws_toByteS _ p0.Data v0_1 (hM.rdo hv0_1) r7 e8) ?_
  rintro u9 w a ⟨_, rfl, hFr, hK⟩ hE
  have hM := hM.add hK hFr
  refine s_fieldAddr hE goes_none (by decide) rfl (fd28_1) ?_; intro a hE
  have hM := hM.pull (pre := [_])
  refine s_store (seg := [u9]) (cs' := cat [[(vB p0.Place)], [u9]]) hE hM goes_none rfl rfl (sl_cells (hM.sl (pre := [_]) noB)) ty22 rfl (fit_cat (pre := [[(vB p0.Place)]]) (seg := [(Value.slice none 0 0)]) (post := []) (cl1 (n := 1) (m := 0) rfl cl0) (Eq.trans rfl (Eq.symm rfl))) (Rep.cell (hM.sl (pre := [_]) noB)) (splice_cat (pre := [[(vB p0.Place)]]) (seg := [(Value.slice none 0 0)]) (post := []) (cl1 (n := 1) (m := 0) rfl cl0) (Eq.trans rfl (Eq.symm rfl))) ?_; intro w a hM hE
  refine c_fin ?_
  refine c_region ?_
  refine s_loadA (cs := cat [[(vB p0.Place)], [u9]]) hE goes_none (by decide) rfl ty28 rfl (hM.rawAt (pre := [])) (cat_len (cl1 (n := 1) (m := 1) rfl (cl1 (n := 1) (m := 0) rfl cl0))) ?_; intro a hE
  have hM := hM.pull (pre := [_, _])
  refine s_store (seg := cat [[(vB p0.Place)], [u9]]) (cs' := cat [[(vB p0.Place)], [u9]]) hE hM goes_none rfl rfl rfl ty28 (cat_len (cl1 (n := 1) (m := 1) rfl (cl1 (n := 1) (m := 0) rfl cl0))) (Nat.le_of_eq ((Nat.zero_add _).trans (Eq.trans (cat_len (cl1 (n := 1) (m := 1) rfl (cl1 (n := 1) (m := 0) rfl cl0))) (Eq.symm (cat_len (cl1 (n := 1) (m := 1) rfl (cl1 (n := 1) (m := 0) rfl cl0))))))) (cat_cell (cc1 (Flat.cell (p0.Place : UInt8)) (cc1 (Rep.cell (hM.sl (pre := [_, _]) noB)) cc0))) (splice_all (Eq.trans (cat_len (cl1 (n := 1) (m := 1) rfl (cl1 (n := 1) (m := 0) rfl cl0))) (Eq.symm (cat_len (cl1 (n := 1) (m := 1) rfl (cl1 (n := 1) (m := 0) rfl cl0)))))) ?_; intro w a hM hE
  refine c_fin ?_
  have hr := Option.some.inj hF
  subst hr
  have hq10 : ResIs Tryd.prog _ _ (.cell 2 28) _ := res_cell hE rfl ty28 rfl (hM.rawAt (pre := [])) (cat_len (cl1 (n := 1) (m := 1) rfl (cl1 (n := 1) (m := 0) rfl cl0))) rfl
  have hM := hM.pull (pre := [_, _])
  have hM := M.fst (l := [_]) hM
  exact wp_ret (k_ret1 hE rfl hq10 ⟨_, rfl, u9, rfl, hM.outF (locN1 locN0), hM.kept⟩)
noncomputable def F_spec_l10Share (p0 : GShare) : Option (Bool) :=
  (if (p0.Place != 0) = true then (some (decide ((p0.Data.length : Int) ≤ 100))) else (some false) : Option (Bool)).bind fun (j3 : Bool) => some j3
set_option maxRecDepth 20000 in
set_option maxHeartbeats 400000 in
theorem c_spec_l10Share (w0 : World) (p0 : GShare) (v0_1 : Value) (hv0_1 : Ro w0 p0.Data [v0_1]) (r : Bool) (hF : F_spec_l10Share p0 = some r) :
    Calls Tryd.prog 15 [(Value.agg (cat [[(vB p0.Place)], [v0_1]]).toArray)].toArray w0 (fun en w' => ∃ v, en = .returned v ∧ (v = (vT r) ∧ Kept (Old w0) w0 w')) := by
  refine c_enter (n := 12) Tryd.func15 rfl rfl (Nat.le_of_ble_eq_true rfl) rfl ?_
  intro a hE
  have hM := M.start w0
  unfold F_spec_l10Share at hF
  refine c_region ?_
  refine s_box (cs := cat [[(vB p0.Place)], [v0_1]]) hE hM goes_none (by decide) rfl rfl ?_; intro b1 w a hM hE
  refine s_assign hE goes_none (by decide) rfl ?_; intro a hE
  refine c_fin ?_
  obtain ⟨j3, hl4, hF5⟩ := bind_some hF
  refine c_join (fun a w => Env 12 a [(2, (vT j3))] ∧ M (Old w0) w0 w []) ?_ ?_
  · skip
    refine wp_region_lit ?_
    refine s_fieldAddr hE goes_none (by decide) rfl (fd28_0) ?_; intro a hE
    refine s_load (v := (vB p0.Place)) hE goes_none (by decide) rfl ty5 rfl (At.cat (pre := []) (seg := [(vB p0.Place)]) (post := [[v0_1]]) (hM.rawAt (pre := [])) cl0) ?_; intro a hE
    refine s_int hE goes_none (by decide) rfl rfl (bB_neq p0.Place 0) ?_; intro a hE
    refine s_move hE goes_none (by decide) rfl ?_; intro a hE
    refine splitB (p0.Place != 0) (fun hb6 => ?_) (fun hb6 => ?_)
    · have hl4 := ite_t hl4 hb6
      refine s_fieldAddr hE (goes_yes hE rfl (lkb rfl hb6)) (by decide) rfl (fd28_1) ?_; intro a hE
      refine s_load (v := v0_1) hE (goes_yes hE rfl (lkb rfl hb6)) (by decide) rfl ty22 rfl (At.cat (pre := [[(vB p0.Place)]]) (seg := [v0_1]) (post := []) (hM.rawAt (pre := [])) (cl1 (n := 1) (m := 0) rfl cl0)) ?_; intro a hE
      refine s_len hE (goes_yes hE rfl (lkb rfl hb6)) (by decide) rfl Tryd.underlying22 (hM.rd hv0_1) ?_; intro a hE
      refine s_int hE (goes_yes hE rfl (lkb rfl hb6)) (by decide) rfl rfl rfl ?_; intro a hE
      refine s_pickT hE goes_none (by decide) (lkb rfl hb6) rfl ?_; intro a hE
      refine s_assign hE goes_none (by decide) rfl ?_; intro a hE
      refine c_fin0 ?_
      have ht7 := Option.some.inj hl4
      subst ht7
      refine c_mid ?_
      have hM := M.fst (l := []) hM
      exact ⟨hE.sub ⟨rfl, trivial⟩, hM⟩
    · have hl4 := ite_f hl4 hb6
      refine s_skip hE rfl (lkb rfl hb6) rfl (by decide) ?_; intro a hE
      refine s_skip hE rfl (lkb rfl hb6) rfl (by decide) ?_; intro a hE
      refine s_skip hE rfl (lkb rfl hb6) rfl (by decide) ?_; intro a hE
      refine s_skip hE rfl (lkb rfl hb6) rfl (by decide) ?_; intro a hE
      refine s_pickF hE goes_none (by decide) (lkb rfl hb6) rfl ?_; intro a hE
      refine s_assign hE goes_none (by decide) rfl ?_; intro a hE
      refine c_fin0 ?_
      have ht8 := Option.some.inj hl4
      subst ht8
      refine c_mid ?_
      have hM := M.fst (l := []) hM
      exact ⟨hE.sub ⟨rfl, trivial⟩, hM⟩
  · skip
    rintro a w ⟨hE, hM⟩
    have hr := Option.some.inj hF5
    subst hr
    exact wp_ret (k_ret1 hE rfl (res_tmp hE rfl) ⟨_, rfl, rfl, hM.kept⟩)
noncomputable def F_spec_l01Dec : Nat → Int → Option (Str)
  | 0, _ => none
  | fu + 1, p0 => if (decide (p0 < 10)) = true then (some (⟨([byteI (wr (48 + p0))] : List UInt8)⟩ : Str)) else (((F_spec_l01Dec fu (wr (Int.tdiv p0 10))).bind fun (r8 : Str) => (scat r8 (⟨([byteI (wr (48 + (Int.tmod p0 10)))] : List UInt8)⟩ : Str)).bind fun (x12 : Str) => some x12 : Option (Str)).bind fun (j4 : Str) => some j4)
set_option maxRecDepth 20000 in
set_option maxHeartbeats 400000 in
theorem c_spec_l01Dec : ∀ (fu : Nat) (w0 : World) (p0 : Int) (r : Str) (hF : F_spec_l01Dec fu p0 = some r),
    Calls Tryd.prog 31 [(vI p0)].toArray w0 (fun en w' => ∃ v, en = .returned v ∧ (v = (vS r) ∧ Kept (Old w0) w0 w')) := by
  intro fu
  induction fu with
  | zero => intros; rename_i hF; unfold F_spec_l01Dec at hF; cases hF
  | succ fu ih =>
  have c_spec_l01Dec := fun (_ : Nat) => ih
  intro w0 p0 r hF
  refine c_enter (n := 20) Tryd.func31 rfl rfl (Nat.le_of_ble_eq_true rfl) rfl ?_
  intro a hE
  have hM := M.start w0
  unfold F_spec_l01Dec at hF
  refine c_region ?_
  refine s_assign hE goes_none (by decide) rfl ?_; intro a hE
  refine c_fin ?_
  refine wp_seq ?_
  refine c_region ?_
  refine s_move hE goes_none (by decide) rfl ?_; intro a hE
  refine s_int hE goes_none (by decide) rfl rfl rfl ?_; intro a hE
  refine c_fin ?_
  refine c_cond hE rfl ?_ ?_
  · intro hb1
    have hF := ite_t hF hb1
    refine c_region ?_
    refine s_move hE goes_none (by decide) rfl ?_; intro a hE
    refine s_int hE goes_none (by decide) rfl rfl rfl ?_; intro a hE
    refine s_convB hE goes_none (by decide) rfl Tryd.underlying2 Tryd.underlying5 ?_; intro a hE
    refine s_buildF (xs := [.tmp 7]) (l := ([byteI (wr (48 + p0))] : List UInt8)) (vs := [(vB (byteI (wr (48 + p0))))]) hE hM goes_none (by decide) rfl rfl Tryd.underlying22 ty5 rfl (by decide) rfl ?_; intro u2 w a hM hE
    refine s_bytesStr hE goes_none (by decide) rfl Tryd.underlying22 Tryd.underlying5 Tryd.underlying9 (hM.sl (pre := []) noB) ?_; intro a hE
    refine s_assign hE goes_none (by decide) rfl ?_; intro a hE
    refine c_fin ?_
    have hr := Option.some.inj hF
    subst hr
    have hM := M.fst (l := []) hM
    exact wp_ret (r_then (k_ret1 hE rfl (res_tmp hE rfl) ⟨_, rfl, rfl, hM.kept⟩))
  · intro hb1
    have hF := ite_f hF hb1
    refine wp_skip ?_
    refine c_nx ?_
    obtain ⟨j4, hl5, hF6⟩ := bind_some hF
    refine c_join (fun a w => Env 20 a [(2, (vS j4))] ∧ M (Old w0) w0 w []) ?_ ?_
    · skip
      obtain ⟨r8, e9, hl5⟩ := bind_some hl5
      refine c_drawQ (its := []) (mk := ([mkO 7 (fun v => osl NoB (([byteI (wr (48 + (Int.tmod p0 10)))] : List UInt8) : List UInt8) v)] : Mk)) [10, 11, 12, 13, 14, 15, 16, 17, 18] hmix rfl rfl (by decide) rfl hE (fun u => M.qE (M.q0 hM.drew u) emO) (qsP (fun z => s_move z.E goes_none (by decide) rfl (kr0 rfl)) (qsP (v := (vI (wr (Int.tdiv p0 10)))) (fun z => s_int z.E goes_none (by decide) rfl rfl (bI_quo _ _ (by decide)) (kr0 rfl)) (qsP (fun z => s_call (vs := [(vI (wr (Int.tdiv p0 10)))]) z.E goes_none (by decide) rfl cb31 (c_spec_l01Dec fu _ (wr (Int.tdiv p0 10)) r8 e9) (kc rfl)) (qsP (fun z => s_move z.E goes_none (by decide) rfl (kr0 rfl)) (qsP (v := (vI (Int.tmod p0 10))) (fun z => s_int z.E goes_none (by decide) rfl rfl (bI_rem _ _ (by decide)) (kr0 rfl)) (qsP (v := (vI (wr (48 + (Int.tmod p0 10))))) (fun z => s_int z.E goes_none (by decide) rfl rfl rfl (kr0 rfl)) (qsP (fun z => s_convB z.E goes_none (by decide) rfl Tryd.underlying2 Tryd.underlying5 (kr0 rfl)) (qsM (pr := fun v => True) ?_ (qsP (v := (vS (⟨([byteI (wr (48 + (Int.tmod p0 10)))] : List UInt8)⟩ : Str))) ?_ qs0))))))))) ?_
      · intro a w ux7 D z
        have hE := z.E
        have hD : D 7 = false := z.F
        have hM := z.M
        refine s_buildF (xs := [.tmp 16]) (l := ([byteI (wr (48 + (Int.tmod p0 10)))] : List UInt8)) (vs := [(vB (byteI (wr (48 + (Int.tmod p0 10)))))]) hE hM goes_none (by decide) rfl rfl Tryd.underlying22 ty5 rfl (by decide) rfl ?_; intro u10 w a hM hE
        exact ⟨_, _, rfl, hE, M.qFill (mk1 := []) (mk2 := []) (f := (fun v => osl NoB (([byteI (wr (48 + (Int.tmod p0 10)))] : List UInt8) : List UInt8) v)) hM rfl hD, trivial⟩
      · intro a w ux7 D z
        have hE := z.E
        have d7 : D 7 = true := z.p 0 _ rfl rfl
        have hM := z.M
        have hM := hM.sure (pre := []) d7
        refine s_bytesStr hE goes_none (by decide) rfl Tryd.underlying22 Tryd.underlying5 Tryd.underlying9 (hM.sl (pre := []) noB) ?_; intro a hE
        exact ⟨Kept.refl _ _, _, rfl, hE⟩
      · intro a w ux7 D hE hM hG hall
        have d7 : D 7 = true := hall 7 (by decide)
        have hM := hM.sure (pre := []) d7
        obtain ⟨x12, e13, hl5⟩ := bind_some hl5
        refine s_scat hE goes_none (by decide) rfl rfl e13 ?_; intro a hE
        refine s_assign hE goes_none (by decide) rfl ?_; intro a hE
        refine c_fin0 ?_
        have ht14 := Option.some.inj hl5
        subst ht14
        refine c_mid ?_
        have hM := M.fst (l := []) hM
        exact ⟨hE.sub ⟨rfl, trivial⟩, hM⟩
    · skip
      rintro a w ⟨hE, hM⟩
      have hr := Option.some.inj hF6
      subst hr
      exact wp_ret (k_ret1 hE rfl (res_tmp hE rfl) ⟨_, rfl, rfl, hM.kept⟩)
noncomputable def L0_spec_l01Hex (p0 : (List UInt8)) (s8 : (List UInt8) × Int) : Option (Fl ((List UInt8) × Int) (List UInt8)) :=
  if (decide (s8.2 < (p0.length : Int))) = true then ((idx p0 s8.2).bind fun (x16 : UInt8) => (idx (⟨[48, 49, 50, 51, 52, 53, 54, 55, 56, 57, 97, 98, 99, 100, 101, 102]⟩ : Str).l (bI (x16 / 16))).bind fun (x19 : UInt8) => (idx p0 s8.2).bind fun (x21 : UInt8) => (idx (⟨[48, 49, 50, 51, 52, 53, 54, 55, 56, 57, 97, 98, 99, 100, 101, 102]⟩ : Str).l (bI (x21 % 16))).bind fun (x24 : UInt8) => (app 1 s8.1 ([x19, x24] : List UInt8)).bind fun (l28 : (List UInt8)) => some (Fl.nx ((s8.1 ++ ([x19, x24] : List UInt8)), wr (s8.2 + 1)))) else (some (Fl.ex s8.1))
noncomputable def F_spec_l01Hex (p0 : (List UInt8)) : Option (Str) :=
  (iter (L0_spec_l01Hex p0) (([] : List UInt8), 0) : Option ((List UInt8))).bind fun (j3 : (List UInt8)) => some (⟨j3⟩ : Str)
set_option maxRecDepth 20000 in
set_option maxHeartbeats 400000 in
theorem c_spec_l01Hex (w0 : World) (p0 : (List UInt8)) (v0_1 : Value) (hv0_1 : Ro w0 p0 [v0_1]) (r : Str) (hF : F_spec_l01Hex p0 = some r) :
    Calls Tryd.prog 32 [v0_1].toArray w0 (fun en w' => ∃ v, en = .returned v ∧ (v = (vS r) ∧ Kept (Old w0) w0 w')) := by
  refine c_enter (n := 32) Tryd.func32 rfl rfl (Nat.le_of_ble_eq_true rfl) rfl ?_
  intro a hE
  have hM := M.start w0
  unfold F_spec_l01Hex at hF
  refine c_region ?_
  refine s_assign hE goes_none (by decide) rfl ?_; intro a hE
  refine c_fin ?_
  refine c_region ?_
  refine s_buildF (xs := []) (l := ([] : List UInt8)) (vs := []) hE hM goes_none (by decide) rfl rfl Tryd.underlying22 ty5 rfl (by decide) rfl ?_; intro u1 w a hM hE
  refine s_assign hE goes_none (by decide) rfl ?_; intro a hE
  refine s_assign hE goes_none (by decide) rfl ?_; intro a hE
  refine c_fin ?_
  refine wp_seq ?_
  refine c_region ?_
  refine s_assign hE goes_none (by decide) rfl ?_; intro a hE
  refine c_fin ?_
  obtain ⟨j3, hl4, hF5⟩ := bind_some hF
  refine c_cut (fun a w => ∃ (u6 : Value), Env 32 a [(4, u6)] ∧ M (Old w0) w0 w [osl NoB (j3 : List UInt8) u6]) ?_ ?_
  · skip
    refine wp_block ?_
    refine c_loop (fun (s8 : (List UInt8) × Int) a w => ∃ (u9 : Value), Env 32 a [(0, v0_1), (3, (vS (⟨[48, 49, 50, 51, 52, 53, 54, 55, 56, 57, 97, 98, 99, 100, 101, 102]⟩ : Str))), (4, u9), (5, (vI s8.2))] ∧ M (Old w0) w0 w [osl NoB (s8.1 : List UInt8) u9]) hl4 ⟨u1, hE.sub ⟨rfl, rfl, rfl, rfl, trivial⟩, hM⟩ ?_
    rintro s8 a w ⟨u9, hE, hM⟩ o13 hs11 hx12
    unfold L0_spec_l01Hex at hs11
    refine wp_seq ?_
    refine c_region ?_
    refine s_move hE goes_none (by decide) rfl ?_; intro a hE
    refine s_move hE goes_none (by decide) rfl ?_; intro a hE
    refine s_len hE goes_none (by decide) rfl Tryd.underlying22 (hM.rd hv0_1) ?_; intro a hE
    refine s_int hE goes_none (by decide) rfl rfl rfl ?_; intro a hE
    refine c_fin ?_
    refine c_cond hE rfl ?_ ?_
    · intro hb14
      have hs11 := ite_t hs11 hb14
      refine wp_skip ?_
      refine c_nx ?_
      refine wp_seq ?_
      refine wp_block ?_
      obtain ⟨x16, e17, hs11⟩ := bind_some hs11
      have hi18 := idx_some e17
      obtain ⟨x19, e20, hs11⟩ := bind_some hs11
      obtain ⟨x21, e22, hs11⟩ := bind_some hs11
      have hi23 := idx_some e22
      obtain ⟨x24, e25, hs11⟩ := bind_some hs11
      refine c_drawQ (its := [osl NoB (s8.1 : List UInt8) u9]) (mk := ([mkO 15 (fun v => osl NoB (([x19, x24] : List UInt8) : List UInt8) v)] : Mk)) [13, 14, 15, 16, 17, 18, 19, 20, 21, 22, 23, 24, 25, 26, 27, 28] hmix rfl rfl (by decide) rfl hE (fun u => M.qE (M.q0 hM.drew u) emO) (qsP (fun z => s_move z.E goes_none (by decide) rfl (kr0 rfl)) (qsP (fun z => s_move z.E goes_none (by decide) rfl (kr0 rfl)) (qsP (fun z => s_move z.E goes_none (by decide) rfl (kr0 rfl)) (qsP (fun z => s_move z.E goes_none (by decide) rfl (kr0 rfl)) (qsP (v := (ptr (sb v0_1) (so v0_1 + (s8.2).toNat * 1))) ?_ (qsP (v := (vB x16)) ?_ (qsP (v := (vB (x16 / 16))) (fun z => s_int z.E goes_none (by decide) rfl rfl (bB_quo x16 16 (by decide)) (kr0 rfl)) (qsP (fun z => s_indexStr z.E goes_none (by decide) rfl rfl Tryd.underlying9 e20 (kr0 rfl)) (qsP (fun z => s_move z.E goes_none (by decide) rfl (kr0 rfl)) (qsP (fun z => s_move z.E goes_none (by decide) rfl (kr0 rfl)) (qsP (fun z => s_move z.E goes_none (by decide) rfl (kr0 rfl)) (qsP (v := (ptr (sb v0_1) (so v0_1 + (s8.2).toNat * 1))) ?_ (qsP (v := (vB x21)) ?_ (qsP (v := (vB (x21 % 16))) (fun z => s_int z.E goes_none (by decide) rfl rfl (bB_rem x21 16 (by decide)) (kr0 rfl)) (qsP (fun z => s_indexStr z.E goes_none (by decide) rfl rfl Tryd.underlying9 e25 (kr0 rfl)) (qsM (pr := fun v => True) ?_ qs0)))))))))))))))) ?_
      · intro a w ux15 D z
        have hE := z.E
        have hM := z.M
        refine s_indexS hE goes_none (by decide) rfl rfl Tryd.underlying22 ty5 (hM.rd hv0_1) hi18.1 ?_; intro a hE
        exact ⟨Kept.refl _ _, _, rfl, hE⟩
      · intro a w ux15 D z
        have hE := z.E
        have hM := z.M
        refine s_load (v := (vB x16)) hE goes_none (by decide) rfl ty5 rfl (sl_atF (hM.rd hv0_1) hi18.2) ?_; intro a hE
        exact ⟨Kept.refl _ _, _, rfl, hE⟩
      · intro a w ux15 D z
        have hE := z.E
        have hM := z.M
        refine s_indexS hE goes_none (by decide) rfl rfl Tryd.underlying22 ty5 (hM.rd hv0_1) hi23.1 ?_; intro a hE
        exact ⟨Kept.refl _ _, _, rfl, hE⟩
      · intro a w ux15 D z
        have hE := z.E
        have hM := z.M
        refine s_load (v := (vB x21)) hE goes_none (by decide) rfl ty5 rfl (sl_atF (hM.rd hv0_1) hi23.2) ?_; intro a hE
        exact ⟨Kept.refl _ _, _, rfl, hE⟩
      · intro a w ux15 D z
        have hE := z.E
        have hD : D 15 = false := z.F
        have hM := z.M
        refine s_buildF (xs := [.tmp 20, .tmp 27]) (l := ([x19, x24] : List UInt8)) (vs := [(vB x19), (vB x24)]) hE hM goes_none (by decide) rfl rfl Tryd.underlying22 ty5 rfl (by decide) rfl ?_; intro u26 w a hM hE
        exact ⟨_, _, rfl, hE, M.qFill (mk1 := []) (mk2 := []) (f := (fun v => osl NoB (([x19, x24] : List UInt8) : List UInt8) v)) hM rfl hD, trivial⟩
      · intro a w ux15 D hE hM hG hall
        have d15 : D 15 = true := hall 15 (by decide)
        have hM := hM.sure (pre := [_]) d15
        obtain ⟨l28, e29, hs11⟩ := bind_some hs11
        obtain ⟨e32, rfl⟩ := app_some e29
        refine s_appendF hE hM goes_none (by decide) rfl rfl (hM.sl (pre := [_]) noB) Tryd.underlying22 ty5 rfl (by decide) e32 ?_; intro u30 w a hM hE
        refine s_assign hE goes_none (by decide) rfl ?_; intro a hE
        refine c_fin0 ?_
        refine c_nb ?_
        refine c_nx ?_
        refine wp_region_lit ?_
        refine s_move hE goes_none (by decide) rfl ?_; intro a hE
        refine s_int hE goes_none (by decide) rfl rfl rfl ?_; intro a hE
        refine s_assign hE goes_none (by decide) rfl ?_; intro a hE
        refine c_fin0 ?_
        refine c_mid ?_
        have hM := M.fst (l := [_]) hM
        exact ⟨_, (Option.some.inj hs11).symm, u30, hE.sub ⟨rfl, rfl, rfl, rfl, trivial⟩, hM⟩
    · intro hb14
      have hs11 := ite_f hs11 hb14
      refine wp_exit (e_then (e_then (e_eq ?_)))
      have ht33 := hx12 _ (Option.some.inj hs11).symm
      subst ht33
      refine c_mid ?_
      exact ⟨u9, hE.sub ⟨rfl, trivial⟩, hM⟩
  · skip
    rintro a w ⟨u6, hE, hM⟩
    refine c_nx ?_
    refine c_region ?_
    refine s_move hE goes_none (by decide) rfl ?_; intro a hE
    refine s_bytesStr hE goes_none (by decide) rfl Tryd.underlying22 Tryd.underlying5 Tryd.underlying9 (hM.sl (pre := []) noB) ?_; intro a hE
    refine s_assign hE goes_none (by decide) rfl ?_; intro a hE
    refine c_fin ?_
    have hr := Option.some.inj hF5
    subst hr
    have hM := M.fst (l := []) hM
    exact wp_ret (k_ret1 hE rfl (res_tmp hE rfl) ⟨_, rfl, rfl, hM.kept⟩)
noncomputable def F_spec_l10Text (p0 : GShare) : Option (Str) :=
  ((F_spec_l01Dec 64 (bI p0.Place)).bind fun (r7 : Str) => (scat r7 (⟨[58]⟩ : Str)).bind fun (x9 : Str) => (F_spec_l01Hex p0.Data).bind fun (r11 : Str) => (scat x9 r11).bind fun (x13 : Str) => some x13 : Option (Str)).bind fun (j3 : Str) => some j3
set_option maxRecDepth 20000 in
set_option maxHeartbeats 400000 in
theorem c_spec_l10Text (w0 : World) (p0 : GShare) (v0_1 : Value) (hv0_1 : Ro w0 p0.Data [v0_1]) (r : Str) (hF : F_spec_l10Text p0 = some r) :
    Calls Tryd.prog 16 [(Value.agg (cat [[(vB p0.Place)], [v0_1]]).toArray)].toArray w0 (fun en w' => ∃ v, en = .returned v ∧ (v = (vS r) ∧ Kept (Old w0) w0 w')) := by
  refine c_enter (n := 12) Tryd.func16 rfl rfl (Nat.le_of_ble_eq_true rfl) rfl ?_
  intro a hE
  have hM := M.start w0
  unfold F_spec_l10Text at hF
  refine c_region ?_
  refine s_box (cs := cat [[(vB p0.Place)], [v0_1]]) hE hM goes_none (by decide) rfl rfl ?_; intro b1 w a hM hE
  refine s_assign hE goes_none (by decide) rfl ?_; intro a hE
  refine c_fin ?_
  obtain ⟨j3, hl4, hF5⟩ := bind_some hF
  refine c_join (fun a w => Env 12 a [(2, (vS j3))] ∧ M (Old w0) w0 w []) ?_ ?_
  · skip
    obtain ⟨r7, e8, hl4⟩ := bind_some hl4
    obtain ⟨x9, e10, hl4⟩ := bind_some hl4
    obtain ⟨r11, e12, hl4⟩ := bind_some hl4
    obtain ⟨x13, e14, hl4⟩ := bind_some hl4
    refine c_drawP [3, 4, 5, 6, 7, 8, 9, 10, 11, 2] hmix rfl rfl (by decide) rfl hE hM (qsP (fun z => s_fieldAddr z.E goes_none (by decide) rfl (fd28_0) (kr0 rfl)) (qsP (fun z => s_load (v := (vB p0.Place)) z.E goes_none (by decide) rfl ty5 rfl (At.cat (pre := []) (seg := [(vB p0.Place)]) (post := [[v0_1]]) (z.M.rawAt (pre := [])) cl0) (kr0 rfl)) (qsP (fun z => s_convW z.E goes_none (by decide) rfl Tryd.underlying5 Tryd.underlying2 (kr0 rfl)) (qsP (fun z => s_call (vs := [(vI (bI p0.Place))]) z.E goes_none (by decide) rfl cb31 (c_spec_l01Dec 64 _ (bI p0.Place) r7 e8) (kc rfl)) (qsP (fun z => s_scat z.E goes_none (by decide) rfl rfl e10 (kr0 rfl)) (qsP (fun z => s_fieldAddr z.E goes_none (by decide) rfl (fd28_1) (kr0 rfl)) (qsP (fun z => s_load (v := v0_1) z.E goes_none (by decide) rfl ty22 rfl (At.cat (pre := [[(vB p0.Place)]]) (seg := [v0_1]) (post := []) (z.M.rawAt (pre := [])) (cl1 (n := 1) (m := 0) rfl cl0)) (kr0 rfl)) (qsP (fun z => s_call (vs := [v0_1]) z.E goes_none (by decide) rfl cb32 (c_spec_l01Hex _ p0.Data v0_1 (z.M.rdo hv0_1) r11 e12) (kc rfl)) (qsP (fun z => s_scat z.E goes_none (by decide) rfl rfl e14 (kr0 rfl)) (qsP (fun z => s_assign z.E goes_none (by decide) rfl (kr0 rfl)) qs0)))))))))) ?_
    · intro a w u hE hM
      refine c_fin0 ?_
      have ht15 := Option.some.inj hl4
      subst ht15
      refine c_mid ?_
      have hM := M.fst (l := []) hM
      exact ⟨hE.sub ⟨rfl, trivial⟩, hM⟩
  · skip
    rintro a w ⟨hE, hM⟩
    have hr := Option.some.inj hF5
    subst hr
    exact wp_ret (k_ret1 hE rfl (res_tmp hE rfl) ⟨_, rfl, rfl, hM.kept⟩)
noncomputable def F_spec_ShareText (p0 : GShare) : Option (Str × Int) :=
  (F_spec_l10Share p0).bind fun (r3 : Bool) => if (!r3) = true then (some ((⟨[]⟩ : Str), 1)) else ((F_spec_l10Text p0).bind fun (r6 : Str) => some (r6, 0))
set_option maxRecDepth 20000 in
set_option maxHeartbeats 400000 in
theorem c_spec_ShareText (w0 : World) (p0 : GShare) (v0_1 : Value) (hv0_1 : Ro w0 p0.Data [v0_1]) (r : Str × Int) (hF : F_spec_ShareText p0 = some r) :
    Calls Tryd.prog 6 [(Value.agg (cat [[(vB p0.Place)], [v0_1]]).toArray)].toArray w0 (fun en w' => ∃ v, en = .returned v ∧ (v = (Value.tuple [(vS r.1), (vI r.2)].toArray) ∧ Kept (Old w0) w0 w')) := by
  refine c_enter (n := 9) Tryd.func6 rfl rfl (Nat.le_of_ble_eq_true rfl) rfl ?_
  intro a hE
  have hM := M.start w0
  unfold F_spec_ShareText at hF
  refine c_region ?_
  refine s_box (cs := cat [[(vB p0.Place)], [v0_1]]) hE hM goes_none (by decide) rfl rfl ?_; intro b1 w a hM hE
  refine s_assign hE goes_none (by decide) rfl ?_; intro a hE
  refine s_assign hE goes_none (by decide) rfl ?_; intro a hE
  refine c_fin ?_
  refine wp_seq ?_
  refine c_region ?_
  refine s_loadA (cs := cat [[(vB p0.Place)], [v0_1]]) hE goes_none (by decide) rfl ty28 rfl (hM.rawAt (pre := [])) (cat_len (cl1 (n := 1) (m := 1) rfl (cl1 (n := 1) (m := 0) rfl cl0))) ?_; intro a hE
  obtain ⟨r3, e4, hF⟩ := bind_some hF
  refine s_call (vs := [(Value.agg (cat [[(vB p0.Place)], [v0_1]]).toArray)]) hE goes_none (by decide) rfl cb15 (c_spec_l10Share _ p0 v0_1 (hM.rdo hv0_1) r3 e4) ?_
  rintro v w a ⟨rfl, hK⟩ hE
  have hM := hM.keep hK
  refine s_not hE goes_none (by decide) rfl ?_; intro a hE
  refine c_fin ?_
  refine c_cond hE rfl ?_ ?_
  · intro hb5
    have hF := ite_t hF hb5
    refine c_region ?_
    refine s_assign hE goes_none (by decide) rfl ?_; intro a hE
    refine s_assign hE goes_none (by decide) rfl ?_; intro a hE
    refine c_fin ?_
    have hr := Option.some.inj hF
    subst hr
    have hM := M.fst (l := []) hM
    exact wp_ret (r_then (k_ret2 hE rfl (res_tmp hE rfl) (res_tmp hE rfl) ⟨_, rfl, rfl, hM.kept⟩))
  · intro hb5
    have hF := ite_f hF hb5
    refine wp_skip ?_
    refine c_nx ?_
    refine c_region ?_
    refine s_loadA (cs := cat [[(vB p0.Place)], [v0_1]]) hE goes_none (by decide) rfl ty28 rfl (hM.rawAt (pre := [])) (cat_len (cl1 (n := 1) (m := 1) rfl (cl1 (n := 1) (m := 0) rfl cl0))) ?_; intro a hE
    obtain ⟨r6, e7, hF⟩ := bind_some hF
    refine s_call (vs := [(Value.agg (cat [[(vB p0.Place)], [v0_1]]).toArray)]) hE goes_none (by decide) rfl cb16 (c_spec_l10Text _ p0 v0_1 (hM.rdo hv0_1) r6 e7) ?_
    rintro v w a ⟨rfl, hK⟩ hE
    have hM := hM.keep hK
    refine s_assign hE goes_none (by decide) rfl ?_; intro a hE
    refine s_assign hE goes_none (by decide) rfl ?_; intro a hE
    refine c_fin ?_
    have hr := Option.some.inj hF
    subst hr
    have hM := M.fst (l := []) hM
    exact wp_ret (k_ret2 hE rfl (res_tmp hE rfl) (res_tmp hE rfl) ⟨_, rfl, rfl, hM.kept⟩)
noncomputable def F_impl_isShare (p0 : GShare) : Option (Bool) :=
  (if (p0.Place != 0) = true then (some (decide ((p0.Data.length : Int) ≤ 100))) else (some false) : Option (Bool)).bind fun (j3 : Bool) => some j3
set_option maxRecDepth 20000 in
set_option maxHeartbeats 400000 in
theorem c_impl_isShare (w0 : World) (p0 : GShare) (v0_1 : Value) (hv0_1 : Ro w0 p0.Data [v0_1]) (r : Bool) (hF : F_impl_isShare p0 = some r) :
    Calls Tryd.prog 18 [(Value.agg (cat [[(vB p0.Place)], [v0_1]]).toArray)].toArray w0 (fun en w' => ∃ v, en = .returned v ∧ (v = (vT r) ∧ Kept (Old w0) w0 w')) := by
  refine c_enter (n := 12) Tryd.func18 rfl rfl (Nat.le_of_ble_eq_true rfl) rfl ?_
  intro a hE
  have hM := M.start w0
  unfold F_impl_isShare at hF
  refine c_region ?_
  refine s_box (cs := cat [[(vB p0.Place)], [v0_1]]) hE hM goes_none (by decide) rfl rfl ?_; intro b1 w a hM hE
  refine s_assign hE goes_none (by decide) rfl ?_; intro a hE
  refine c_fin ?_
  obtain ⟨j3, hl4, hF5⟩ := bind_some hF
  refine c_join (fun a w => Env 12 a [(2, (vT j3))] ∧ M (Old w0) w0 w []) ?_ ?_
  · skip
    refine wp_region_lit ?_
    refine s_fieldAddr hE goes_none (by decide) rfl (fd28_0) ?_; intro a hE
    refine s_load (v := (vB p0.Place)) hE goes_none (by decide) rfl ty5 rfl (At.cat (pre := []) (seg := [(vB p0.Place)]) (post := [[v0_1]]) (hM.rawAt (pre := [])) cl0) ?_; intro a hE
    refine s_int hE goes_none (by decide) rfl rfl (bB_neq p0.Place 0) ?_; intro a hE
    refine s_move hE goes_none (by decide) rfl ?_; intro a hE
    refine splitB (p0.Place != 0) (fun hb6 => ?_) (fun hb6 => ?_)
    · have hl4 := ite_t hl4 hb6
      refine s_fieldAddr hE (goes_yes hE rfl (lkb rfl hb6)) (by decide) rfl (fd28_1) ?_; intro a hE
      refine s_load (v := v0_1) hE (goes_yes hE rfl (lkb rfl hb6)) (by decide) rfl ty22 rfl (At.cat (pre := [[(vB p0.Place)]]) (seg := [v0_1]) (post := []) (hM.rawAt (pre := [])) (cl1 (n := 1) (m := 0) rfl cl0)) ?_; intro a hE
      refine s_len hE (goes_yes hE rfl (lkb rfl hb6)) (by decide) rfl Tryd.underlying22 (hM.rd hv0_1) ?_; intro a hE
      refine s_int hE (goes_yes hE rfl (lkb rfl hb6)) (by decide) rfl rfl rfl ?_; intro a hE
      refine s_pickT hE goes_none (by decide) (lkb rfl hb6) rfl ?_; intro a hE
      refine s_assign hE goes_none (by decide) rfl ?_; intro a hE
      refine c_fin0 ?_
      have ht7 := Option.some.inj hl4
      subst ht7
      refine c_mid ?_
      have hM := M.fst (l := []) hM
      exact ⟨hE.sub ⟨rfl, trivial⟩, hM⟩
    · have hl4 := ite_f hl4 hb6
      refine s_skip hE rfl (lkb rfl hb6) rfl (by decide) ?_; intro a hE
      refine s_skip hE rfl (lkb rfl hb6) rfl (by decide) ?_; intro a hE
      refine s_skip hE rfl (lkb rfl hb6) rfl (by decide) ?_; intro a hE
      refine s_skip hE rfl (lkb rfl hb6) rfl (by decide) ?_; intro a hE
      refine s_pickF hE goes_none (by decide) (lkb rfl hb6) rfl ?_; intro a hE
      refine s_assign hE goes_none (by decide) rfl ?_; intro a hE
      refine c_fin0 ?_
      have ht8 := Option.some.inj hl4
      subst ht8
      refine c_mid ?_
      have hM := M.fst (l := []) hM
      exact ⟨hE.sub ⟨rfl, trivial⟩, hM⟩
  · skip
    rintro a w ⟨hE, hM⟩
    have hr := Option.some.inj hF5
    subst hr
    exact wp_ret (k_ret1 hE rfl (res_tmp hE rfl) ⟨_, rfl, rfl, hM.kept⟩)
-- strconv_FormatInt: ShelfF
-- strconv_FormatInt: ShelfF
noncomputable def F_impl_decimal (p0 : Int) : Option (Str) :=
  (F_strconv_FormatInt p0 10).bind fun (r1 : Str) => some r1
set_option maxRecDepth 20000 in
set_option maxHeartbeats 400000 in
theorem c_impl_decimal (w0 : World) (p0 : Int) (hT : TabT w0) (r : Str) (hF : F_impl_decimal p0 = some r) :
    Calls Tryd.prog 33 [(vI p0)].toArray w0 (fun en w' => ∃ v, en = .returned v ∧ (v = (vS r) ∧ Kept (Old w0) w0 w')) := by
  refine c_enter (n := 5) Tryd.func33 rfl rfl (Nat.le_of_ble_eq_true rfl) rfl ?_
  intro a hE
  have hM := M.start w0
  unfold F_impl_decimal at hF
  refine c_region ?_
  refine s_assign hE goes_none (by decide) rfl ?_; intro a hE
  refine c_fin ?_
  refine c_region ?_
  refine s_move hE goes_none (by decide) rfl ?_; intro a hE
  obtain ⟨r1, e2, hF⟩ := bind_some hF
  refine s_call (vs := [(vI p0), (vI 10)]) hE goes_none (by decide) rfl cb39 (c_strconv_FormatInt _ p0 10 (hT.kept hM.kept) r1 e2) ?_
  rintro v w a ⟨rfl, hK⟩ hE
  have hM := hM.keep hK
  refine s_assign hE goes_none (by decide) rfl ?_; intro a hE
  refine c_fin ?_
  have hr := Option.some.inj hF
  subst hr
  exact wp_ret (k_ret1 hE rfl (res_tmp hE rfl) ⟨_, rfl, rfl, hM.kept⟩)
noncomputable def L0_impl_hexOf (p0 : (List UInt8)) (s8 : (List UInt8) × Int) : Option (Fl ((List UInt8) × Int) (List UInt8)) :=
  if (decide (s8.2 < (p0.length : Int))) = true then ((idx p0 s8.2).bind fun (x15 : UInt8) => (idx (⟨[48, 49, 50, 51, 52, 53, 54, 55, 56, 57, 97, 98, 99, 100, 101, 102]⟩ : Str).l (bI (shrB x15 4))).bind fun (x19 : UInt8) => (idx (⟨[48, 49, 50, 51, 52, 53, 54, 55, 56, 57, 97, 98, 99, 100, 101, 102]⟩ : Str).l (bI (x15 &&& 15))).bind fun (x21 : UInt8) => (app 1 s8.1 ([x19, x21] : List UInt8)).bind fun (l25 : (List UInt8)) => some (Fl.nx ((s8.1 ++ ([x19, x21] : List UInt8)), wr (s8.2 + 1)))) else (some (Fl.ex s8.1))
noncomputable def F_impl_hexOf (p0 : (List UInt8)) : Option (Str) :=
  (iter (L0_impl_hexOf p0) (([] : List UInt8), 0) : Option ((List UInt8))).bind fun (j3 : (List UInt8)) => some (⟨j3⟩ : Str)
set_option maxRecDepth 20000 in
set_option maxHeartbeats 400000 in
theorem c_impl_hexOf (w0 : World) (p0 : (List UInt8)) (v0_1 : Value) (hv0_1 : Ro w0 p0 [v0_1]) (r : Str) (hF : F_impl_hexOf p0 = some r) :
    Calls Tryd.prog 34 [v0_1].toArray w0 (fun en w' => ∃ v, en = .returned v ∧ (v = (vS r) ∧ Kept (Old w0) w0 w')) := by
  refine c_enter (n := 25) Tryd.func34 rfl rfl (Nat.le_of_ble_eq_true rfl) rfl ?_
  intro a hE
  have hM := M.start w0
  unfold F_impl_hexOf at hF
  refine c_region ?_
  refine s_assign hE goes_none (by decide) rfl ?_; intro a hE
  refine c_fin ?_
  refine c_region ?_
  refine s_buildF (xs := []) (l := ([] : List UInt8)) (vs := []) hE hM goes_none (by decide) rfl rfl Tryd.underlying22 ty5 rfl (by decide) rfl ?_; intro u1 w a hM hE
  refine s_assign hE goes_none (by decide) rfl ?_; intro a hE
  refine c_fin ?_
  refine wp_seq ?_
  refine c_region ?_
  refine s_move hE goes_none (by decide) rfl ?_; intro a hE
  refine s_len hE goes_none (by decide) rfl Tryd.underlying22 (hM.rd hv0_1) ?_; intro a hE
  refine s_move hE goes_none (by decide) rfl ?_; intro a hE
  refine c_fin ?_
  obtain ⟨j3, hl4, hF5⟩ := bind_some hF
  refine c_cut (fun a w => ∃ (u6 : Value), Env 25 a [(3, u6)] ∧ M (Old w0) w0 w [osl NoB (j3 : List UInt8) u6]) ?_ ?_
  · skip
    refine wp_block ?_
    refine c_loop (fun (s8 : (List UInt8) × Int) a w => ∃ (u9 : Value), Env 25 a [(3, u9), (7, v0_1), (8, (vI (p0.length : Int))), (9, (vI s8.2))] ∧ M (Old w0) w0 w [osl NoB (s8.1 : List UInt8) u9]) hl4 ⟨u1, hE.sub ⟨rfl, rfl, rfl, rfl, trivial⟩, hM⟩ ?_
    rintro s8 a w ⟨u9, hE, hM⟩ o13 hs11 hx12
    unfold L0_impl_hexOf at hs11
    refine c_region ?_
    refine s_int hE goes_none (by decide) rfl rfl rfl ?_; intro a hE
    refine c_fin ?_
    refine wp_seq ?_
    refine c_cond hE rfl ?_ ?_
    · intro hb14
      have hs11 := ite_t hs11 hb14
      refine wp_skip ?_
      refine c_nx ?_
      refine wp_seq ?_
      refine wp_block ?_
      refine c_region ?_
      obtain ⟨x15, e16, hs11⟩ := bind_some hs11
      have hi17 := idx_some e16
      refine s_indexS hE goes_none (by decide) rfl rfl Tryd.underlying22 ty5 (hM.rd hv0_1) hi17.1 ?_; intro a hE
      refine s_load (v := (vB x15)) hE goes_none (by decide) rfl ty5 rfl (sl_atF (hM.rd hv0_1) hi17.2) ?_; intro a hE
      refine s_assign hE goes_none (by decide) rfl ?_; intro a hE
      refine c_fin ?_
      obtain ⟨x19, e20, hs11⟩ := bind_some hs11
      obtain ⟨x21, e22, hs11⟩ := bind_some hs11
      refine c_drawQ (its := [osl NoB (s8.1 : List UInt8) u9]) (mk := ([mkO 7 (fun v => osl NoB (([x19, x21] : List UInt8) : List UInt8) v)] : Mk)) [13, 14, 15, 16, 17, 18, 19, 20] hmix rfl rfl (by decide) rfl hE (fun u => M.qE (M.q0 hM.drew u) emO) (qsP (fun z => s_move z.E goes_none (by decide) rfl (kr0 rfl)) (qsP (fun z => s_move z.E goes_none (by decide) rfl (kr0 rfl)) (qsP (v := (vB (shrB x15 4))) (fun z => s_sh z.E goes_none (by decide) rfl rfl (bB_shr _ _ (by decide)) (kr0 rfl)) (qsP (fun z => s_indexStr z.E goes_none (by decide) rfl rfl Tryd.underlying9 e20 (kr0 rfl)) (qsP (fun z => s_move z.E goes_none (by decide) rfl (kr0 rfl)) (qsP (v := (vB (x15 &&& 15))) (fun z => s_int z.E goes_none (by decide) rfl rfl (bB_and x15 15) (kr0 rfl)) (qsP (fun z => s_indexStr z.E goes_none (by decide) rfl rfl Tryd.underlying9 e22 (kr0 rfl)) (qsM (pr := fun v => True) ?_ qs0)))))))) ?_
      · intro a w ux18 D z
        have hE := z.E
        have hD : D 7 = false := z.F
        have hM := z.M
        refine s_buildF (xs := [.tmp 16, .tmp 19]) (l := ([x19, x21] : List UInt8)) (vs := [(vB x19), (vB x21)]) hE hM goes_none (by decide) rfl rfl Tryd.underlying22 ty5 rfl (by decide) rfl ?_; intro u23 w a hM hE
        exact ⟨_, _, rfl, hE, M.qFill (mk1 := []) (mk2 := []) (f := (fun v => osl NoB (([x19, x21] : List UInt8) : List UInt8) v)) hM rfl hD, trivial⟩
      · intro a w ux18 D hE hM hG hall
        have d7 : D 7 = true := hall 7 (by decide)
        have hM := hM.sure (pre := [_]) d7
        obtain ⟨l25, e26, hs11⟩ := bind_some hs11
        obtain ⟨e29, rfl⟩ := app_some e26
        refine s_appendF hE hM goes_none (by decide) rfl rfl (hM.sl (pre := [_]) noB) Tryd.underlying22 ty5 rfl (by decide) e29 ?_; intro u27 w a hM hE
        refine s_assign hE goes_none (by decide) rfl ?_; intro a hE
        refine c_fin0 ?_
        refine c_nb ?_
        refine c_nx ?_
        refine wp_region_lit ?_
        refine s_int hE goes_none (by decide) rfl rfl rfl ?_; intro a hE
        refine s_move hE goes_none (by decide) rfl ?_; intro a hE
        refine c_fin0 ?_
        refine c_mid ?_
        have hM := M.fst (l := [_]) hM
        exact ⟨_, (Option.some.inj hs11).symm, u27, hE.sub ⟨rfl, rfl, rfl, rfl, trivial⟩, hM⟩
    · intro hb14
      have hs11 := ite_f hs11 hb14
      refine wp_exit (e_then (e_then (e_eq ?_)))
      have ht30 := hx12 _ (Option.some.inj hs11).symm
      subst ht30
      refine c_mid ?_
      exact ⟨u9, hE.sub ⟨rfl, trivial⟩, hM⟩
  · skip
    rintro a w ⟨u6, hE, hM⟩
    refine c_nx ?_
    refine c_region ?_
    refine s_move hE goes_none (by decide) rfl ?_; intro a hE
    refine s_bytesStr hE goes_none (by decide) rfl Tryd.underlying22 Tryd.underlying5 Tryd.underlying9 (hM.sl (pre := []) noB) ?_; intro a hE
    refine s_assign hE goes_none (by decide) rfl ?_; intro a hE
    refine c_fin ?_
    have hr := Option.some.inj hF5
    subst hr
    have hM := M.fst (l := []) hM
    exact wp_ret (k_ret1 hE rfl (res_tmp hE rfl) ⟨_, rfl, rfl, hM.kept⟩)
noncomputable def F_impl_shareText (p0 : GShare) : Option (Str) :=
  ((F_impl_decimal (bI p0.Place)).bind fun (r7 : Str) => (scat r7 (⟨[58]⟩ : Str)).bind fun (x9 : Str) => (F_impl_hexOf p0.Data).bind fun (r11 : Str) => (scat x9 r11).bind fun (x13 : Str) => some x13 : Option (Str)).bind fun (j3 : Str) => some j3
set_option maxRecDepth 20000 in
set_option maxHeartbeats 400000 in
theorem c_impl_shareText (w0 : World) (p0 : GShare) (v0_1 : Value) (hv0_1 : Ro w0 p0.Data [v0_1]) (hT : TabT w0) (r : Str) (hF : F_impl_shareText p0 = some r) :
    Calls Tryd.prog 19 [(Value.agg (cat [[(vB p0.Place)], [v0_1]]).toArray)].toArray w0 (fun en w' => ∃ v, en = .returned v ∧ (v = (vS r) ∧ Kept (Old w0) w0 w')) := by
  refine c_enter (n := 12) Tryd.func19 rfl rfl (Nat.le_of_ble_eq_true rfl) rfl ?_
  intro a hE
  have hM := M.start w0
  unfold F_impl_shareText at hF
  refine c_region ?_
  refine s_box (cs := cat [[(vB p0.Place)], [v0_1]]) hE hM goes_none (by decide) rfl rfl ?_; intro b1 w a hM hE
  refine s_assign hE goes_none (by decide) rfl ?_; intro a hE
  refine c_fin ?_
  obtain ⟨j3, hl4, hF5⟩ := bind_some hF
  refine c_join (fun a w => Env 12 a [(2, (vS j3))] ∧ M (Old w0) w0 w []) ?_ ?_
  · skip
    obtain ⟨r7, e8, hl4⟩ := bind_some hl4
    obtain ⟨x9, e10, hl4⟩ := bind_some hl4
    obtain ⟨r11, e12, hl4⟩ := bind_some hl4
    obtain ⟨x13, e14, hl4⟩ := bind_some hl4
    refine c_drawP [3, 4, 5, 6, 7, 8, 9, 10, 11, 2] hmix rfl rfl (by decide) rfl hE hM (qsP (fun z => s_fieldAddr z.E goes_none (by decide) rfl (fd28_0) (kr0 rfl)) (qsP (fun z => s_load (v := (vB p0.Place)) z.E goes_none (by decide) rfl ty5 rfl (At.cat (pre := []) (seg := [(vB p0.Place)]) (post := [[v0_1]]) (z.M.rawAt (pre := [])) cl0) (kr0 rfl)) (qsP (fun z => s_convW z.E goes_none (by decide) rfl Tryd.underlying5 Tryd.underlying2 (kr0 rfl)) (qsP (fun z => s_call (vs := [(vI (bI p0.Place))]) z.E goes_none (by decide) rfl cb33 (c_impl_decimal _ (bI p0.Place) (hT.kept z.M.kept) r7 e8) (kc rfl)) (qsP (fun z => s_scat z.E goes_none (by decide) rfl rfl e10 (kr0 rfl)) (qsP (fun z => s_fieldAddr z.E goes_none (by decide) rfl (fd28_1) (kr0 rfl)) (qsP (fun z => s_load (v := v0_1) z.E goes_none (by decide) rfl ty22 rfl (At.cat (pre := [[(vB p0.Place)]]) (seg := [v0_1]) (post := []) (z.M.rawAt (pre := [])) (cl1 (n := 1) (m := 0) rfl cl0)) (kr0 rfl)) (qsP (fun z => s_call (vs := [v0_1]) z.E goes_none (by decide) rfl cb34 (c_impl_hexOf _ p0.Data v0_1 (z.M.rdo hv0_1) r11 e12) (kc rfl)) (qsP (fun z => s_scat z.E goes_none (by decide) rfl rfl e14 (kr0 rfl)) (qsP (fun z => s_assign z.E goes_none (by decide) rfl (kr0 rfl)) qs0)))))))))) ?_
    · intro a w u hE hM
      refine c_fin0 ?_
      have ht15 := Option.some.inj hl4
      subst ht15
      refine c_mid ?_
      have hM := M.fst (l := []) hM
      exact ⟨hE.sub ⟨rfl, trivial⟩, hM⟩
  · skip
    rintro a w ⟨hE, hM⟩
    have hr := Option.some.inj hF5
    subst hr
    exact wp_ret (k_ret1 hE rfl (res_tmp hE rfl) ⟨_, rfl, rfl, hM.kept⟩)
noncomputable def F_impl_ShareText (p0 : GShare) : Option (Str × Int) :=
  (F_impl_isShare p0).bind fun (r3 : Bool) => if (!r3) = true then (some ((⟨[]⟩ : Str), 1)) else ((F_impl_shareText p0).bind fun (r6 : Str) => some (r6, 0))
set_option maxRecDepth 20000 in
set_option maxHeartbeats 400000 in
theorem c_impl_ShareText (w0 : World) (p0 : GShare) (v0_1 : Value) (hv0_1 : Ro w0 p0.Data [v0_1]) (hT : TabT w0) (r : Str × Int) (hF : F_impl_ShareText p0 = some r) :
    Calls Tryd.prog 8 [(Value.agg (cat [[(vB p0.Place)], [v0_1]]).toArray)].toArray w0 (fun en w' => ∃ v, en = .returned v ∧ (v = (Value.tuple [(vS r.1), (vI r.2)].toArray) ∧ Kept (Old w0) w0 w')) := by
  refine c_enter (n := 9) Tryd.func8 rfl rfl (Nat.le_of_ble_eq_true rfl) rfl ?_
  intro a hE
  have hM := M.start w0
  unfold F_impl_ShareText at hF
  refine c_region ?_
  refine s_box (cs := cat [[(vB p0.Place)], [v0_1]]) hE hM goes_none (by decide) rfl rfl ?_; intro b1 w a hM hE
  refine s_assign hE goes_none (by decide) rfl ?_; intro a hE
  refine s_assign hE goes_none (by decide) rfl ?_; intro a hE
  refine c_fin ?_
  refine wp_seq ?_
  refine c_region ?_
  refine s_loadA (cs := cat [[(vB p0.Place)], [v0_1]]) hE goes_none (by decide) rfl ty28 rfl (hM.rawAt (pre := [])) (cat_len (cl1 (n := 1) (m := 1) rfl (cl1 (n := 1) (m := 0) rfl cl0))) ?_; intro a hE
  obtain ⟨r3, e4, hF⟩ := bind_some hF
  refine s_call (vs := [(Value.agg (cat [[(vB p0.Place)], [v0_1]]).toArray)]) hE goes_none (by decide) rfl cb18 (c_impl_isShare _ p0 v0_1 (hM.rdo hv0_1) r3 e4) ?_
  rintro v w a ⟨rfl, hK⟩ hE
  have hM := hM.keep hK
  refine s_not hE goes_none (by decide) rfl ?_; intro a hE
  refine c_fin ?_
  refine c_cond hE rfl ?_ ?_
  · intro hb5
    have hF := ite_t hF hb5
    refine c_region ?_
    refine s_assign hE goes_none (by decide) rfl ?_; intro a hE
    refine s_assign hE goes_none (by decide) rfl ?_; intro a hE
    refine c_fin ?_
    have hr := Option.some.inj hF
    subst hr
    have hM := M.fst (l := []) hM
    exact wp_ret (r_then (k_ret2 hE rfl (res_tmp hE rfl) (res_tmp hE rfl) ⟨_, rfl, rfl, hM.kept⟩))
  · intro hb5
    have hF := ite_f hF hb5
    refine wp_skip ?_
    refine c_nx ?_
    refine c_region ?_
    refine s_loadA (cs := cat [[(vB p0.Place)], [v0_1]]) hE goes_none (by decide) rfl ty28 rfl (hM.rawAt (pre := [])) (cat_len (cl1 (n := 1) (m := 1) rfl (cl1 (n := 1) (m := 0) rfl cl0))) ?_; intro a hE
    obtain ⟨r6, e7, hF⟩ := bind_some hF
    refine s_call (vs := [(Value.agg (cat [[(vB p0.Place)], [v0_1]]).toArray)]) hE goes_none (by decide) rfl cb19 (c_impl_shareText _ p0 v0_1 (hM.rdo hv0_1) (hT.kept hM.kept) r6 e7) ?_
    rintro v w a ⟨rfl, hK⟩ hE
    have hM := hM.keep hK
    refine s_assign hE goes_none (by decide) rfl ?_; intro a hE
    refine s_assign hE goes_none (by decide) rfl ?_; intro a hE
    refine c_fin ?_
    have hr := Option.some.inj hF
    subst hr
    have hM := M.fst (l := []) hM
    exact wp_ret (k_ret2 hE rfl (res_tmp hE rfl) (res_tmp hE rfl) ⟨_, rfl, rfl, hM.kept⟩)
noncomputable def L0_laws_eqByteS (p0 : (List UInt8)) (p1 : (List UInt8)) (s6 : Int) : Option (Fl Int (Fl Unit Bool)) :=
  if (decide (s6 < (p0.length : Int))) = true then (((idx p0 s6).bind fun (x15 : UInt8) => (idx p1 s6).bind fun (x18 : UInt8) => some (x15 != x18) : Option (Bool)).bind fun (j11 : Bool) => if j11 = true then (some (Fl.ex (Fl.ex false))) else (some (Fl.nx (wr (s6 + 1))))) else (some (Fl.ex (Fl.nx ())))
noncomputable def F_laws_eqByteS (p0 : (List UInt8)) (p1 : (List UInt8)) : Option (Bool) :=
  if ((p0.length : Int) != (p1.length : Int)) = true then (some false) else ((iter (L0_laws_eqByteS p0 p1) 0 : Option (Fl Unit Bool)).bind fun (j2 : Fl Unit Bool) => j2.el (fun (s5 : Unit) => some true) (fun r => some r))
set_option maxRecDepth 20000 in
set_option maxHeartbeats 400000 in
theorem c_laws_eqByteS (w0 : World) (p0 : (List UInt8)) (v0_1 : Value) (hv0_1 : Ro w0 p0 [v0_1]) (p1 : (List UInt8)) (v1_1 : Value) (hv1_1 : Ro w0 p1 [v1_1]) (r : Bool) (hF : F_laws_eqByteS p0 p1 = some r) :
    Calls Tryd.prog 20 [v0_1, v1_1].toArray w0 (fun en w' => ∃ v, en = .returned v ∧ (v = (vT r) ∧ Kept (Old w0) w0 w')) := by
  refine c_enter (n := 26) Tryd.func20 rfl rfl (Nat.le_of_ble_eq_true rfl) rfl ?_
  intro a hE
  have hM := M.start w0
  unfold F_laws_eqByteS at hF
  refine c_region ?_
  refine s_assign hE goes_none (by decide) rfl ?_; intro a hE
  refine c_fin ?_
  refine wp_seq ?_
  refine c_region ?_
  refine s_move hE goes_none (by decide) rfl ?_; intro a hE
  refine s_len hE goes_none (by decide) rfl Tryd.underlying22 (hM.rd hv0_1) ?_; intro a hE
  refine s_move hE goes_none (by decide) rfl ?_; intro a hE
  refine s_len hE goes_none (by decide) rfl Tryd.underlying22 (hM.rd hv1_1) ?_; intro a hE
  refine s_int hE goes_none (by decide) rfl rfl rfl ?_; intro a hE
  refine c_fin ?_
  refine c_cond hE rfl ?_ ?_
  · intro hb1
    have hF := ite_t hF hb1
    refine c_region ?_
    refine s_assign hE goes_none (by decide) rfl ?_; intro a hE
    refine c_fin ?_
    have hr := Option.some.inj hF
    subst hr
    exact wp_ret (r_then (k_ret1 hE rfl (res_tmp hE rfl) ⟨_, rfl, rfl, hM.kept⟩))
  · intro hb1
    have hF := ite_f hF hb1
    refine wp_skip ?_
    refine c_nx ?_
    refine wp_seq ?_
    refine c_region ?_
    refine s_assign hE goes_none (by decide) rfl ?_; intro a hE
    refine c_fin ?_
    obtain ⟨j2, hl3, hF4⟩ := bind_some hF
    refine c_cut (fun a w => ∃ s5 : Unit, j2 = Fl.nx s5 ∧ Env 26 a [] ∧ M (Old w0) w0 w []) ?_ ?_
    · skip
      refine wp_block ?_
      refine c_loop (fun (s6 : Int) a w => Env 26 a [(0, v0_1), (1, v1_1), (5, (vI s6))] ∧ M (Old w0) w0 w []) hl3 ⟨hE.sub ⟨rfl, rfl, rfl, trivial⟩, hM⟩ ?_
      rintro s6 a w ⟨hE, hM⟩ o9 hs7 hx8
      unfold L0_laws_eqByteS at hs7
      refine wp_seq ?_
      refine c_region ?_
      refine s_move hE goes_none (by decide) rfl ?_; intro a hE
      refine s_move hE goes_none (by decide) rfl ?_; intro a hE
      refine s_len hE goes_none (by decide) rfl Tryd.underlying22 (hM.rd hv0_1) ?_; intro a hE
      refine s_int hE goes_none (by decide) rfl rfl rfl ?_; intro a hE
      refine c_fin ?_
      refine c_cond hE rfl ?_ ?_
      · intro hb10
        have hs7 := ite_t hs7 hb10
        refine wp_skip ?_
        refine c_nx ?_
        refine wp_seq ?_
        refine wp_block ?_
        obtain ⟨j11, hl12, hF13⟩ := bind_some hs7
        refine c_join (fun a w => Env 26 a [(0, v0_1), (1, v1_1), (5, (vI s6)), (25, (vT j11))] ∧ M (Old w0) w0 w []) ?_ ?_
        · skip
          obtain ⟨x15, e16, hl12⟩ := bind_some hl12
          have hi17 := idx_some e16
          obtain ⟨x18, e19, hl12⟩ := bind_some hl12
          have hi20 := idx_some e19
          refine c_drawP [17, 18, 19, 20, 21, 22, 23, 24, 25] hmix rfl rfl (by decide) rfl hE hM (qsP (fun z => s_move z.E goes_none (by decide) rfl (kr0 rfl)) (qsP (fun z => s_move z.E goes_none (by decide) rfl (kr0 rfl)) (qsP (fun z => s_indexS z.E goes_none (by decide) rfl rfl Tryd.underlying22 ty5 (z.M.rd hv0_1) hi17.1 (kr0 rfl)) (qsP (fun z => s_load (v := (vB x15)) z.E goes_none (by decide) rfl ty5 rfl (sl_atF (z.M.rd hv0_1) hi17.2) (kr0 rfl)) (qsP (fun z => s_move z.E goes_none (by decide) rfl (kr0 rfl)) (qsP (fun z => s_move z.E goes_none (by decide) rfl (kr0 rfl)) (qsP (fun z => s_indexS z.E goes_none (by decide) rfl rfl Tryd.underlying22 ty5 (z.M.rd hv1_1) hi20.1 (kr0 rfl)) (qsP (fun z => s_load (v := (vB x18)) z.E goes_none (by decide) rfl ty5 rfl (sl_atF (z.M.rd hv1_1) hi20.2) (kr0 rfl)) (qsP (fun z => s_int z.E goes_none (by decide) rfl rfl (bB_neq x15 x18) (kr0 rfl)) qs0))))))))) ?_
          · intro a w u hE hM
            refine c_fin0 ?_
            have ht21 := Option.some.inj hl12
            subst ht21
            refine c_mid ?_
            exact ⟨hE.sub ⟨rfl, rfl, rfl, rfl, trivial⟩, hM⟩
        · skip
          rintro a w ⟨hE, hM⟩
          refine c_cond hE rfl ?_ ?_
          · intro hb22
            have hF13 := ite_t hF13 hb22
            refine c_region ?_
            refine s_assign hE goes_none (by decide) rfl ?_; intro a hE
            refine c_fin ?_
            have ht23 := hx8 _ (Option.some.inj hF13).symm
            subst ht23
            have hr := Option.some.inj hF4
            subst hr
            exact wp_ret (r_inb (r_then (r_then (r_inb (r_then (r_then (k_ret1 hE rfl (res_tmp hE rfl) ⟨_, rfl, rfl, hM.kept⟩)))))))
          · intro hb22
            have hF13 := ite_f hF13 hb22
            refine wp_skip ?_
            refine c_nb ?_
            refine c_nx ?_
            refine wp_region_lit ?_
            refine s_move hE goes_none (by decide) rfl ?_; intro a hE
            refine s_int hE goes_none (by decide) rfl rfl rfl ?_; intro a hE
            refine s_assign hE goes_none (by decide) rfl ?_; intro a hE
            refine c_fin0 ?_
            refine c_mid ?_
            exact ⟨_, (Option.some.inj hF13).symm, hE.sub ⟨rfl, rfl, rfl, trivial⟩, hM⟩
      · intro hb10
        have hs7 := ite_f hs7 hb10
        refine wp_exit (e_then (e_then (e_eq ?_)))
        have ht24 := hx8 _ (Option.some.inj hs7).symm
        subst ht24
        refine c_mid ?_
        exact ⟨(), rfl, hE.sub trivial, hM⟩
    · skip
      rintro a w ⟨s5, ht, hE, hM⟩
      subst ht
      have hF4 := el_nx hF4
      refine c_nx ?_
      refine c_region ?_
      refine s_assign hE goes_none (by decide) rfl ?_; intro a hE
      refine c_fin ?_
      have hr := Option.some.inj hF4
      subst hr
      exact wp_ret (k_ret1 hE rfl (res_tmp hE rfl) ⟨_, rfl, rfl, hM.kept⟩)
noncomputable def F_laws_eqShare (p0 : GShare) (p1 : GShare) : Option (Bool) :=
  if (p0.Place != p1.Place) = true then (some false) else ((F_laws_eqByteS p0.Data p1.Data).bind fun (r6 : Bool) => if (!r6) = true then (some false) else (some true))
set_option maxRecDepth 20000 in
set_option maxHeartbeats 400000 in
theorem c_laws_eqShare (w0 : World) (p0 : GShare) (v0_1 : Value) (hv0_1 : Ro w0 p0.Data [v0_1]) (p1 : GShare) (v1_1 : Value) (hv1_1 : Ro w0 p1.Data [v1_1]) (r : Bool) (hF : F_laws_eqShare p0 p1 = some r) :
    Calls Tryd.prog 9 [(Value.agg (cat [[(vB p0.Place)], [v0_1]]).toArray), (Value.agg (cat [[(vB p1.Place)], [v1_1]]).toArray)].toArray w0 (fun en w' => ∃ v, en = .returned v ∧ (v = (vT r) ∧ Kept (Old w0) w0 w')) := by
  refine c_enter (n := 16) Tryd.func9 rfl rfl (Nat.le_of_ble_eq_true rfl) rfl ?_
  intro a hE
  have hM := M.start w0
  unfold F_laws_eqShare at hF
  refine c_region ?_
  refine s_box (cs := cat [[(vB p0.Place)], [v0_1]]) hE hM goes_none (by decide) rfl rfl ?_; intro b1 w a hM hE
  refine s_box (cs := cat [[(vB p1.Place)], [v1_1]]) hE hM goes_none (by decide) rfl rfl ?_; intro b3 w a hM hE
  refine s_assign hE goes_none (by decide) rfl ?_; intro a hE
  refine c_fin ?_
  refine wp_seq ?_
  refine c_region ?_
  refine s_fieldAddr hE goes_none (by decide) rfl (fd28_0) ?_; intro a hE
  refine s_load (v := (vB p0.Place)) hE goes_none (by decide) rfl ty5 rfl (At.cat (pre := []) (seg := [(vB p0.Place)]) (post := [[v0_1]]) (hM.rawAt (pre := [_])) cl0) ?_; intro a hE
  refine s_fieldAddr hE goes_none (by decide) rfl (fd28_0) ?_; intro a hE
  refine s_load (v := (vB p1.Place)) hE goes_none (by decide) rfl ty5 rfl (At.cat (pre := []) (seg := [(vB p1.Place)]) (post := [[v1_1]]) (hM.rawAt (pre := [])) cl0) ?_; intro a hE
  refine s_int hE goes_none (by decide) rfl rfl (bB_neq p0.Place p1.Place) ?_; intro a hE
  refine c_fin ?_
  refine c_cond hE rfl ?_ ?_
  · intro hb5
    have hF := ite_t hF hb5
    refine c_region ?_
    refine s_assign hE goes_none (by decide) rfl ?_; intro a hE
    refine c_fin ?_
    have hr := Option.some.inj hF
    subst hr
    have hM := M.fst (l := []) hM
    exact wp_ret (r_then (k_ret1 hE rfl (res_tmp hE rfl) ⟨_, rfl, rfl, hM.kept⟩))
  · intro hb5
    have hF := ite_f hF hb5
    refine wp_skip ?_
    refine c_nx ?_
    refine wp_seq ?_
    refine c_region ?_
    refine s_fieldAddr hE goes_none (by decide) rfl (fd28_1) ?_; intro a hE
    refine s_load (v := v0_1) hE goes_none (by decide) rfl ty22 rfl (At.cat (pre := [[(vB p0.Place)]]) (seg := [v0_1]) (post := []) (hM.rawAt (pre := [_])) (cl1 (n := 1) (m := 0) rfl cl0)) ?_; intro a hE
    refine s_fieldAddr hE goes_none (by decide) rfl (fd28_1) ?_; intro a hE
    refine s_load (v := v1_1) hE goes_none (by decide) rfl ty22 rfl (At.cat (pre := [[(vB p1.Place)]]) (seg := [v1_1]) (post := []) (hM.rawAt (pre := [])) (cl1 (n := 1) (m := 0) rfl cl0)) ?_; intro a hE
    obtain ⟨r6, e7, hF⟩ := bind_some hF
    refine s_call (vs := [v0_1, v1_1]) hE goes_none (by decide) rfl cb20 (c_laws_eqByteS _ p0.Data v0_1 (hM.rdo hv0_1) p1.Data v1_1 (hM.rdo hv1_1) r6 e7) ?_
    rintro v w a ⟨rfl, hK⟩ hE
    have hM := hM.keep hK
    refine s_not hE goes_none (by decide) rfl ?_; intro a hE
    refine c_fin ?_
    refine c_cond hE rfl ?_ ?_
    · intro hb8
      have hF := ite_t hF hb8
      refine c_region ?_
      refine s_assign hE goes_none (by decide) rfl ?_; intro a hE
      refine c_fin ?_
      have hr := Option.some.inj hF
      subst hr
      have hM := M.fst (l := []) hM
      exact wp_ret (r_then (k_ret1 hE rfl (res_tmp hE rfl) ⟨_, rfl, rfl, hM.kept⟩))
    · intro hb8
      have hF := ite_f hF hb8
      refine wp_skip ?_
      refine c_nx ?_
      refine c_region ?_
      refine s_assign hE goes_none (by decide) rfl ?_; intro a hE
      refine c_fin ?_
      have hr := Option.some.inj hF
      subst hr
      have hM := M.fst (l := []) hM
      exact wp_ret (k_ret1 hE rfl (res_tmp hE rfl) ⟨_, rfl, rfl, hM.kept⟩)
noncomputable def F_laws_FnExactShareText (p0 : GShare) : Option (Bool) :=
  (F_laws_szShare p0 1048576).bind fun (r3 : Int) => if (decide (r3 < 0)) = true then (some true) else ((F_laws_toShare p0).bind fun (r6 : GShare) => (F_spec_ShareText r6).bind fun (r9 : Str × Int) => (F_laws_toShare p0).bind fun (r11 : GShare) => (F_impl_ShareText r11).bind fun (r16 : Str × Int) => (if (!decide (r16.1 = r9.1)) = true then (some true) else (some (r16.2 != r9.2)) : Option (Bool)).bind fun (j18 : Bool) => if j18 = true then (some false) else (((F_laws_toShare p0).bind fun (r29 : GShare) => (F_laws_eqShare r11 r29).bind fun (r34 : Bool) => some (!r34) : Option (Bool)).bind fun (j25 : Bool) => if j25 = true then (some false) else (some true)))
set_option maxRecDepth 20000 in
set_option maxHeartbeats 400000 in
theorem c_laws_FnExactShareText (w0 : World) (p0 : GShare) (v0_1 : Value) (hv0_1 : Ro w0 p0.Data [v0_1]) (hT : TabT w0) (r : Bool) (hF : F_laws_FnExactShareText p0 = some r) :
    Calls Tryd.prog 3 [(Value.agg (cat [[(vB p0.Place)], [v0_1]]).toArray)].toArray w0 (fun en w' => ∃ v, en = .returned v ∧ (v = (vT r) ∧ Kept (Old w0) w0 w')) := by
  refine c_enter (n := 40) Tryd.func3 rfl rfl (Nat.le_of_ble_eq_true rfl) rfl ?_
  intro a hE
  have hM := M.start w0
  unfold F_laws_FnExactShareText at hF
  refine c_region ?_
  refine s_box (cs := cat [[(vB p0.Place)], [v0_1]]) hE hM goes_none (by decide) rfl rfl ?_; intro b1 w a hM hE
  refine s_assign hE goes_none (by decide) rfl ?_; intro a hE
  refine c_fin ?_
  refine c_region ?_
  refine s_assign hE goes_none (by decide) rfl ?_; intro a hE
  refine c_fin ?_
  refine c_region ?_
  refine s_loadA (cs := cat [[(vB p0.Place)], [v0_1]]) hE goes_none (by decide) rfl ty24 rfl (hM.rawAt (pre := [])) (cat_len (cl1 (n := 1) (m := 1) rfl (cl1 (n := 1) (m := 0) rfl cl0))) ?_; intro a hE
  refine s_move hE goes_none (by decide) rfl ?_; intro a hE
  obtain ⟨r3, e4, hF⟩ := bind_some hF
  refine s_call (vs := [(Value.agg (cat [[(vB p0.Place)], [v0_1]]).toArray), (vI 1048576)]) hE goes_none (by decide) rfl cb5 (c_laws_szShare _ p0 v0_1 (hM.rdo hv0_1) 1048576 r3 e4) ?_
  rintro v w a ⟨rfl, hK⟩ hE
  have hM := hM.keep hK
  refine s_assign hE goes_none (by decide) rfl ?_; intro a hE
  refine c_fin ?_
  refine wp_seq ?_
  refine c_region ?_
  refine s_move hE goes_none (by decide) rfl ?_; intro a hE
  refine s_int hE goes_none (by decide) rfl rfl rfl ?_; intro a hE
  refine c_fin ?_
  refine c_cond hE rfl ?_ ?_
  · intro hb5
    have hF := ite_t hF hb5
    refine c_region ?_
    refine s_assign hE goes_none (by decide) rfl ?_; intro a hE
    refine c_fin ?_
    have hr := Option.some.inj hF
    subst hr
    have hM := M.fst (l := []) hM
    exact wp_ret (r_then (k_ret1 hE rfl (res_tmp hE rfl) ⟨_, rfl, rfl, hM.kept⟩))
  · intro hb5
    have hF := ite_f hF hb5
    refine wp_skip ?_
    refine c_nx ?_
    refine c_region ?_
    refine s_loadA (cs := cat [[(vB p0.Place)], [v0_1]]) hE goes_none (by decide) rfl ty24 rfl (hM.rawAt (pre := [])) (cat_len (cl1 (n := 1) (m := 1) rfl (cl1 (n := 1) (m := 0) rfl cl0))) ?_; intro a hE
    obtain ⟨r6, e7, hF⟩ := bind_some hF
    refine s_call (vs := [(Value.agg (cat [[(vB p0.Place)], [v0_1]]).toArray)]) hE goes_none (by decide) rfl cb7 (c_laws_toShare _ p0 v0_1 (hM.rdo hv0_1) r6 e7) ?_
    rintro v w a ⟨u8, rfl, hFr, hK⟩ hE
    have hM := hM.add hK hFr
    obtain ⟨r9, e10, hF⟩ := bind_some hF
    refine s_call (vs := [(Value.agg (cat [[(vB r6.Place)], [u8]]).toArray)]) hE goes_none (by decide) rfl cb6 (c_spec_ShareText _ r6 u8 (hM.sl (pre := []) noB) r9 e10) ?_
    rintro v w a ⟨rfl, hK⟩ hE
    have hM := hM.keep hK
    refine s_move hE goes_none (by decide) rfl ?_; intro a hE
    refine s_extract hE goes_none (by decide) rfl rfl ?_; intro a hE
    refine s_extract hE goes_none (by decide) rfl rfl ?_; intro a hE
    refine s_assign hE goes_none (by decide) rfl ?_; intro a hE
    refine s_assign hE goes_none (by decide) rfl ?_; intro a hE
    refine c_fin ?_
    refine c_region ?_
    refine s_loadA (cs := cat [[(vB p0.Place)], [v0_1]]) hE goes_none (by decide) rfl ty24 rfl (hM.rawAt (pre := [_])) (cat_len (cl1 (n := 1) (m := 1) rfl (cl1 (n := 1) (m := 0) rfl cl0))) ?_; intro a hE
    obtain ⟨r11, e12, hF⟩ := bind_some hF
    refine s_call (vs := [(Value.agg (cat [[(vB p0.Place)], [v0_1]]).toArray)]) hE goes_none (by decide) rfl cb7 (c_laws_toShare _ p0 v0_1 (hM.rdo hv0_1) r11 e12) ?_
    rintro v w a ⟨u13, rfl, hFr, hK⟩ hE
    have hM := hM.add hK hFr
    refine s_alloc hE hM goes_none (by decide) ty28 ?_; intro b14 w a hM hE
    refine s_store (seg := cat [[(vB r11.Place)], [u13]]) (cs' := cat [[(vB r11.Place)], [u13]]) hE hM goes_none rfl rfl rfl ty28 (cat_len (cl1 (n := 1) (m := 1) rfl (cl1 (n := 1) (m := 0) rfl cl0))) (Nat.le_of_eq ((Nat.zero_add _).trans (Eq.trans (cat_len (cl1 (n := 1) (m := 1) rfl (cl1 (n := 1) (m := 0) rfl cl0))) (Eq.symm (cat_len (cl1 (n := 1) (m := 1) rfl (cl1 (n := 1) (m := 0) rfl cl0))))))) (cat_cell (cc1 (Flat.cell (r11.Place : UInt8)) (cc1 (Rep.cell (hM.sl (pre := [_]) noB)) cc0))) (splice_all (Eq.trans (cat_len (cl1 (n := 1) (m := 1) rfl (cl1 (n := 1) (m := 0) rfl cl0))) (Eq.symm (cat_len (cl1 (n := 1) (m := 1) rfl (cl1 (n := 1) (m := 0) rfl cl0)))))) ?_; intro w a hM hE
    refine c_fin ?_
    refine c_region ?_
    refine s_loadA (cs := cat [[(vB r11.Place)], [u13]]) hE goes_none (by decide) rfl ty28 rfl (hM.rawAt (pre := [])) (cat_len (cl1 (n := 1) (m := 1) rfl (cl1 (n := 1) (m := 0) rfl cl0))) ?_; intro a hE
    obtain ⟨r16, e17, hF⟩ := bind_some hF
    refine s_call (vs := [(Value.agg (cat [[(vB r11.Place)], [u13]]).toArray)]) hE goes_none (by decide) rfl cb8 (c_impl_ShareText _ r11 u13 (hM.sl (pre := [_]) noB) (hT.kept hM.kept) r16 e17) ?_
    rintro v w a ⟨rfl, hK⟩ hE
    have hM := hM.keep hK
    refine s_move hE goes_none (by decide) rfl ?_; intro a hE
    refine s_extract hE goes_none (by decide) rfl rfl ?_; intro a hE
    refine s_extract hE goes_none (by decide) rfl rfl ?_; intro a hE
    refine s_assign hE goes_none (by decide) rfl ?_; intro a hE
    refine s_assign hE goes_none (by decide) rfl ?_; intro a hE
    refine c_fin ?_
    refine wp_seq ?_
    obtain ⟨j18, hl19, hF20⟩ := bind_some hF
    refine c_join (fun a w => Env 40 a [(1, (ptr b1 0)), (6, (ptr b14 0)), (34, (vT j18))] ∧ M (Old w0) w0 w [raw b14 (cat [[(vB r11.Place)], [u13]]), osl NoB (r11.Data : List UInt8) u13, raw b1 (cat [[(vB p0.Place)], [v0_1]])]) ?_ ?_
    · skip
      refine wp_region_lit ?_
      refine s_move hE goes_none (by decide) rfl ?_; intro a hE
      refine s_move hE goes_none (by decide) rfl ?_; intro a hE
      refine s_neS hE goes_none (by decide) rfl rfl ?_; intro a hE
      refine s_move hE goes_none (by decide) rfl ?_; intro a hE
      refine splitB (!decide (r16.1 = r9.1)) (fun hb21 => ?_) (fun hb21 => ?_)
      · have hl19 := ite_t hl19 hb21
        refine s_skip hE rfl (lkb rfl hb21) rfl (by decide) ?_; intro a hE
        refine s_skip hE rfl (lkb rfl hb21) rfl (by decide) ?_; intro a hE
        refine s_skip hE rfl (lkb rfl hb21) rfl (by decide) ?_; intro a hE
        refine s_pickT hE goes_none (by decide) (lkb rfl hb21) rfl ?_; intro a hE
        refine c_fin0 ?_
        have ht22 := Option.some.inj hl19
        subst ht22
        refine c_mid ?_
        have hM := hM.pull (pre := [_, _, _])
        have hM := hM.pull (pre := [_, _])
        have hM := hM.pull (pre := [_, _])
        have hM := M.fst (l := [_, _, _]) hM
        exact ⟨hE.sub ⟨rfl, rfl, rfl, trivial⟩, hM⟩
      · have hl19 := ite_f hl19 hb21
        refine s_move hE (goes_yes hE rfl (lkb rfl hb21)) (by decide) rfl ?_; intro a hE
        refine s_move hE (goes_yes hE rfl (lkb rfl hb21)) (by decide) rfl ?_; intro a hE
        refine s_int hE (goes_yes hE rfl (lkb rfl hb21)) (by decide) rfl rfl rfl ?_; intro a hE
        refine s_pickF hE goes_none (by decide) (lkb rfl hb21) rfl ?_; intro a hE
        refine c_fin0 ?_
        have ht23 := Option.some.inj hl19
        subst ht23
        refine c_mid ?_
        have hM := hM.pull (pre := [_, _, _])
        have hM := hM.pull (pre := [_, _])
        have hM := hM.pull (pre := [_, _])
        have hM := M.fst (l := [_, _, _]) hM
        exact ⟨hE.sub ⟨rfl, rfl, rfl, trivial⟩, hM⟩
    · skip
      rintro a w ⟨hE, hM⟩
      refine c_cond hE rfl ?_ ?_
      · intro hb24
        have hF20 := ite_t hF20 hb24
        refine c_region ?_
        refine s_assign hE goes_none (by decide) rfl ?_; intro a hE
        refine c_fin ?_
        have hr := Option.some.inj hF20
        subst hr
        have hM := M.fst (l := []) hM
        exact wp_ret (r_then (k_ret1 hE rfl (res_tmp hE rfl) ⟨_, rfl, rfl, hM.kept⟩))
      · intro hb24
        have hF20 := ite_f hF20 hb24
        refine wp_skip ?_
        refine c_nx ?_
        refine wp_seq ?_
        obtain ⟨j25, hl26, hF27⟩ := bind_some hF20
        refine c_join (fun a w => Env 40 a [(39, (vT j25))] ∧ M (Old w0) w0 w []) ?_ ?_
        · skip
          obtain ⟨r29, e30, hl26⟩ := bind_some hl26
          refine c_drawQ (its := [raw b14 (cat [[(vB r11.Place)], [u13]]), osl NoB (r11.Data : List UInt8) u13, raw b1 (cat [[(vB p0.Place)], [v0_1]])]) (mk := ([mkO 2 (fun v => own NoB r29 (Value.cells v).toList)] : Mk)) [35, 36, 37] hmix rfl rfl (by decide) rfl hE (fun u => M.qE (M.q0 hM.drew u) emO) (qsP (v := (Value.agg (cat [[(vB r11.Place)], [u13]]).toArray)) ?_ (qsP (v := (Value.agg (cat [[(vB p0.Place)], [v0_1]]).toArray)) ?_ (qsM (pr := fun v => ∃ cs, v = .agg cs) ?_ qs0))) ?_
          · intro a w ux28 D z
            have hE := z.E
            have hM := z.M
            refine s_loadA (cs := cat [[(vB r11.Place)], [u13]]) hE goes_none (by decide) rfl ty28 rfl (hM.rawAt (pre := [])) (cat_len (cl1 (n := 1) (m := 1) rfl (cl1 (n := 1) (m := 0) rfl cl0))) ?_; intro a hE
            exact ⟨Kept.refl _ _, _, rfl, hE⟩
          · intro a w ux28 D z
            have hE := z.E
            have hM := z.M
            refine s_loadA (cs := cat [[(vB p0.Place)], [v0_1]]) hE goes_none (by decide) rfl ty24 rfl (hM.rawAt (pre := [_, _])) (cat_len (cl1 (n := 1) (m := 1) rfl (cl1 (n := 1) (m := 0) rfl cl0))) ?_; intro a hE
            exact ⟨Kept.refl _ _, _, rfl, hE⟩
          · intro a w ux28 D z
            have hE := z.E
            have hD : D 2 = false := z.F
            have hM0 := z.M
            have hM := z.M
            refine s_call (vs := [(Value.agg (cat [[(vB p0.Place)], [v0_1]]).toArray)]) hE goes_none (by decide) rfl cb7 (c_laws_toShare _ p0 v0_1 (hM.rdo hv0_1) r29 e30) ?_
            rintro _ w a ⟨u31, rfl, hFr, hK⟩ hE
            have hM := hM0.add hK hFr
            have hM := pm_GShare (x := r29) hM sio
            exact ⟨_, _, rfl, hE, M.qFill (mk1 := []) (mk2 := []) (f := (fun v => own NoB r29 (Value.cells v).toList)) hM rfl hD, ⟨_, rfl⟩⟩
          · intro a w ux28 D hE hM hG hall
            have d2 : D 2 = true := hall 2 (by decide)
            have hM := hM.sure (pre := [_, _, _]) d2
            obtain ⟨q28_2_0_1, hcz, _⟩ := un_GShare (hM.ro (pre := [_, _, _]) noB)
            have qK32 : (ux28 2) = (Value.agg (cat [[(vB r29.Place)], [q28_2_0_1]]).toArray) := aggQ hcz (hG 2 d2 _ rfl).2
            have hM := hM.pull (pre := [_, _, _])
            have hM := um_GShare (hM.recown (congrArg (fun v => (Value.cells v).toList) qK32))
            have hE := hE.setq (t := 37) rfl qK32
            obtain ⟨r34, e35, hl26⟩ := bind_some hl26
            refine s_call (vs := [(Value.agg (cat [[(vB r11.Place)], [u13]]).toArray), (Value.agg (cat [[(vB r29.Place)], [q28_2_0_1]]).toArray)]) hE goes_none (by decide) rfl cb9 (c_laws_eqShare _ r11 u13 (hM.sl (pre := [_, _]) noB) r29 q28_2_0_1 (hM.ro (pre := []) noB) r34 e35) ?_
            rintro v w a ⟨rfl, hK⟩ hE
            have hM := hM.keep hK
            refine s_not hE goes_none (by decide) rfl ?_; intro a hE
            refine c_fin0 ?_
            have ht36 := Option.some.inj hl26
            subst ht36
            refine c_mid ?_
            have hM := M.fst (l := []) hM
            exact ⟨hE.sub ⟨rfl, trivial⟩, hM⟩
        · skip
          rintro a w ⟨hE, hM⟩
          refine c_cond hE rfl ?_ ?_
          · intro hb37
            have hF27 := ite_t hF27 hb37
            refine c_region ?_
            refine s_assign hE goes_none (by decide) rfl ?_; intro a hE
            refine c_fin ?_
            have hr := Option.some.inj hF27
            subst hr
            exact wp_ret (r_then (k_ret1 hE rfl (res_tmp hE rfl) ⟨_, rfl, rfl, hM.kept⟩))
          · intro hb37
            have hF27 := ite_f hF27 hb37
            refine wp_skip ?_
            refine c_nx ?_
            refine c_region ?_
            refine s_assign hE goes_none (by decide) rfl ?_; intro a hE
            refine c_fin ?_
            have hr := Option.some.inj hF27
            subst hr
            exact wp_ret (k_ret1 hE rfl (res_tmp hE rfl) ⟨_, rfl, rfl, hM.kept⟩)
end Go.Proofs.YtkcaldgoomphaaaDoor
