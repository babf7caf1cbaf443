/- The walk of what the law reaches: contracts of functions. -/
import Derived.Test.YtkcaldgoomphaaaDoorShelfP
import Derived.Test.YtkcaldgoomphaaaDoorProg
set_option linter.unusedVariables false
set_option linter.unusedSimpArgs false
namespace Go.Proofs.YtkcaldgoomphaaaDoor
open Go
structure GShare where
  Place : UInt8
  Data : (List UInt8)
  deriving DecidableEq, Inhabited
instance : Dat GShare := ⟨fun x => Dat.bd (α := UInt8 × (List UInt8)) (x.Place, x.Data), fun x => Dat.sz (α := UInt8 × (List UInt8)) (x.Place, x.Data) + 1⟩
instance : Rep GShare := repIso (α := UInt8 × (List UInt8)) (fun x => (x.Place, x.Data))
theorem unf_GShare {S : Nat → Prop} {w : World} {x : GShare} {cs : List Value} {fp : List Nat} (h : Rep.sat S w x cs fp) : ∃ (u1 : Value), ∃ (g1 : List Nat), cs = cat [Flat.enc x.Place, [u1]] ∧ fp = g1 ∧ Rep.sat S w x.Data [u1] g1 := by
  obtain ⟨c0, d0, f0, q0, rfl, rfl, h0, hr0⟩ := h
  obtain ⟨rfl, rfl⟩ := h0
  obtain ⟨u1, rfl⟩ := sl_one hr0
  exact ⟨u1, _, rfl, by simp, hr0⟩
theorem unc_GShare {S : Nat → Prop} {w : World} {x : GShare} {u1 : Value} {fp : List Nat} (h : Rep.sat S w x (cat [Flat.enc x.Place, [u1]]) fp) : ∃ (g1 : List Nat), fp = g1 ∧ Rep.sat S w x.Data [u1] g1 := by
  obtain ⟨w1, g1, hc, hf, s1⟩ := unf_GShare h
  obtain ⟨e1, k1⟩ := cat_inj hc rfl
  obtain rfl := (List.cons.inj k1).1
  exact ⟨g1, hf, s1⟩
theorem un_GShare {S : Nat → Prop} {w : World} {x : GShare} {cs : List Value} (h : Rep.sat S w x cs []) : ∃ u1, cs = cat [Flat.enc x.Place, [u1]] ∧ Rep.sat S w x.Data [u1] [] := by
  obtain ⟨c0, d0, f0, g0, rfl, hf0, h0, hr0⟩ := h
  obtain ⟨rfl, rfl⟩ := List.append_eq_nil_iff.1 hf0.symm
  obtain ⟨rfl, _⟩ := h0
  obtain ⟨u1, rfl⟩ := sl_one hr0
  exact ⟨u1, rfl, hr0⟩
theorem pk_GShare {S : Nat → Prop} {w : World} {x : GShare} {u1 : Value} {g1 fp : List Nat} (h1 : Rep.sat S w x.Data [u1] g1) (hfp : fp = g1) : Rep.sat S w x (cat [Flat.enc x.Place, [u1]]) fp := by
  rw [hfp]
  refine ⟨_, _, [], g1, rfl, (by simp), ⟨rfl, rfl⟩, ?_⟩
  exact h1
theorem pm_GShare {St : Nat → Prop} {w0 w : World} {its : List Item} {i1 : Item} {x : GShare} {u1 : Value} (h : M St w0 w (i1 :: its)) (s1 : SatI i1 x.Data u1) : M St w0 w (own NoB x (cat [Flat.enc x.Place, [u1]]) :: its) := h.packL (m := [_]) (own_loc noB) fun fp h => by obtain ⟨_, _, rfl, _, k1, rfl⟩ := h; exact pk_GShare (s1 _ _ k1) (by simp)
theorem um_GShare {St : Nat → Prop} {w0 w : World} {its : List Item} {x : GShare} {u1 : Value} (h : M St w0 w (own NoB x (cat [Flat.enc x.Place, [u1]]) :: its)) : M St w0 w (own NoB x.Data [u1] :: its) := h.unpackL (m := [own NoB x.Data [u1]]) fun fp h => by obtain ⟨_, rfl, s1⟩ := unc_GShare h; exact SepR.one (own_loc noB) s1
theorem zsat_GShare (w : World) : Rep.sat NoB w (⟨(0 : UInt8), ([] : (List UInt8))⟩ : GShare) (cat [(Flat.enc (0 : UInt8)), [.slice none 0 0]]) [] := pk_GShare zsat_nil rfl
theorem ty5 : Ty Tryd.prog 5 (.int .u8) 1 1 (Flat.enc (0 : UInt8)) := ⟨Tryd.underlying5, by kernel_rfl⟩
theorem ty9 : Ty Tryd.prog 9 .string 1 16 (Flat.enc (⟨[]⟩ : Str)) := ⟨Tryd.underlying9, by kernel_rfl⟩
theorem ty22 : Ty Tryd.prog 22 (.slice 5) 1 24 [.slice none 0 0] := ⟨Tryd.underlying22, by kernel_rfl⟩
theorem ty28 : Ty Tryd.prog 28 (.struct [{ name := "Place", type := 5, offset := 0, embedded := false, tag := "", pkgPath := "", byteOffset := 0 }, { name := "Data", type := 22, offset := 1, embedded := false, tag := "", pkgPath := "", byteOffset := 8 }].toArray) 2 32 (cat [(Flat.enc (0 : UInt8)), [.slice none 0 0]]) := ⟨Tryd.underlying28, by kernel_rfl⟩
theorem fd28_0 : Fd Tryd.prog 28 0 0 := fd_mk ty28.und rfl rfl ty5 (by decide)
theorem fd28_1 : Fd Tryd.prog 28 1 1 := fd_mk ty28.und rfl rfl ty22 (by decide)
theorem pl28 : Places Tryd.prog [{ name := "Place", type := 5, offset := 0, embedded := false, tag := "", pkgPath := "", byteOffset := 0 }, { name := "Data", type := 22, offset := 1, embedded := false, tag := "", pkgPath := "", byteOffset := 8 }] [(0, 1), (1, 1)] := by show _ = _; kernel_rfl
theorem hmix : Tryd.prog.follows .mixedOrders = true := by kernel_rfl
theorem cb9 : Callable Tryd.prog 9 := ⟨_, _, Tryd.func9, by decide, rfl⟩
theorem cb10 : Callable Tryd.prog 10 := ⟨_, _, Tryd.func10, by decide, rfl⟩
theorem cb11 : Callable Tryd.prog 11 := ⟨_, _, Tryd.func11, by decide, rfl⟩
theorem cb12 : Callable Tryd.prog 12 := ⟨_, _, Tryd.func12, by decide, rfl⟩
theorem cb13 : Callable Tryd.prog 13 := ⟨_, _, Tryd.func13, by decide, rfl⟩
theorem cb20 : Callable Tryd.prog 20 := ⟨_, _, Tryd.func20, by decide, rfl⟩
theorem cb21 : Callable Tryd.prog 21 := ⟨_, _, Tryd.func21, by decide, rfl⟩
theorem cb22 : Callable Tryd.prog 22 := ⟨_, _, Tryd.func22, by decide, rfl⟩
theorem cb23 : Callable Tryd.prog 23 := ⟨_, _, Tryd.func23, by decide, rfl⟩
theorem cb24 : Callable Tryd.prog 24 := ⟨_, _, Tryd.func24, by decide, rfl⟩
theorem cb25 : Callable Tryd.prog 25 := ⟨_, _, Tryd.func25, by decide, rfl⟩
theorem cb26 : Callable Tryd.prog 26 := ⟨_, _, Tryd.func26, by decide, rfl⟩
theorem cb27 : Callable Tryd.prog 27 := ⟨_, _, Tryd.func27, by decide, rfl⟩
theorem cb28 : Callable Tryd.prog 28 := ⟨_, _, Tryd.func28, by decide, rfl⟩
theorem cb29 : Callable Tryd.prog 29 := ⟨_, _, Tryd.func29, by decide, rfl⟩
theorem cb30 : Callable Tryd.prog 30 := ⟨_, _, Tryd.func30, by decide, rfl⟩
theorem cb35 : Callable Tryd.prog 35 := ⟨_, _, Tryd.func35, by decide, rfl⟩
theorem cb36 : Callable Tryd.prog 36 := ⟨_, _, Tryd.func36, by decide, rfl⟩
theorem cb38 : Callable Tryd.prog 38 := ⟨_, _, Tryd.func38, by decide, rfl⟩
theorem cb40 : Callable Tryd.prog 40 := ⟨_, _, Tryd.func40, by decide, rfl⟩
noncomputable def L0_spec_l01Split (p0 : Str) (p1 : UInt8) (s8 : (List Str) × Int × Int) : Option (Fl ((List Str) × Int × Int) ((List Str) × Int)) :=
  if (decide (s8.2.2 < (p0.l.length : Int))) = true then (((idx p0.l s8.2.2).bind fun (x20 : UInt8) => (if (x20 == p1) = true then ((sslc p0 s8.2.1 s8.2.2).bind fun (x28 : Str) => (app 16 s8.1 ([x28] : List Str)).bind fun (l32 : (List Str)) => some ((s8.1 ++ ([x28] : List Str)), wr (s8.2.2 + 1))) else (some (s8.1, s8.2.1)) : Option ((List Str) × Int)).bind fun (j22 : (List Str) × Int) => some (j22.1, j22.2) : Option ((List Str) × Int)).bind fun (j15 : (List Str) × Int) => some (Fl.nx (j15.1, j15.2, wr (s8.2.2 + 1)))) else (some (Fl.ex (s8.1, s8.2.1)))
noncomputable def F_spec_l01Split (p0 : Str) (p1 : UInt8) : Option ((List Str)) :=
  (iter (L0_spec_l01Split p0 p1) (([] : List Str), 0, 0) : Option ((List Str) × Int)).bind fun (j3 : (List Str) × Int) => (sslc p0 j3.2 (p0.l.length : Int)).bind fun (x41 : Str) => (app 16 j3.1 ([x41] : List Str)).bind fun (l45 : (List Str)) => some (j3.1 ++ ([x41] : List Str))
set_option maxRecDepth 20000 in
set_option maxHeartbeats 400000 in
theorem c_spec_l01Split (w0 : World) (p0 : Str) (p1 : UInt8) (r : (List Str)) (hF : F_spec_l01Split p0 p1 = some r) :
    Calls Tryd.prog 21 [(vS p0), (vB p1)].toArray w0 (fun en w' => ∃ v, en = .returned v ∧ (∃ (y1 : Value), v = y1 ∧ Fr w0 w' [osl NoB (r : List Str) y1] ∧ Kept (Old w0) w0 w')) := by
  refine c_enter (n := 35) Tryd.func21 rfl rfl (Nat.le_of_ble_eq_true rfl) rfl ?_
  intro a hE
  have hM := M.start w0
  unfold F_spec_l01Split at hF
  refine c_region ?_
  refine s_assign hE goes_none (by decide) rfl ?_; intro a hE
  refine c_fin ?_
  refine c_region ?_
  refine s_buildF (xs := []) (l := ([] : List Str)) (vs := []) hE hM goes_none (by decide) rfl rfl Tryd.underlying41 ty9 rfl (by decide) rfl ?_; intro u1 w a hM hE
  refine s_assign hE goes_none (by decide) rfl ?_; intro a hE
  refine c_fin ?_
  refine c_region ?_
  refine s_assign hE goes_none (by decide) rfl ?_; intro a hE
  refine c_fin ?_
  refine wp_seq ?_
  refine c_region ?_
  refine s_assign hE goes_none (by decide) rfl ?_; intro a hE
  refine c_fin ?_
  obtain ⟨j3, hl4, hF5⟩ := bind_some hF
  refine c_cut (fun a w => ∃ (u6 : Value), Env 35 a [(0, (vS p0)), (5, u6), (6, (vI j3.2))] ∧ M (Old w0) w0 w [osl NoB (j3.1 : List Str) u6]) ?_ ?_
  · skip
    refine wp_block ?_
    refine c_loop (fun (s8 : (List Str) × Int × Int) a w => ∃ (u9 : Value), Env 35 a [(0, (vS p0)), (1, (vB p1)), (5, u9), (6, (vI s8.2.1)), (7, (vI s8.2.2))] ∧ M (Old w0) w0 w [osl NoB (s8.1 : List Str) u9]) hl4 ⟨u1, hE.sub ⟨rfl, rfl, rfl, rfl, rfl, trivial⟩, hM⟩ ?_
    rintro s8 a w ⟨u9, hE, hM⟩ o13 hs11 hx12
    unfold L0_spec_l01Split at hs11
    refine wp_seq ?_
    refine c_region ?_
    refine s_move hE goes_none (by decide) rfl ?_; intro a hE
    refine s_move hE goes_none (by decide) rfl ?_; intro a hE
    refine s_lenStr hE goes_none (by decide) rfl Tryd.underlying9 ?_; intro a hE
    refine s_int hE goes_none (by decide) rfl rfl rfl ?_; intro a hE
    refine c_fin ?_
    refine c_cond hE rfl ?_ ?_
    · intro hb14
      have hs11 := ite_t hs11 hb14
      refine wp_skip ?_
      refine c_nx ?_
      obtain ⟨j15, hl16, hF17⟩ := bind_some hs11
      refine c_join (fun a w => ∃ (u18 : Value), Env 35 a [(0, (vS p0)), (1, (vB p1)), (5, u18), (6, (vI j15.2)), (7, (vI s8.2.2))] ∧ M (Old w0) w0 w [osl NoB (j15.1 : List Str) u18]) ?_ ?_
      · skip
        refine wp_block ?_
        refine c_region ?_
        refine s_move hE goes_none (by decide) rfl ?_; intro a hE
        refine s_move hE goes_none (by decide) rfl ?_; intro a hE
        obtain ⟨x20, e21, hl16⟩ := bind_some hl16
        refine s_indexStr hE goes_none (by decide) rfl rfl Tryd.underlying9 e21 ?_; intro a hE
        refine s_move hE goes_none (by decide) rfl ?_; intro a hE
        refine s_int hE goes_none (by decide) rfl rfl (bB_eql x20 p1) ?_; intro a hE
        refine c_fin ?_
        obtain ⟨j22, hl23, hF24⟩ := bind_some hl16
        refine c_cut (fun a w => ∃ (u25 : Value), Env 35 a [(0, (vS p0)), (1, (vB p1)), (5, u25), (6, (vI j22.2)), (7, (vI s8.2.2))] ∧ M (Old w0) w0 w [osl NoB (j22.1 : List Str) u25]) ?_ ?_
        · skip
          refine c_cond hE rfl ?_ ?_
          · intro hb27
            have hl23 := ite_t hl23 hb27
            refine c_region ?_
            refine s_move hE goes_none (by decide) rfl ?_; intro a hE
            refine s_move hE goes_none (by decide) rfl ?_; intro a hE
            refine s_move hE goes_none (by decide) rfl ?_; intro a hE
            refine s_move hE goes_none (by decide) rfl ?_; intro a hE
            obtain ⟨x28, e29, hl23⟩ := bind_some hl23
            refine s_sliceStr hE goes_none (by decide) rfl rfl rfl rfl rfl Tryd.underlying9 e29 ?_; intro a hE
            refine s_buildF (xs := [.tmp 24]) (l := ([x28] : List Str)) (vs := [(vS x28)]) hE hM goes_none (by decide) rfl rfl Tryd.underlying41 ty9 rfl (by decide) rfl ?_; intro u30 w a hM hE
            obtain ⟨l32, e33, hl23⟩ := bind_some hl23
            obtain ⟨e36, rfl⟩ := app_some e33
            have hM := hM.pull (pre := [_])
            refine s_appendF hE hM goes_none (by decide) rfl rfl (hM.sl (pre := [_]) noB) Tryd.underlying41 ty9 rfl (by decide) e36 ?_; intro u34 w a hM hE
            refine s_assign hE goes_none (by decide) rfl ?_; intro a hE
            refine c_fin ?_
            refine wp_region_lit ?_
            refine s_move hE goes_none (by decide) rfl ?_; intro a hE
            refine s_int hE goes_none (by decide) rfl rfl rfl ?_; intro a hE
            refine s_assign hE goes_none (by decide) rfl ?_; intro a hE
            refine c_fin0 ?_
            have ht37 := Option.some.inj hl23
            subst ht37
            refine c_mid ?_
            have hM := M.fst (l := [_]) hM
            exact ⟨u34, hE.sub ⟨rfl, rfl, rfl, rfl, rfl, trivial⟩, hM⟩
          · intro hb27
            have hl23 := ite_f hl23 hb27
            refine wp_skip ?_
            have ht38 := Option.some.inj hl23
            subst ht38
            refine c_mid ?_
            exact ⟨u9, hE.sub ⟨rfl, rfl, rfl, rfl, rfl, trivial⟩, hM⟩
        · skip
          rintro a w ⟨u25, hE, hM⟩
          refine c_nb ?_
          have ht39 := Option.some.inj hF24
          subst ht39
          refine c_mid ?_
          exact ⟨u25, hE.sub ⟨rfl, rfl, rfl, rfl, rfl, trivial⟩, hM⟩
      · skip
        rintro a w ⟨u18, hE, hM⟩
        refine wp_region_lit ?_
        refine s_move hE goes_none (by decide) rfl ?_; intro a hE
        refine s_int hE goes_none (by decide) rfl rfl rfl ?_; intro a hE
        refine s_assign hE goes_none (by decide) rfl ?_; intro a hE
        refine c_fin0 ?_
        refine c_mid ?_
        exact ⟨_, (Option.some.inj hF17).symm, u18, hE.sub ⟨rfl, rfl, rfl, rfl, rfl, trivial⟩, hM⟩
    · intro hb14
      have hs11 := ite_f hs11 hb14
      refine wp_exit (e_then (e_then (e_eq ?_)))
      have ht40 := hx12 _ (Option.some.inj hs11).symm
      subst ht40
      refine c_mid ?_
      exact ⟨u9, hE.sub ⟨rfl, rfl, rfl, trivial⟩, hM⟩
  · skip
    rintro a w ⟨u6, hE, hM⟩
    refine c_nx ?_
    refine c_region ?_
    refine s_move hE goes_none (by decide) rfl ?_; intro a hE
    refine s_move hE goes_none (by decide) rfl ?_; intro a hE
    refine s_move hE goes_none (by decide) rfl ?_; intro a hE
    obtain ⟨x41, e42, hF5⟩ := bind_some hF5
    refine s_sliceStr hE goes_none (by decide) rfl rfl rfl rfl rfl Tryd.underlying9 e42 ?_; intro a hE
    refine s_buildF (xs := [.tmp 32]) (l := ([x41] : List Str)) (vs := [(vS x41)]) hE hM goes_none (by decide) rfl rfl Tryd.underlying41 ty9 rfl (by decide) rfl ?_; intro u43 w a hM hE
    obtain ⟨l45, e46, hF5⟩ := bind_some hF5
    obtain ⟨e49, rfl⟩ := app_some e46
    have hM := hM.pull (pre := [_])
    refine s_appendF hE hM goes_none (by decide) rfl rfl (hM.sl (pre := [_]) noB) Tryd.underlying41 ty9 rfl (by decide) e49 ?_; intro u47 w a hM hE
    refine s_assign hE goes_none (by decide) rfl ?_; intro a hE
    refine c_fin ?_
    have hr := Option.some.inj hF5
    subst hr
    have hM := M.fst (l := [_]) hM
    exact wp_ret (k_ret1 hE rfl (res_tmp hE rfl) ⟨_, rfl, u47, rfl, hM.outF (locN1 locN0), hM.kept⟩)
noncomputable def L0_spec_l01Number (p0 : Str) (s18 : Int × Int) : Option (Fl (Int × Int) (Fl Int Int)) :=
  if (decide (s18.2 < (p0.l.length : Int))) = true then (((idx p0.l s18.2).bind fun (x26 : UInt8) => if (decide (x26 < 48)) = true then (some true) else ((idx p0.l s18.2).bind fun (x30 : UInt8) => some (decide (x30 > 57))) : Option (Bool)).bind fun (j23 : Bool) => if j23 = true then (some (Fl.ex (Fl.ex (-1)))) else ((idx p0.l s18.2).bind fun (x35 : UInt8) => some (Fl.nx (wr ((wr (s18.1 * 10)) + (bI (x35 - 48))), wr (s18.2 + 1))))) else (some (Fl.ex (Fl.nx s18.1)))
noncomputable def F_spec_l01Number (p0 : Str) : Option (Int) :=
  (if ((p0.l.length : Int) == 0) = true then (some true) else (if (decide ((p0.l.length : Int) > 9)) = true then (some true) else (if (decide ((p0.l.length : Int) > 1)) = true then ((idx p0.l (0 : Int)).bind fun (x9 : UInt8) => some (x9 == 48)) else (some false))) : Option (Bool)).bind fun (j1 : Bool) => if j1 = true then (some (-1)) else ((iter (L0_spec_l01Number p0) (0, 0) : Option (Fl Int Int)).bind fun (j14 : Fl Int Int) => j14.el (fun (s17 : Int) => some s17) (fun r => some r))
set_option maxRecDepth 20000 in
set_option maxHeartbeats 400000 in
theorem c_spec_l01Number (w0 : World) (p0 : Str) (r : Int) (hF : F_spec_l01Number p0 = some r) :
    Calls Tryd.prog 22 [(vS p0)].toArray w0 (fun en w' => ∃ v, en = .returned v ∧ (v = (vI r) ∧ Kept (Old w0) w0 w')) := by
  refine c_enter (n := 48) Tryd.func22 rfl rfl (Nat.le_of_ble_eq_true rfl) rfl ?_
  intro a hE
  have hM := M.start w0
  unfold F_spec_l01Number at hF
  refine c_region ?_
  refine s_assign hE goes_none (by decide) rfl ?_; intro a hE
  refine c_fin ?_
  refine wp_seq ?_
  obtain ⟨j1, hl2, hF3⟩ := bind_some hF
  refine c_join (fun a w => Env 48 a [(0, (vS p0)), (22, (vT j1))] ∧ M (Old w0) w0 w []) ?_ ?_
  · skip
    refine wp_region_lit ?_
    refine s_move hE goes_none (by decide) rfl ?_; intro a hE
    refine s_lenStr hE goes_none (by decide) rfl Tryd.underlying9 ?_; intro a hE
    refine s_int hE goes_none (by decide) rfl rfl rfl ?_; intro a hE
    refine s_move hE goes_none (by decide) rfl ?_; intro a hE
    refine splitB ((p0.l.length : Int) == 0) (fun hb4 => ?_) (fun hb4 => ?_)
    · have hl2 := ite_t hl2 hb4
      refine s_skip hE rfl (lkb rfl hb4) rfl (by decide) ?_; intro a hE
      refine s_skip hE rfl (lkb rfl hb4) rfl (by decide) ?_; intro a hE
      refine s_skip hE rfl (lkb rfl hb4) rfl (by decide) ?_; intro a hE
      refine s_pickT hE goes_none (by decide) (lkb rfl hb4) rfl ?_; intro a hE
      refine s_move hE goes_none (by decide) rfl ?_; intro a hE
      refine s_skip hE rfl rfl rfl (by decide) ?_; intro a hE
      refine s_skip hE rfl rfl rfl (by decide) ?_; intro a hE
      refine s_skip hE rfl rfl rfl (by decide) ?_; intro a hE
      refine s_skip hE rfl rfl rfl (by decide) ?_; intro a hE
      refine s_skipU hE rfl rfl (by decide) ?_; intro a hE
      refine s_skipU hE rfl rfl (by decide) ?_; intro a hE
      refine s_skipU hE rfl rfl (by decide) ?_; intro a hE
      refine s_skip hE rfl rfl rfl (by decide) ?_; intro a hE
      refine s_pickT hE goes_none (by decide) rfl rfl ?_; intro a hE
      refine c_fin0 ?_
      have ht5 := Option.some.inj hl2
      subst ht5
      refine c_mid ?_
      exact ⟨hE.sub ⟨rfl, rfl, trivial⟩, hM⟩
    · have hl2 := ite_f hl2 hb4
      refine s_move hE (goes_yes hE rfl (lkb rfl hb4)) (by decide) rfl ?_; intro a hE
      refine s_lenStr hE (goes_yes hE rfl (lkb rfl hb4)) (by decide) rfl Tryd.underlying9 ?_; intro a hE
      refine s_int hE (goes_yes hE rfl (lkb rfl hb4)) (by decide) rfl rfl rfl ?_; intro a hE
      refine s_pickF hE goes_none (by decide) (lkb rfl hb4) rfl ?_; intro a hE
      refine s_move hE goes_none (by decide) rfl ?_; intro a hE
      refine splitB (decide ((p0.l.length : Int) > 9)) (fun hb6 => ?_) (fun hb6 => ?_)
      · have hl2 := ite_t hl2 hb6
        refine s_skip hE rfl (lkb rfl hb6) rfl (by decide) ?_; intro a hE
        refine s_skip hE rfl (lkb rfl hb6) rfl (by decide) ?_; intro a hE
        refine s_skip hE rfl (lkb rfl hb6) rfl (by decide) ?_; intro a hE
        refine s_skip hE rfl (lkb rfl hb6) rfl (by decide) ?_; intro a hE
        refine s_skipU hE rfl rfl (by decide) ?_; intro a hE
        refine s_skipU hE rfl rfl (by decide) ?_; intro a hE
        refine s_skipU hE rfl rfl (by decide) ?_; intro a hE
        refine s_skip hE rfl (lkb rfl hb6) rfl (by decide) ?_; intro a hE
        refine s_pickT hE goes_none (by decide) (lkb rfl hb6) rfl ?_; intro a hE
        refine c_fin0 ?_
        have ht7 := Option.some.inj hl2
        subst ht7
        refine c_mid ?_
        exact ⟨hE.sub ⟨rfl, rfl, trivial⟩, hM⟩
      · have hl2 := ite_f hl2 hb6
        refine s_move hE (goes_yes hE rfl (lkb rfl hb6)) (by decide) rfl ?_; intro a hE
        refine s_lenStr hE (goes_yes hE rfl (lkb rfl hb6)) (by decide) rfl Tryd.underlying9 ?_; intro a hE
        refine s_int hE (goes_yes hE rfl (lkb rfl hb6)) (by decide) rfl rfl rfl ?_; intro a hE
        refine s_move hE (goes_yes hE rfl (lkb rfl hb6)) (by decide) rfl ?_; intro a hE
        refine splitB (decide ((p0.l.length : Int) > 1)) (fun hb8 => ?_) (fun hb8 => ?_)
        · have hl2 := ite_t hl2 hb8
          refine s_move hE (goes_yes hE rfl (lkb rfl hb8)) (by decide) rfl ?_; intro a hE
          obtain ⟨x9, e10, hl2⟩ := bind_some hl2
          refine s_indexStr hE (goes_yes hE rfl (lkb rfl hb8)) (by decide) rfl rfl Tryd.underlying9 e10 ?_; intro a hE
          refine s_int hE (goes_yes hE rfl (lkb rfl hb8)) (by decide) rfl rfl (bB_eql x9 48) ?_; intro a hE
          refine s_pickT hE (goes_yes hE rfl (lkb rfl hb6)) (by decide) (lkb rfl hb8) rfl ?_; intro a hE
          refine s_pickF hE goes_none (by decide) (lkb rfl hb6) rfl ?_; intro a hE
          refine c_fin0 ?_
          have ht11 := Option.some.inj hl2
          subst ht11
          refine c_mid ?_
          exact ⟨hE.sub ⟨rfl, rfl, trivial⟩, hM⟩
        · have hl2 := ite_f hl2 hb8
          refine s_skip hE rfl (lkb rfl hb8) rfl (by decide) ?_; intro a hE
          refine s_skip hE rfl (lkb rfl hb8) rfl (by decide) ?_; intro a hE
          refine s_skip hE rfl (lkb rfl hb8) rfl (by decide) ?_; intro a hE
          refine s_pickF hE (goes_yes hE rfl (lkb rfl hb6)) (by decide) (lkb rfl hb8) rfl ?_; intro a hE
          refine s_pickF hE goes_none (by decide) (lkb rfl hb6) rfl ?_; intro a hE
          refine c_fin0 ?_
          have ht12 := Option.some.inj hl2
          subst ht12
          refine c_mid ?_
          exact ⟨hE.sub ⟨rfl, rfl, trivial⟩, hM⟩
  · skip
    rintro a w ⟨hE, hM⟩
    refine c_cond hE rfl ?_ ?_
    · intro hb13
      have hF3 := ite_t hF3 hb13
      refine c_region ?_
      refine s_assign hE goes_none (by decide) rfl ?_; intro a hE
      refine c_fin ?_
      have hr := Option.some.inj hF3
      subst hr
      exact wp_ret (r_then (k_ret1 hE rfl (res_tmp hE rfl) ⟨_, rfl, rfl, hM.kept⟩))
    · intro hb13
      have hF3 := ite_f hF3 hb13
      refine wp_skip ?_
      refine c_nx ?_
      refine c_region ?_
      refine s_assign hE goes_none (by decide) rfl ?_; intro a hE
      refine c_fin ?_
      refine wp_seq ?_
      refine c_region ?_
      refine s_assign hE goes_none (by decide) rfl ?_; intro a hE
      refine c_fin ?_
      obtain ⟨j14, hl15, hF16⟩ := bind_some hF3
      refine c_cut (fun a w => ∃ s17 : Int, j14 = Fl.nx s17 ∧ Env 48 a [(3, (vI s17))] ∧ M (Old w0) w0 w []) ?_ ?_
      · skip
        refine wp_block ?_
        refine c_loop (fun (s18 : Int × Int) a w => Env 48 a [(0, (vS p0)), (3, (vI s18.1)), (4, (vI s18.2))] ∧ M (Old w0) w0 w []) hl15 ⟨hE.sub ⟨rfl, rfl, rfl, trivial⟩, hM⟩ ?_
        rintro s18 a w ⟨hE, hM⟩ o21 hs19 hx20
        unfold L0_spec_l01Number at hs19
        refine wp_seq ?_
        refine c_region ?_
        refine s_move hE goes_none (by decide) rfl ?_; intro a hE
        refine s_move hE goes_none (by decide) rfl ?_; intro a hE
        refine s_lenStr hE goes_none (by decide) rfl Tryd.underlying9 ?_; intro a hE
        refine s_int hE goes_none (by decide) rfl rfl rfl ?_; intro a hE
        refine c_fin ?_
        refine c_cond hE rfl ?_ ?_
        · intro hb22
          have hs19 := ite_t hs19 hb22
          refine wp_skip ?_
          refine c_nx ?_
          refine wp_seq ?_
          refine wp_block ?_
          refine wp_seq ?_
          obtain ⟨j23, hl24, hF25⟩ := bind_some hs19
          refine c_join (fun a w => Env 48 a [(0, (vS p0)), (3, (vI s18.1)), (4, (vI s18.2)), (38, (vT j23))] ∧ M (Old w0) w0 w []) ?_ ?_
          · skip
            refine wp_region_lit ?_
            refine s_move hE goes_none (by decide) rfl ?_; intro a hE
            refine s_move hE goes_none (by decide) rfl ?_; intro a hE
            obtain ⟨x26, e27, hl24⟩ := bind_some hl24
            refine s_indexStr hE goes_none (by decide) rfl rfl Tryd.underlying9 e27 ?_; intro a hE
            refine s_int hE goes_none (by decide) rfl rfl (bB_lss x26 48) ?_; intro a hE
            refine s_move hE goes_none (by decide) rfl ?_; intro a hE
            refine splitB (decide (x26 < 48)) (fun hb28 => ?_) (fun hb28 => ?_)
            · have hl24 := ite_t hl24 hb28
              refine s_skip hE rfl (lkb rfl hb28) rfl (by decide) ?_; intro a hE
              refine s_skip hE rfl (lkb rfl hb28) rfl (by decide) ?_; intro a hE
              refine s_skip hE rfl (lkb rfl hb28) rfl (by decide) ?_; intro a hE
              refine s_skip hE rfl (lkb rfl hb28) rfl (by decide) ?_; intro a hE
              refine s_pickT hE goes_none (by decide) (lkb rfl hb28) rfl ?_; intro a hE
              refine c_fin0 ?_
              have ht29 := Option.some.inj hl24
              subst ht29
              refine c_mid ?_
              exact ⟨hE.sub ⟨rfl, rfl, rfl, rfl, trivial⟩, hM⟩
            · have hl24 := ite_f hl24 hb28
              refine s_move hE (goes_yes hE rfl (lkb rfl hb28)) (by decide) rfl ?_; intro a hE
              refine s_move hE (goes_yes hE rfl (lkb rfl hb28)) (by decide) rfl ?_; intro a hE
              obtain ⟨x30, e31, hl24⟩ := bind_some hl24
              refine s_indexStr hE (goes_yes hE rfl (lkb rfl hb28)) (by decide) rfl rfl Tryd.underlying9 e31 ?_; intro a hE
              refine s_int hE (goes_yes hE rfl (lkb rfl hb28)) (by decide) rfl rfl (bB_gtr x30 57) ?_; intro a hE
              refine s_pickF hE goes_none (by decide) (lkb rfl hb28) rfl ?_; intro a hE
              refine c_fin0 ?_
              have ht32 := Option.some.inj hl24
              subst ht32
              refine c_mid ?_
              exact ⟨hE.sub ⟨rfl, rfl, rfl, rfl, trivial⟩, hM⟩
          · skip
            rintro a w ⟨hE, hM⟩
            refine c_cond hE rfl ?_ ?_
            · intro hb33
              have hF25 := ite_t hF25 hb33
              refine c_region ?_
              refine s_assign hE goes_none (by decide) rfl ?_; intro a hE
              refine c_fin ?_
              have ht34 := hx20 _ (Option.some.inj hF25).symm
              subst ht34
              have hr := Option.some.inj hF16
              subst hr
              exact wp_ret (r_then (r_inb (r_then (r_then (r_inb (r_then (r_then (k_ret1 hE rfl (res_tmp hE rfl) ⟨_, rfl, rfl, hM.kept⟩))))))))
            · intro hb33
              have hF25 := ite_f hF25 hb33
              refine wp_skip ?_
              refine c_nx ?_
              refine wp_region_lit ?_
              refine s_move hE goes_none (by decide) rfl ?_; intro a hE
              refine s_int hE goes_none (by decide) rfl rfl rfl ?_; intro a hE
              refine s_move hE goes_none (by decide) rfl ?_; intro a hE
              refine s_move hE goes_none (by decide) rfl ?_; intro a hE
              obtain ⟨x35, e36, hF25⟩ := bind_some hF25
              refine s_indexStr hE goes_none (by decide) rfl rfl Tryd.underlying9 e36 ?_; intro a hE
              refine s_int hE goes_none (by decide) rfl rfl (bB_sub x35 48) ?_; intro a hE
              refine s_convW hE goes_none (by decide) rfl Tryd.underlying5 Tryd.underlying2 ?_; intro a hE
              refine s_int hE goes_none (by decide) rfl rfl rfl ?_; intro a hE
              refine s_assign hE goes_none (by decide) rfl ?_; intro a hE
              refine c_fin0 ?_
              refine c_nb ?_
              refine c_nx ?_
              refine wp_region_lit ?_
              refine s_move hE goes_none (by decide) rfl ?_; intro a hE
              refine s_int hE goes_none (by decide) rfl rfl rfl ?_; intro a hE
              refine s_assign hE goes_none (by decide) rfl ?_; intro a hE
              refine c_fin0 ?_
              refine c_mid ?_
              exact ⟨_, (Option.some.inj hF25).symm, hE.sub ⟨rfl, rfl, rfl, trivial⟩, hM⟩
        · intro hb22
          have hs19 := ite_f hs19 hb22
          refine wp_exit (e_then (e_then (e_eq ?_)))
          have ht37 := hx20 _ (Option.some.inj hs19).symm
          subst ht37
          refine c_mid ?_
          exact ⟨s18.1, rfl, hE.sub ⟨rfl, trivial⟩, hM⟩
      · skip
        rintro a w ⟨s17, ht, hE, hM⟩
        subst ht
        have hF16 := el_nx hF16
        refine c_nx ?_
        refine c_region ?_
        refine s_move hE goes_none (by decide) rfl ?_; intro a hE
        refine s_assign hE goes_none (by decide) rfl ?_; intro a hE
        refine c_fin ?_
        have hr := Option.some.inj hF16
        subst hr
        exact wp_ret (k_ret1 hE rfl (res_tmp hE rfl) ⟨_, rfl, rfl, hM.kept⟩)
noncomputable def F_spec_l01Digit (p0 : UInt8) : Option (Int) :=
  (if (decide (p0 ≥ 48)) = true then (some (decide (p0 ≤ 57))) else (some false) : Option (Bool)).bind fun (j1 : Bool) => if j1 = true then (some (bI (p0 - 48))) else ((if (decide (p0 ≥ 97)) = true then (some (decide (p0 ≤ 102))) else (some false) : Option (Bool)).bind fun (j8 : Bool) => if j8 = true then (some (wr ((bI (p0 - 97)) + 10))) else (some (-1)))
set_option maxRecDepth 20000 in
set_option maxHeartbeats 400000 in
theorem c_spec_l01Digit (w0 : World) (p0 : UInt8) (r : Int) (hF : F_spec_l01Digit p0 = some r) :
    Calls Tryd.prog 35 [(vB p0)].toArray w0 (fun en w' => ∃ v, en = .returned v ∧ (v = (vI r) ∧ Kept (Old w0) w0 w')) := by
  refine c_enter (n := 24) Tryd.func35 rfl rfl (Nat.le_of_ble_eq_true rfl) rfl ?_
  intro a hE
  have hM := M.start w0
  unfold F_spec_l01Digit at hF
  refine c_region ?_
  refine s_assign hE goes_none (by decide) rfl ?_; intro a hE
  refine c_fin ?_
  refine wp_seq ?_
  refine wp_block ?_
  obtain ⟨j1, hl2, hF3⟩ := bind_some hF
  refine c_join (fun a w => Env 24 a [(0, (vB p0)), (3, (vT j1))] ∧ M (Old w0) w0 w []) ?_ ?_
  · skip
    refine wp_region_lit ?_
    refine s_move hE goes_none (by decide) rfl ?_; intro a hE
    refine s_int hE goes_none (by decide) rfl rfl (bB_geq p0 48) ?_; intro a hE
    refine s_move hE goes_none (by decide) rfl ?_; intro a hE
    refine splitB (decide (p0 ≥ 48)) (fun hb4 => ?_) (fun hb4 => ?_)
    · have hl2 := ite_t hl2 hb4
      refine s_move hE (goes_yes hE rfl (lkb rfl hb4)) (by decide) rfl ?_; intro a hE
      refine s_int hE (goes_yes hE rfl (lkb rfl hb4)) (by decide) rfl rfl (bB_leq p0 57) ?_; intro a hE
      refine s_pickT hE goes_none (by decide) (lkb rfl hb4) rfl ?_; intro a hE
      refine s_assign hE goes_none (by decide) rfl ?_; intro a hE
      refine c_fin0 ?_
      have ht5 := Option.some.inj hl2
      subst ht5
      refine c_mid ?_
      exact ⟨hE.sub ⟨rfl, rfl, trivial⟩, hM⟩
    · have hl2 := ite_f hl2 hb4
      refine s_skip hE rfl (lkb rfl hb4) rfl (by decide) ?_; intro a hE
      refine s_skip hE rfl (lkb rfl hb4) rfl (by decide) ?_; intro a hE
      refine s_pickF hE goes_none (by decide) (lkb rfl hb4) rfl ?_; intro a hE
      refine s_assign hE goes_none (by decide) rfl ?_; intro a hE
      refine c_fin0 ?_
      have ht6 := Option.some.inj hl2
      subst ht6
      refine c_mid ?_
      exact ⟨hE.sub ⟨rfl, rfl, trivial⟩, hM⟩
  · skip
    rintro a w ⟨hE, hM⟩
    refine c_cond hE rfl ?_ ?_
    · intro hb7
      have hF3 := ite_t hF3 hb7
      refine c_region ?_
      refine s_move hE goes_none (by decide) rfl ?_; intro a hE
      refine s_int hE goes_none (by decide) rfl rfl (bB_sub p0 48) ?_; intro a hE
      refine s_convW hE goes_none (by decide) rfl Tryd.underlying5 Tryd.underlying2 ?_; intro a hE
      refine s_assign hE goes_none (by decide) rfl ?_; intro a hE
      refine c_fin ?_
      have hr := Option.some.inj hF3
      subst hr
      exact wp_ret (r_inb (r_then (k_ret1 hE rfl (res_tmp hE rfl) ⟨_, rfl, rfl, hM.kept⟩)))
    · intro hb7
      have hF3 := ite_f hF3 hb7
      obtain ⟨j8, hl9, hF10⟩ := bind_some hF3
      refine c_join (fun a w => Env 24 a [(0, (vB p0)), (13, (vT j8))] ∧ M (Old w0) w0 w []) ?_ ?_
      · skip
        refine wp_region_lit ?_
        refine s_move hE goes_none (by decide) rfl ?_; intro a hE
        refine s_int hE goes_none (by decide) rfl rfl (bB_geq p0 97) ?_; intro a hE
        refine s_move hE goes_none (by decide) rfl ?_; intro a hE
        refine splitB (decide (p0 ≥ 97)) (fun hb11 => ?_) (fun hb11 => ?_)
        · have hl9 := ite_t hl9 hb11
          refine s_move hE (goes_yes hE rfl (lkb rfl hb11)) (by decide) rfl ?_; intro a hE
          refine s_int hE (goes_yes hE rfl (lkb rfl hb11)) (by decide) rfl rfl (bB_leq p0 102) ?_; intro a hE
          refine s_pickT hE goes_none (by decide) (lkb rfl hb11) rfl ?_; intro a hE
          refine s_assign hE goes_none (by decide) rfl ?_; intro a hE
          refine c_fin0 ?_
          have ht12 := Option.some.inj hl9
          subst ht12
          refine c_mid ?_
          exact ⟨hE.sub ⟨rfl, rfl, trivial⟩, hM⟩
        · have hl9 := ite_f hl9 hb11
          refine s_skip hE rfl (lkb rfl hb11) rfl (by decide) ?_; intro a hE
          refine s_skip hE rfl (lkb rfl hb11) rfl (by decide) ?_; intro a hE
          refine s_pickF hE goes_none (by decide) (lkb rfl hb11) rfl ?_; intro a hE
          refine s_assign hE goes_none (by decide) rfl ?_; intro a hE
          refine c_fin0 ?_
          have ht13 := Option.some.inj hl9
          subst ht13
          refine c_mid ?_
          exact ⟨hE.sub ⟨rfl, rfl, trivial⟩, hM⟩
      · skip
        rintro a w ⟨hE, hM⟩
        refine c_cond hE rfl ?_ ?_
        · intro hb14
          have hF10 := ite_t hF10 hb14
          refine c_region ?_
          refine s_move hE goes_none (by decide) rfl ?_; intro a hE
          refine s_int hE goes_none (by decide) rfl rfl (bB_sub p0 97) ?_; intro a hE
          refine s_convW hE goes_none (by decide) rfl Tryd.underlying5 Tryd.underlying2 ?_; intro a hE
          refine s_int hE goes_none (by decide) rfl rfl rfl ?_; intro a hE
          refine s_assign hE goes_none (by decide) rfl ?_; intro a hE
          refine c_fin ?_
          have hr := Option.some.inj hF10
          subst hr
          exact wp_ret (r_inb (r_then (k_ret1 hE rfl (res_tmp hE rfl) ⟨_, rfl, rfl, hM.kept⟩)))
        · intro hb14
          have hF10 := ite_f hF10 hb14
          refine wp_skip ?_
          refine c_nb ?_
          refine c_nx ?_
          refine c_region ?_
          refine s_assign hE goes_none (by decide) rfl ?_; intro a hE
          refine c_fin ?_
          have hr := Option.some.inj hF10
          subst hr
          exact wp_ret (k_ret1 hE rfl (res_tmp hE rfl) ⟨_, rfl, rfl, hM.kept⟩)
noncomputable def L0_spec_l01Bytes (p0 : Str) (s11 : (List UInt8) × Int) : Option (Fl ((List UInt8) × Int) (Fl (List UInt8) ((List UInt8) × Bool))) :=
  if (decide ((wr (s11.2 + 1)) < (p0.l.length : Int))) = true then (((idx p0.l s11.2).bind fun (x22 : UInt8) => (F_spec_l01Digit x22).bind fun (r24 : Int) => (idx p0.l (wr (s11.2 + 1))).bind fun (x26 : UInt8) => (F_spec_l01Digit x26).bind fun (r28 : Int) => some (r24, r28) : Option (Int × Int)).bind fun (j18 : Int × Int) => (if (decide (j18.1 < 0)) = true then (some true) else (some (decide (j18.2 < 0))) : Option (Bool)).bind fun (j31 : Bool) => if j31 = true then (some (Fl.ex (Fl.ex ([], false)))) else ((app 1 s11.1 ([byteI (wr ((wr (16 * j18.1)) + j18.2))] : List UInt8)).bind fun (l42 : (List UInt8)) => some (Fl.nx ((s11.1 ++ ([byteI (wr ((wr (16 * j18.1)) + j18.2))] : List UInt8)), wr (s11.2 + 2))))) else (some (Fl.ex (Fl.nx s11.1)))
noncomputable def F_spec_l01Bytes (p0 : Str) : Option ((List UInt8) × Bool) :=
  if ((Int.tmod (p0.l.length : Int) 2) != 0) = true then (some ([], false)) else ((iter (L0_spec_l01Bytes p0) (([] : List UInt8), 0) : Option (Fl (List UInt8) ((List UInt8) × Bool))).bind fun (j5 : Fl (List UInt8) ((List UInt8) × Bool)) => j5.el (fun (s8 : (List UInt8)) => some (s8, true)) (fun r => some r))
set_option maxRecDepth 20000 in
set_option maxHeartbeats 400000 in
theorem c_spec_l01Bytes (w0 : World) (p0 : Str) (r : (List UInt8) × Bool) (hF : F_spec_l01Bytes p0 = some r) :
    Calls Tryd.prog 23 [(vS p0)].toArray w0 (fun en w' => ∃ v, en = .returned v ∧ (∃ (y1 : Value), v = (Value.tuple [y1, (vT r.2)].toArray) ∧ Fr w0 w' [osl NoB (r.1 : List UInt8) y1] ∧ Kept (Old w0) w0 w')) := by
  refine c_enter (n := 44) Tryd.func23 rfl rfl (Nat.le_of_ble_eq_true rfl) rfl ?_
  intro a hE
  have hM := M.start w0
  unfold F_spec_l01Bytes at hF
  refine c_region ?_
  refine s_assign hE goes_none (by decide) rfl ?_; intro a hE
  refine s_assign hE goes_none (by decide) rfl ?_; intro a hE
  refine c_fin ?_
  refine c_region ?_
  refine s_buildF (xs := []) (l := ([] : List UInt8)) (vs := []) hE hM goes_none (by decide) rfl rfl Tryd.underlying22 ty5 rfl (by decide) rfl ?_; intro u1 w a hM hE
  refine s_assign hE goes_none (by decide) rfl ?_; intro a hE
  refine c_fin ?_
  refine wp_seq ?_
  refine c_region ?_
  refine s_move hE goes_none (by decide) rfl ?_; intro a hE
  refine s_lenStr hE goes_none (by decide) rfl Tryd.underlying9 ?_; intro a hE
  refine s_int hE goes_none (by decide) rfl rfl (bI_rem _ _ (by decide)) ?_; intro a hE
  refine s_int hE goes_none (by decide) rfl rfl rfl ?_; intro a hE
  refine c_fin ?_
  refine c_cond hE rfl ?_ ?_
  · intro hb3
    have hF := ite_t hF hb3
    refine c_region ?_
    refine s_assign hE goes_none (by decide) rfl ?_; intro a hE
    refine s_assign hE goes_none (by decide) rfl ?_; intro a hE
    refine c_fin ?_
    have hM := M.nilS (α := UInt8) NoB noB hM
    have hr := Option.some.inj hF
    subst hr
    have hM := M.fst (l := [_]) hM
    exact wp_ret (r_then (k_ret2 hE rfl (res_tmp hE rfl) (res_tmp hE rfl) ⟨_, rfl, (Value.slice none 0 0), rfl, hM.outF (locN1 locN0), hM.kept⟩))
  · intro hb3
    have hF := ite_f hF hb3
    refine wp_skip ?_
    refine c_nx ?_
    refine wp_seq ?_
    refine c_region ?_
    refine s_assign hE goes_none (by decide) rfl ?_; intro a hE
    refine c_fin ?_
    obtain ⟨j5, hl6, hF7⟩ := bind_some hF
    refine c_cut (fun a w => ∃ s8 : (List UInt8), j5 = Fl.nx s8 ∧ ∃ (u9 : Value), Env 44 a [(4, u9)] ∧ M (Old w0) w0 w [osl NoB (s8 : List UInt8) u9]) ?_ ?_
    · skip
      refine wp_block ?_
      refine c_loop (fun (s11 : (List UInt8) × Int) a w => ∃ (u12 : Value), Env 44 a [(0, (vS p0)), (4, u12), (5, (vI s11.2))] ∧ M (Old w0) w0 w [osl NoB (s11.1 : List UInt8) u12]) hl6 ⟨u1, hE.sub ⟨rfl, rfl, rfl, trivial⟩, hM⟩ ?_
      rintro s11 a w ⟨u12, hE, hM⟩ o16 hs14 hx15
      unfold L0_spec_l01Bytes at hs14
      refine wp_seq ?_
      refine c_region ?_
      refine s_move hE goes_none (by decide) rfl ?_; intro a hE
      refine s_int hE goes_none (by decide) rfl rfl rfl ?_; intro a hE
      refine s_move hE goes_none (by decide) rfl ?_; intro a hE
      refine s_lenStr hE goes_none (by decide) rfl Tryd.underlying9 ?_; intro a hE
      refine s_int hE goes_none (by decide) rfl rfl rfl ?_; intro a hE
      refine c_fin ?_
      refine c_cond hE rfl ?_ ?_
      · intro hb17
        have hs14 := ite_t hs14 hb17
        refine wp_skip ?_
        refine c_nx ?_
        refine wp_seq ?_
        refine wp_block ?_
        obtain ⟨j18, hl19, hF20⟩ := bind_some hs14
        refine c_join (fun a w => Env 44 a [(0, (vS p0)), (4, u12), (5, (vI s11.2)), (6, (vI j18.1)), (7, (vI j18.2))] ∧ M (Old w0) w0 w [osl NoB (s11.1 : List UInt8) u12]) ?_ ?_
        · skip
          obtain ⟨x22, e23, hl19⟩ := bind_some hl19
          obtain ⟨r24, e25, hl19⟩ := bind_some hl19
          obtain ⟨x26, e27, hl19⟩ := bind_some hl19
          obtain ⟨r28, e29, hl19⟩ := bind_some hl19
          refine c_drawP [20, 21, 22, 23, 24, 25, 26, 27, 28, 6, 7] hmix rfl rfl (by decide) rfl hE hM (qsP (fun z => s_move z.E goes_none (by decide) rfl (kr0 rfl)) (qsP (fun z => s_move z.E goes_none (by decide) rfl (kr0 rfl)) (qsP (fun z => s_indexStr z.E goes_none (by decide) rfl rfl Tryd.underlying9 e23 (kr0 rfl)) (qsP (fun z => s_call (vs := [(vB x22)]) z.E goes_none (by decide) rfl cb35 (c_spec_l01Digit _ x22 r24 e25) (kc rfl)) (qsP (fun z => s_move z.E goes_none (by decide) rfl (kr0 rfl)) (qsP (fun z => s_move z.E goes_none (by decide) rfl (kr0 rfl)) (qsP (v := (vI (wr (s11.2 + 1)))) (fun z => s_int z.E goes_none (by decide) rfl rfl rfl (kr0 rfl)) (qsP (fun z => s_indexStr z.E goes_none (by decide) rfl rfl Tryd.underlying9 e27 (kr0 rfl)) (qsP (fun z => s_call (vs := [(vB x26)]) z.E goes_none (by decide) rfl cb35 (c_spec_l01Digit _ x26 r28 e29) (kc rfl)) (qsP (fun z => s_assign z.E goes_none (by decide) rfl (kr0 rfl)) (qsP (fun z => s_assign z.E goes_none (by decide) rfl (kr0 rfl)) qs0))))))))))) ?_
          · intro a w u hE hM
            refine c_fin0 ?_
            have ht30 := Option.some.inj hl19
            subst ht30
            refine c_mid ?_
            exact ⟨hE.sub ⟨rfl, rfl, rfl, rfl, rfl, trivial⟩, hM⟩
        · skip
          rintro a w ⟨hE, hM⟩
          refine wp_seq ?_
          obtain ⟨j31, hl32, hF33⟩ := bind_some hF20
          refine c_join (fun a w => Env 44 a [(0, (vS p0)), (4, u12), (5, (vI s11.2)), (6, (vI j18.1)), (7, (vI j18.2)), (34, (vT j31))] ∧ M (Old w0) w0 w [osl NoB (s11.1 : List UInt8) u12]) ?_ ?_
          · skip
            refine wp_region_lit ?_
            refine s_move hE goes_none (by decide) rfl ?_; intro a hE
            refine s_int hE goes_none (by decide) rfl rfl rfl ?_; intro a hE
            refine s_move hE goes_none (by decide) rfl ?_; intro a hE
            refine splitB (decide (j18.1 < 0)) (fun hb34 => ?_) (fun hb34 => ?_)
            · have hl32 := ite_t hl32 hb34
              refine s_skip hE rfl (lkb rfl hb34) rfl (by decide) ?_; intro a hE
              refine s_skip hE rfl (lkb rfl hb34) rfl (by decide) ?_; intro a hE
              refine s_pickT hE goes_none (by decide) (lkb rfl hb34) rfl ?_; intro a hE
              refine c_fin0 ?_
              have ht35 := Option.some.inj hl32
              subst ht35
              refine c_mid ?_
              exact ⟨hE.sub ⟨rfl, rfl, rfl, rfl, rfl, rfl, trivial⟩, hM⟩
            · have hl32 := ite_f hl32 hb34
              refine s_move hE (goes_yes hE rfl (lkb rfl hb34)) (by decide) rfl ?_; intro a hE
              refine s_int hE (goes_yes hE rfl (lkb rfl hb34)) (by decide) rfl rfl rfl ?_; intro a hE
              refine s_pickF hE goes_none (by decide) (lkb rfl hb34) rfl ?_; intro a hE
              refine c_fin0 ?_
              have ht36 := Option.some.inj hl32
              subst ht36
              refine c_mid ?_
              exact ⟨hE.sub ⟨rfl, rfl, rfl, rfl, rfl, rfl, trivial⟩, hM⟩
          · skip
            rintro a w ⟨hE, hM⟩
            refine c_cond hE rfl ?_ ?_
            · intro hb37
              have hF33 := ite_t hF33 hb37
              refine c_region ?_
              refine s_assign hE goes_none (by decide) rfl ?_; intro a hE
              refine s_assign hE goes_none (by decide) rfl ?_; intro a hE
              refine c_fin ?_
              have hM := M.nilS (α := UInt8) NoB noB hM
              have ht39 := hx15 _ (Option.some.inj hF33).symm
              subst ht39
              have hr := Option.some.inj hF7
              subst hr
              have hM := M.fst (l := [_]) hM
              exact wp_ret (r_then (r_inb (r_then (r_then (r_inb (r_then (r_then (k_ret2 hE rfl (res_tmp hE rfl) (res_tmp hE rfl) ⟨_, rfl, (Value.slice none 0 0), rfl, hM.outF (locN1 locN0), hM.kept⟩))))))))
            · intro hb37
              have hF33 := ite_f hF33 hb37
              refine wp_skip ?_
              refine c_nx ?_
              refine wp_region_lit ?_
              refine s_move hE goes_none (by decide) rfl ?_; intro a hE
              refine s_move hE goes_none (by decide) rfl ?_; intro a hE
              refine s_int hE goes_none (by decide) rfl rfl rfl ?_; intro a hE
              refine s_move hE goes_none (by decide) rfl ?_; intro a hE
              refine s_int hE goes_none (by decide) rfl rfl rfl ?_; intro a hE
              refine s_convB hE goes_none (by decide) rfl Tryd.underlying2 Tryd.underlying5 ?_; intro a hE
              refine s_buildF (xs := [.tmp 40]) (l := ([byteI (wr ((wr (16 * j18.1)) + j18.2))] : List UInt8)) (vs := [(vB (byteI (wr ((wr (16 * j18.1)) + j18.2))))]) hE hM goes_none (by decide) rfl rfl Tryd.underlying22 ty5 rfl (by decide) rfl ?_; intro u40 w a hM hE
              obtain ⟨l42, e43, hF33⟩ := bind_some hF33
              obtain ⟨e46, rfl⟩ := app_some e43
              have hM := hM.pull (pre := [_])
              refine s_appendF hE hM goes_none (by decide) rfl rfl (hM.sl (pre := [_]) noB) Tryd.underlying22 ty5 rfl (by decide) e46 ?_; intro u44 w a hM hE
              refine s_assign hE goes_none (by decide) rfl ?_; intro a hE
              refine c_fin0 ?_
              refine c_nb ?_
              refine c_nx ?_
              refine wp_region_lit ?_
              refine s_move hE goes_none (by decide) rfl ?_; intro a hE
              refine s_int hE goes_none (by decide) rfl rfl rfl ?_; intro a hE
              refine s_assign hE goes_none (by decide) rfl ?_; intro a hE
              refine c_fin0 ?_
              refine c_mid ?_
              have hM := M.fst (l := [_]) hM
              exact ⟨_, (Option.some.inj hF33).symm, u44, hE.sub ⟨rfl, rfl, rfl, trivial⟩, hM⟩
      · intro hb17
        have hs14 := ite_f hs14 hb17
        refine wp_exit (e_then (e_then (e_eq ?_)))
        have ht47 := hx15 _ (Option.some.inj hs14).symm
        subst ht47
        refine c_mid ?_
        exact ⟨s11.1, rfl, u12, hE.sub ⟨rfl, trivial⟩, hM⟩
    · skip
      rintro a w ⟨s8, ht, u9, hE, hM⟩
      subst ht
      have hF7 := el_nx hF7
      refine c_nx ?_
      refine c_region ?_
      refine s_move hE goes_none (by decide) rfl ?_; intro a hE
      refine s_assign hE goes_none (by decide) rfl ?_; intro a hE
      refine s_assign hE goes_none (by decide) rfl ?_; intro a hE
      refine c_fin ?_
      have hr := Option.some.inj hF7
      subst hr
      exact wp_ret (k_ret2 hE rfl (res_tmp hE rfl) (res_tmp hE rfl) ⟨_, rfl, u9, rfl, hM.outF (locN1 locN0), hM.kept⟩)
noncomputable def F_spec_l01In (p0 : Int) (p1 : Int) (p2 : Int) : Option (Bool) :=
  (if (decide (p0 ≥ p1)) = true then (some (decide (p0 ≤ p2))) else (some false) : Option (Bool)).bind fun (j1 : Bool) => some j1
set_option maxRecDepth 20000 in
set_option maxHeartbeats 400000 in
theorem c_spec_l01In (w0 : World) (p0 : Int) (p1 : Int) (p2 : Int) (r : Bool) (hF : F_spec_l01In p0 p1 p2 = some r) :
    Calls Tryd.prog 24 [(vI p0), (vI p1), (vI p2)].toArray w0 (fun en w' => ∃ v, en = .returned v ∧ (v = (vT r) ∧ Kept (Old w0) w0 w')) := by
  refine c_enter (n := 15) Tryd.func24 rfl rfl (Nat.le_of_ble_eq_true rfl) rfl ?_
  intro a hE
  have hM := M.start w0
  unfold F_spec_l01In at hF
  refine c_region ?_
  refine s_assign hE goes_none (by decide) rfl ?_; intro a hE
  refine c_fin ?_
  obtain ⟨j1, hl2, hF3⟩ := bind_some hF
  refine c_join (fun a w => Env 15 a [(6, (vT j1))] ∧ M (Old w0) w0 w []) ?_ ?_
  · skip
    refine wp_region_lit ?_
    refine s_move hE goes_none (by decide) rfl ?_; intro a hE
    refine s_move hE goes_none (by decide) rfl ?_; intro a hE
    refine s_int hE goes_none (by decide) rfl rfl rfl ?_; intro a hE
    refine s_move hE goes_none (by decide) rfl ?_; intro a hE
    refine splitB (decide (p0 ≥ p1)) (fun hb4 => ?_) (fun hb4 => ?_)
    · have hl2 := ite_t hl2 hb4
      refine s_move hE (goes_yes hE rfl (lkb rfl hb4)) (by decide) rfl ?_; intro a hE
      refine s_move hE (goes_yes hE rfl (lkb rfl hb4)) (by decide) rfl ?_; intro a hE
      refine s_int hE (goes_yes hE rfl (lkb rfl hb4)) (by decide) rfl rfl rfl ?_; intro a hE
      refine s_pickT hE goes_none (by decide) (lkb rfl hb4) rfl ?_; intro a hE
      refine s_assign hE goes_none (by decide) rfl ?_; intro a hE
      refine c_fin0 ?_
      have ht5 := Option.some.inj hl2
      subst ht5
      refine c_mid ?_
      exact ⟨hE.sub ⟨rfl, trivial⟩, hM⟩
    · have hl2 := ite_f hl2 hb4
      refine s_skip hE rfl (lkb rfl hb4) rfl (by decide) ?_; intro a hE
      refine s_skip hE rfl (lkb rfl hb4) rfl (by decide) ?_; intro a hE
      refine s_skip hE rfl (lkb rfl hb4) rfl (by decide) ?_; intro a hE
      refine s_pickF hE goes_none (by decide) (lkb rfl hb4) rfl ?_; intro a hE
      refine s_assign hE goes_none (by decide) rfl ?_; intro a hE
      refine c_fin0 ?_
      have ht6 := Option.some.inj hl2
      subst ht6
      refine c_mid ?_
      exact ⟨hE.sub ⟨rfl, trivial⟩, hM⟩
  · skip
    rintro a w ⟨hE, hM⟩
    have hr := Option.some.inj hF3
    subst hr
    exact wp_ret (k_ret1 hE rfl (res_tmp hE rfl) ⟨_, rfl, rfl, hM.kept⟩)
noncomputable def F_spec_ParseShare (p0 : Str) : Option (GShare × Int) :=
  (F_spec_l01Split p0 58).bind fun (r3 : (List Str)) => if ((r3.length : Int) != 2) = true then (some ((⟨0, []⟩ : GShare), 6)) else ((idx r3 (0 : Int)).bind fun (x9 : Str) => (F_spec_l01Number x9).bind fun (r12 : Int) => (idx r3 (1 : Int)).bind fun (x14 : Str) => (F_spec_l01Bytes x14).bind fun (r17 : (List UInt8) × Bool) => (if (!r17.2) = true then (some true) else ((F_spec_l01In r12 1 255).bind fun (r25 : Bool) => if (!r25) = true then (some true) else (some (decide ((r17.1.length : Int) > 100)))) : Option (Bool)).bind fun (j20 : Bool) => if j20 = true then (some ((⟨0, []⟩ : GShare), 6)) else (some ((⟨byteI r12, r17.1⟩ : GShare), 0)))
set_option maxRecDepth 20000 in
set_option maxHeartbeats 400000 in
theorem c_spec_ParseShare (w0 : World) (p0 : Str) (r : GShare × Int) (hF : F_spec_ParseShare p0 = some r) :
    Calls Tryd.prog 10 [(vS p0)].toArray w0 (fun en w' => ∃ v, en = .returned v ∧ (∃ (y1 : Value), v = (Value.tuple [(Value.agg (cat [[(vB r.1.Place)], [y1]]).toArray), (vI r.2)].toArray) ∧ Fr w0 w' [osl NoB (r.1.Data : List UInt8) y1] ∧ Kept (Old w0) w0 w')) := by
  refine c_enter (n := 42) Tryd.func10 rfl rfl (Nat.le_of_ble_eq_true rfl) rfl ?_
  intro a hE
  have hM := M.start w0
  unfold F_spec_ParseShare at hF
  refine c_region ?_
  refine s_alloc hE hM goes_none (by decide) ty28 ?_; intro b1 w a hM hE
  refine s_assign hE goes_none (by decide) rfl ?_; intro a hE
  refine c_fin ?_
  refine c_region ?_
  refine s_move hE goes_none (by decide) rfl ?_; intro a hE
  obtain ⟨r3, e4, hF⟩ := bind_some hF
  refine s_call (vs := [(vS p0), (vB 58)]) hE goes_none (by decide) rfl cb21 (c_spec_l01Split _ p0 58 r3 e4) ?_
  rintro u5 w a ⟨_, rfl, hFr, hK⟩ hE
  have hM := hM.add hK hFr
  refine s_assign hE goes_none (by decide) rfl ?_; intro a hE
  refine c_fin ?_
  refine wp_seq ?_
  refine c_region ?_
  refine s_move hE goes_none (by decide) rfl ?_; intro a hE
  refine s_len hE goes_none (by decide) rfl Tryd.underlying41 (hM.sl (pre := []) noB) ?_; intro a hE
  refine s_int hE goes_none (by decide) rfl rfl rfl ?_; intro a hE
  refine c_fin ?_
  refine c_cond hE rfl ?_ ?_
  · intro hb6
    have hF := ite_t hF hb6
    refine c_region ?_
    refine s_buildStr (parts := []) (vs := []) (cs := cat [[(vB 0)], [(Value.slice none 0 0)]]) hE goes_none (by decide) rfl rfl ty28 pl28 fill_nil ?_; intro a hE
    have hM := hM.pull (pre := [_])
    refine s_store (seg := cat [[(vB 0)], [(Value.slice none 0 0)]]) (cs' := cat [[(vB 0)], [(Value.slice none 0 0)]]) hE hM goes_none rfl rfl rfl ty28 (cat_len (cl1 (n := 1) (m := 1) rfl (cl1 (n := 1) (m := 0) rfl cl0))) (Nat.le_of_eq ((Nat.zero_add _).trans (Eq.trans (cat_len (cl1 (n := 1) (m := 1) rfl (cl1 (n := 1) (m := 0) rfl cl0))) (Eq.symm (cat_len (cl1 (n := 1) (m := 1) rfl (cl1 (n := 1) (m := 0) rfl cl0))))))) (cat_cell (cc1 (Flat.cell (0 : UInt8)) (cc1 cellNil cc0))) (splice_all (Eq.trans (cat_len (cl1 (n := 1) (m := 1) rfl (cl1 (n := 1) (m := 0) rfl cl0))) (Eq.symm (cat_len (cl1 (n := 1) (m := 1) rfl (cl1 (n := 1) (m := 0) rfl cl0)))))) ?_; intro w a hM hE
    refine s_assign hE goes_none (by decide) rfl ?_; intro a hE
    refine c_fin ?_
    have hM := M.nilS (α := UInt8) NoB noB hM
    have hr := Option.some.inj hF
    subst hr
    have hq8 : ResIs Tryd.prog _ _ (.cell 2 28) _ := res_cell hE rfl ty28 rfl (hM.rawAt (pre := [_])) (cat_len (cl1 (n := 1) (m := 1) rfl (cl1 (n := 1) (m := 0) rfl cl0))) rfl
    have hM := M.fst (l := [_]) hM
    exact wp_ret (r_then (k_ret2 hE rfl hq8 (res_tmp hE rfl) ⟨_, rfl, (Value.slice none 0 0), rfl, hM.outF (locN1 locN0), hM.kept⟩))
  · intro hb6
    have hF := ite_f hF hb6
    refine wp_skip ?_
    refine c_nx ?_
    refine c_region ?_
    refine s_move hE goes_none (by decide) rfl ?_; intro a hE
    obtain ⟨x9, e10, hF⟩ := bind_some hF
    have hi11 := idx_some e10
    refine s_indexS hE goes_none (by decide) rfl rfl Tryd.underlying41 ty9 (hM.sl (pre := []) noB) hi11.1 ?_; intro a hE
    refine s_load (v := (vS x9)) hE goes_none (by decide) rfl ty9 rfl (sl_atF (hM.sl (pre := []) noB) hi11.2) ?_; intro a hE
    obtain ⟨r12, e13, hF⟩ := bind_some hF
    refine s_call (vs := [(vS x9)]) hE goes_none (by decide) rfl cb22 (c_spec_l01Number _ x9 r12 e13) ?_
    rintro v w a ⟨rfl, hK⟩ hE
    have hM := hM.keep hK
    refine s_assign hE goes_none (by decide) rfl ?_; intro a hE
    refine c_fin ?_
    refine c_region ?_
    refine s_move hE goes_none (by decide) rfl ?_; intro a hE
    obtain ⟨x14, e15, hF⟩ := bind_some hF
    have hi16 := idx_some e15
    refine s_indexS hE goes_none (by decide) rfl rfl Tryd.underlying41 ty9 (hM.sl (pre := []) noB) hi16.1 ?_; intro a hE
    refine s_load (v := (vS x14)) hE goes_none (by decide) rfl ty9 rfl (sl_atF (hM.sl (pre := []) noB) hi16.2) ?_; intro a hE
    obtain ⟨r17, e18, hF⟩ := bind_some hF
    refine s_call (vs := [(vS x14)]) hE goes_none (by decide) rfl cb23 (c_spec_l01Bytes _ x14 r17 e18) ?_
    rintro v w a ⟨u19, rfl, hFr, hK⟩ hE
    have hM := hM.add hK hFr
    refine s_move hE goes_none (by decide) rfl ?_; intro a hE
    refine s_extract hE goes_none (by decide) rfl rfl ?_; intro a hE
    refine s_extract hE goes_none (by decide) rfl rfl ?_; intro a hE
    refine s_assign hE goes_none (by decide) rfl ?_; intro a hE
    refine s_assign hE goes_none (by decide) rfl ?_; intro a hE
    refine c_fin ?_
    refine wp_seq ?_
    obtain ⟨j20, hl21, hF22⟩ := bind_some hF
    refine c_join (fun a w => Env 42 a [(2, (ptr b1 0)), (5, (vI r12)), (6, u19), (36, (vT j20))] ∧ M (Old w0) w0 w [osl NoB (r17.1 : List UInt8) u19, raw b1 (cat [[(vB 0)], [(Value.slice none 0 0)]])]) ?_ ?_
    · skip
      refine wp_region_lit ?_
      refine s_move hE goes_none (by decide) rfl ?_; intro a hE
      refine s_not hE goes_none (by decide) rfl ?_; intro a hE
      refine s_move hE goes_none (by decide) rfl ?_; intro a hE
      refine splitB (!r17.2) (fun hb23 => ?_) (fun hb23 => ?_)
      · have hl21 := ite_t hl21 hb23
        refine s_skip hE rfl (lkb rfl hb23) rfl (by decide) ?_; intro a hE
        refine s_skip hE rfl (lkb rfl hb23) rfl (by decide) ?_; intro a hE
        refine s_skip hE rfl (lkb rfl hb23) rfl (by decide) ?_; intro a hE
        refine s_pickT hE goes_none (by decide) (lkb rfl hb23) rfl ?_; intro a hE
        refine s_move hE goes_none (by decide) rfl ?_; intro a hE
        refine s_skip hE rfl rfl rfl (by decide) ?_; intro a hE
        refine s_skip hE rfl rfl rfl (by decide) ?_; intro a hE
        refine s_skip hE rfl rfl rfl (by decide) ?_; intro a hE
        refine s_pickT hE goes_none (by decide) rfl rfl ?_; intro a hE
        refine c_fin0 ?_
        have ht24 := Option.some.inj hl21
        subst ht24
        refine c_mid ?_
        have hM := hM.pull (pre := [_, _])
        have hM := hM.pull (pre := [_])
        have hM := M.fst (l := [_, _]) hM
        exact ⟨hE.sub ⟨rfl, rfl, rfl, rfl, trivial⟩, hM⟩
      · have hl21 := ite_f hl21 hb23
        refine s_move hE (goes_yes hE rfl (lkb rfl hb23)) (by decide) rfl ?_; intro a hE
        obtain ⟨r25, e26, hl21⟩ := bind_some hl21
        refine s_call (vs := [(vI r12), (vI 1), (vI 255)]) hE (goes_yes hE rfl (lkb rfl hb23)) (by decide) rfl cb24 (c_spec_l01In _ r12 1 255 r25 e26) ?_
        rintro v w a ⟨rfl, hK⟩ hE
        have hM := hM.keep hK
        refine s_not hE (goes_yes hE rfl (lkb rfl hb23)) (by decide) rfl ?_; intro a hE
        refine s_pickF hE goes_none (by decide) (lkb rfl hb23) rfl ?_; intro a hE
        refine s_move hE goes_none (by decide) rfl ?_; intro a hE
        refine splitB (!r25) (fun hb27 => ?_) (fun hb27 => ?_)
        · have hl21 := ite_t hl21 hb27
          refine s_skip hE rfl (lkb rfl hb27) rfl (by decide) ?_; intro a hE
          refine s_skip hE rfl (lkb rfl hb27) rfl (by decide) ?_; intro a hE
          refine s_skip hE rfl (lkb rfl hb27) rfl (by decide) ?_; intro a hE
          refine s_pickT hE goes_none (by decide) (lkb rfl hb27) rfl ?_; intro a hE
          refine c_fin0 ?_
          have ht28 := Option.some.inj hl21
          subst ht28
          refine c_mid ?_
          have hM := hM.pull (pre := [_, _])
          have hM := hM.pull (pre := [_])
          have hM := M.fst (l := [_, _]) hM
          exact ⟨hE.sub ⟨rfl, rfl, rfl, rfl, trivial⟩, hM⟩
        · have hl21 := ite_f hl21 hb27
          refine s_move hE (goes_yes hE rfl (lkb rfl hb27)) (by decide) rfl ?_; intro a hE
          refine s_len hE (goes_yes hE rfl (lkb rfl hb27)) (by decide) rfl Tryd.underlying22 (hM.sl (pre := []) noB) ?_; intro a hE
          refine s_int hE (goes_yes hE rfl (lkb rfl hb27)) (by decide) rfl rfl rfl ?_; intro a hE
          refine s_pickF hE goes_none (by decide) (lkb rfl hb27) rfl ?_; intro a hE
          refine c_fin0 ?_
          have ht29 := Option.some.inj hl21
          subst ht29
          refine c_mid ?_
          have hM := hM.pull (pre := [_, _])
          have hM := hM.pull (pre := [_])
          have hM := M.fst (l := [_, _]) hM
          exact ⟨hE.sub ⟨rfl, rfl, rfl, rfl, trivial⟩, hM⟩
    · skip
      rintro a w ⟨hE, hM⟩
      refine c_cond hE rfl ?_ ?_
      · intro hb30
        have hF22 := ite_t hF22 hb30
        refine c_region ?_
        refine s_buildStr (parts := []) (vs := []) (cs := cat [[(vB 0)], [(Value.slice none 0 0)]]) hE goes_none (by decide) rfl rfl ty28 pl28 fill_nil ?_; intro a hE
        have hM := hM.pull (pre := [_])
        refine s_store (seg := cat [[(vB 0)], [(Value.slice none 0 0)]]) (cs' := cat [[(vB 0)], [(Value.slice none 0 0)]]) hE hM goes_none rfl rfl rfl ty28 (cat_len (cl1 (n := 1) (m := 1) rfl (cl1 (n := 1) (m := 0) rfl cl0))) (Nat.le_of_eq ((Nat.zero_add _).trans (Eq.trans (cat_len (cl1 (n := 1) (m := 1) rfl (cl1 (n := 1) (m := 0) rfl cl0))) (Eq.symm (cat_len (cl1 (n := 1) (m := 1) rfl (cl1 (n := 1) (m := 0) rfl cl0))))))) (cat_cell (cc1 (Flat.cell (0 : UInt8)) (cc1 cellNil cc0))) (splice_all (Eq.trans (cat_len (cl1 (n := 1) (m := 1) rfl (cl1 (n := 1) (m := 0) rfl cl0))) (Eq.symm (cat_len (cl1 (n := 1) (m := 1) rfl (cl1 (n := 1) (m := 0) rfl cl0)))))) ?_; intro w a hM hE
        refine s_assign hE goes_none (by decide) rfl ?_; intro a hE
        refine c_fin ?_
        have hM := M.nilS (α := UInt8) NoB noB hM
        have hr := Option.some.inj hF22
        subst hr
        have hq32 : ResIs Tryd.prog _ _ (.cell 2 28) _ := res_cell hE rfl ty28 rfl (hM.rawAt (pre := [_])) (cat_len (cl1 (n := 1) (m := 1) rfl (cl1 (n := 1) (m := 0) rfl cl0))) rfl
        have hM := M.fst (l := [_]) hM
        exact wp_ret (r_then (k_ret2 hE rfl hq32 (res_tmp hE rfl) ⟨_, rfl, (Value.slice none 0 0), rfl, hM.outF (locN1 locN0), hM.kept⟩))
      · intro hb30
        have hF22 := ite_f hF22 hb30
        refine wp_skip ?_
        refine c_nx ?_
        refine c_region ?_
        refine s_move hE goes_none (by decide) rfl ?_; intro a hE
        refine s_convB hE goes_none (by decide) rfl Tryd.underlying2 Tryd.underlying5 ?_; intro a hE
        refine s_move hE goes_none (by decide) rfl ?_; intro a hE
        refine s_buildStr (parts := [(0, .tmp 39), (1, .tmp 40)]) (vs := [(0, (vB (byteI r12))), (1, u19)]) (cs := cat [[(vB (byteI r12))], [u19]]) hE goes_none (by decide) rfl rfl ty28 pl28 (fill_step (pre := []) (seg := [(vB 0)]) (seg' := [(vB (byteI r12))]) (post := [[(Value.slice none 0 0)]]) rfl cl0 rfl rfl rfl (fill_step (pre := [[(vB (byteI r12))]]) (seg := [(Value.slice none 0 0)]) (seg' := [u19]) (post := []) rfl (cl1 (n := 1) (m := 0) rfl cl0) rfl rfl (sl_cells (hM.sl (pre := []) noB)) fill_nil)) ?_; intro a hE
        have hM := hM.pull (pre := [_])
        refine s_store (seg := cat [[(vB (byteI r12))], [u19]]) (cs' := cat [[(vB (byteI r12))], [u19]]) hE hM goes_none rfl rfl rfl ty28 (cat_len (cl1 (n := 1) (m := 1) rfl (cl1 (n := 1) (m := 0) rfl cl0))) (Nat.le_of_eq ((Nat.zero_add _).trans (Eq.trans (cat_len (cl1 (n := 1) (m := 1) rfl (cl1 (n := 1) (m := 0) rfl cl0))) (Eq.symm (cat_len (cl1 (n := 1) (m := 1) rfl (cl1 (n := 1) (m := 0) rfl cl0))))))) (cat_cell (cc1 (Flat.cell (byteI r12 : UInt8)) (cc1 (Rep.cell (hM.sl (pre := [_]) noB)) cc0))) (splice_all (Eq.trans (cat_len (cl1 (n := 1) (m := 1) rfl (cl1 (n := 1) (m := 0) rfl cl0))) (Eq.symm (cat_len (cl1 (n := 1) (m := 1) rfl (cl1 (n := 1) (m := 0) rfl cl0)))))) ?_; intro w a hM hE
        refine s_assign hE goes_none (by decide) rfl ?_; intro a hE
        refine c_fin ?_
        have hr := Option.some.inj hF22
        subst hr
        have hq33 : ResIs Tryd.prog _ _ (.cell 2 28) _ := res_cell hE rfl ty28 rfl (hM.rawAt (pre := [])) (cat_len (cl1 (n := 1) (m := 1) rfl (cl1 (n := 1) (m := 0) rfl cl0))) rfl
        have hM := hM.pull (pre := [_])
        have hM := M.fst (l := [_]) hM
        exact wp_ret (k_ret2 hE rfl hq33 (res_tmp hE rfl) ⟨_, rfl, u19, rfl, hM.outF (locN1 locN0), hM.kept⟩)
-- internal_stringslite_Index: ShelfF
-- internal_stringslite_Index: ShelfF
noncomputable def F_internal_stringslite_Cut (p0 : Str) (p1 : Str) : Option (Str × Str × Bool) :=
  (F_internal_stringslite_Index p0 p1).bind fun (r1 : Int) => if (decide (r1 ≥ 0)) = true then (((sslc p0 (0 : Int) r1).bind fun (x8 : Str) => (sslc p0 (wr (r1 + (p1.l.length : Int))) (p0.l.length : Int)).bind fun (x10 : Str) => some (x8, x10, true) : Option (Str × Str × Bool)).bind fun (j4 : Str × Str × Bool) => some (j4.1, j4.2.1, j4.2.2)) else (some (p0, (⟨[]⟩ : Str), false))
set_option maxRecDepth 20000 in
set_option maxHeartbeats 400000 in
theorem c_internal_stringslite_Cut (w0 : World) (p0 : Str) (p1 : Str) (r : Str × Str × Bool) (hF : F_internal_stringslite_Cut p0 p1 = some r) :
    Calls Tryd.prog 36 [(vS p0), (vS p1)].toArray w0 (fun en w' => ∃ v, en = .returned v ∧ (v = (Value.tuple [(vS r.1), (vS r.2.1), (vT r.2.2)].toArray) ∧ Kept (Old w0) w0 w')) := by
  refine c_enter (n := 23) Tryd.func36 rfl rfl (Nat.le_of_ble_eq_true rfl) rfl ?_
  intro a hE
  have hM := M.start w0
  unfold F_internal_stringslite_Cut at hF
  refine c_region ?_
  refine s_assign hE goes_none (by decide) rfl ?_; intro a hE
  refine s_assign hE goes_none (by decide) rfl ?_; intro a hE
  refine s_assign hE goes_none (by decide) rfl ?_; intro a hE
  refine c_fin ?_
  refine wp_seq ?_
  refine c_region ?_
  refine s_move hE goes_none (by decide) rfl ?_; intro a hE
  refine s_move hE goes_none (by decide) rfl ?_; intro a hE
  obtain ⟨r1, e2, hF⟩ := bind_some hF
  refine s_call (vs := [(vS p0), (vS p1)]) hE goes_none (by decide) rfl cb40 (c_internal_stringslite_Index _ p0 p1 r1 e2) ?_
  rintro v w a ⟨rfl, hK⟩ hE
  have hM := hM.keep hK
  refine s_assign hE goes_none (by decide) rfl ?_; intro a hE
  refine c_fin ?_
  refine c_region ?_
  refine s_move hE goes_none (by decide) rfl ?_; intro a hE
  refine s_int hE goes_none (by decide) rfl rfl rfl ?_; intro a hE
  refine c_fin ?_
  refine c_cond hE rfl ?_ ?_
  · intro hb3
    have hF := ite_t hF hb3
    obtain ⟨j4, hl5, hF6⟩ := bind_some hF
    refine c_join (fun a w => Env 23 a [(4, (vS j4.1)), (5, (vS j4.2.1)), (6, (vT j4.2.2))] ∧ M (Old w0) w0 w []) ?_ ?_
    · skip
      obtain ⟨x8, e9, hl5⟩ := bind_some hl5
      obtain ⟨x10, e11, hl5⟩ := bind_some hl5
      refine c_drawP [13, 14, 15, 16, 17, 18, 19, 20, 21, 4, 5, 6] hmix rfl rfl (by decide) rfl hE hM (qsP (fun z => s_move z.E goes_none (by decide) rfl (kr0 rfl)) (qsP (fun z => s_move z.E goes_none (by decide) rfl (kr0 rfl)) (qsP (fun z => s_sliceStr z.E goes_none (by decide) rfl rfl (opvo_some rfl) rfl rfl Tryd.underlying9 e9 (kr0 rfl)) (qsP (fun z => s_move z.E goes_none (by decide) rfl (kr0 rfl)) (qsP (fun z => s_move z.E goes_none (by decide) rfl (kr0 rfl)) (qsP (fun z => s_move z.E goes_none (by decide) rfl (kr0 rfl)) (qsP (fun z => s_lenStr z.E goes_none (by decide) rfl Tryd.underlying9 (kr0 rfl)) (qsP (v := (vI (wr (r1 + (p1.l.length : Int))))) (fun z => s_int z.E goes_none (by decide) rfl rfl rfl (kr0 rfl)) (qsP (fun z => s_sliceStr z.E goes_none (by decide) rfl (opvo_some rfl) rfl rfl rfl Tryd.underlying9 e11 (kr0 rfl)) (qsP (fun z => s_assign z.E goes_none (by decide) rfl (kr0 rfl)) (qsP (fun z => s_assign z.E goes_none (by decide) rfl (kr0 rfl)) (qsP (fun z => s_assign z.E goes_none (by decide) rfl (kr0 rfl)) qs0)))))))))))) ?_
      · intro a w u hE hM
        refine c_fin0 ?_
        have ht12 := Option.some.inj hl5
        subst ht12
        refine c_mid ?_
        exact ⟨hE.sub ⟨rfl, rfl, rfl, trivial⟩, hM⟩
    · skip
      rintro a w ⟨hE, hM⟩
      have hr := Option.some.inj hF6
      subst hr
      exact wp_ret (r_then (k_ret3 hE rfl (res_tmp hE rfl) (res_tmp hE rfl) (res_tmp hE rfl) ⟨_, rfl, rfl, hM.kept⟩))
  · intro hb3
    have hF := ite_f hF hb3
    refine wp_skip ?_
    refine c_nx ?_
    refine c_region ?_
    refine s_move hE goes_none (by decide) rfl ?_; intro a hE
    refine s_assign hE goes_none (by decide) rfl ?_; intro a hE
    refine s_assign hE goes_none (by decide) rfl ?_; intro a hE
    refine s_assign hE goes_none (by decide) rfl ?_; intro a hE
    refine c_fin ?_
    have hr := Option.some.inj hF
    subst hr
    exact wp_ret (k_ret3 hE rfl (res_tmp hE rfl) (res_tmp hE rfl) (res_tmp hE rfl) ⟨_, rfl, rfl, hM.kept⟩)
noncomputable def F_strings_Cut (p0 : Str) (p1 : Str) : Option (Str × Str × Bool) :=
  (F_internal_stringslite_Cut p0 p1).bind fun (r1 : Str × Str × Bool) => some (r1.1, r1.2.1, r1.2.2)
set_option maxRecDepth 20000 in
set_option maxHeartbeats 400000 in
theorem c_strings_Cut (w0 : World) (p0 : Str) (p1 : Str) (r : Str × Str × Bool) (hF : F_strings_Cut p0 p1 = some r) :
    Calls Tryd.prog 25 [(vS p0), (vS p1)].toArray w0 (fun en w' => ∃ v, en = .returned v ∧ (v = (Value.tuple [(vS r.1), (vS r.2.1), (vT r.2.2)].toArray) ∧ Kept (Old w0) w0 w')) := by
  refine c_enter (n := 13) Tryd.func25 rfl rfl (Nat.le_of_ble_eq_true rfl) rfl ?_
  intro a hE
  have hM := M.start w0
  unfold F_strings_Cut at hF
  refine c_region ?_
  refine s_assign hE goes_none (by decide) rfl ?_; intro a hE
  refine s_assign hE goes_none (by decide) rfl ?_; intro a hE
  refine s_assign hE goes_none (by decide) rfl ?_; intro a hE
  refine c_fin ?_
  refine c_region ?_
  refine s_move hE goes_none (by decide) rfl ?_; intro a hE
  refine s_move hE goes_none (by decide) rfl ?_; intro a hE
  obtain ⟨r1, e2, hF⟩ := bind_some hF
  refine s_call (vs := [(vS p0), (vS p1)]) hE goes_none (by decide) rfl cb36 (c_internal_stringslite_Cut _ p0 p1 r1 e2) ?_
  rintro v w a ⟨rfl, hK⟩ hE
  have hM := hM.keep hK
  refine s_extract hE goes_none (by decide) rfl rfl ?_; intro a hE
  refine s_extract hE goes_none (by decide) rfl rfl ?_; intro a hE
  refine s_extract hE goes_none (by decide) rfl rfl ?_; intro a hE
  refine s_assign hE goes_none (by decide) rfl ?_; intro a hE
  refine s_assign hE goes_none (by decide) rfl ?_; intro a hE
  refine s_assign hE goes_none (by decide) rfl ?_; intro a hE
  refine c_fin ?_
  have hr := Option.some.inj hF
  subst hr
  exact wp_ret (k_ret3 hE rfl (res_tmp hE rfl) (res_tmp hE rfl) (res_tmp hE rfl) ⟨_, rfl, rfl, hM.kept⟩)
-- impl_readDecimal: ShelfF
-- impl_readDecimal: ShelfF
noncomputable def F_impl_hexDigit (p0 : UInt8) : Option (UInt8 × Bool) :=
  (if (decide (p0 ≥ 48)) = true then (some (decide (p0 ≤ 57))) else (some false) : Option (Bool)).bind fun (j1 : Bool) => if j1 = true then (some (p0 - 48, true)) else ((if (decide (p0 ≥ 97)) = true then (some (decide (p0 ≤ 102))) else (some false) : Option (Bool)).bind fun (j8 : Bool) => if j8 = true then (some ((p0 - 97) + 10, true)) else (some (0, false)))
set_option maxRecDepth 20000 in
set_option maxHeartbeats 400000 in
theorem c_impl_hexDigit (w0 : World) (p0 : UInt8) (r : UInt8 × Bool) (hF : F_impl_hexDigit p0 = some r) :
    Calls Tryd.prog 38 [(vB p0)].toArray w0 (fun en w' => ∃ v, en = .returned v ∧ (v = (Value.tuple [(vB r.1), (vT r.2)].toArray) ∧ Kept (Old w0) w0 w')) := by
  refine c_enter (n := 23) Tryd.func38 rfl rfl (Nat.le_of_ble_eq_true rfl) rfl ?_
  intro a hE
  have hM := M.start w0
  unfold F_impl_hexDigit at hF
  refine c_region ?_
  refine s_assign hE goes_none (by decide) rfl ?_; intro a hE
  refine s_assign hE goes_none (by decide) rfl ?_; intro a hE
  refine c_fin ?_
  refine wp_seq ?_
  refine wp_block ?_
  obtain ⟨j1, hl2, hF3⟩ := bind_some hF
  refine c_join (fun a w => Env 23 a [(0, (vB p0)), (4, (vT j1))] ∧ M (Old w0) w0 w []) ?_ ?_
  · skip
    refine wp_region_lit ?_
    refine s_move hE goes_none (by decide) rfl ?_; intro a hE
    refine s_int hE goes_none (by decide) rfl rfl (bB_geq p0 48) ?_; intro a hE
    refine s_move hE goes_none (by decide) rfl ?_; intro a hE
    refine splitB (decide (p0 ≥ 48)) (fun hb4 => ?_) (fun hb4 => ?_)
    · have hl2 := ite_t hl2 hb4
      refine s_move hE (goes_yes hE rfl (lkb rfl hb4)) (by decide) rfl ?_; intro a hE
      refine s_int hE (goes_yes hE rfl (lkb rfl hb4)) (by decide) rfl rfl (bB_leq p0 57) ?_; intro a hE
      refine s_pickT hE goes_none (by decide) (lkb rfl hb4) rfl ?_; intro a hE
      refine s_assign hE goes_none (by decide) rfl ?_; intro a hE
      refine c_fin0 ?_
      have ht5 := Option.some.inj hl2
      subst ht5
      refine c_mid ?_
      exact ⟨hE.sub ⟨rfl, rfl, trivial⟩, hM⟩
    · have hl2 := ite_f hl2 hb4
      refine s_skip hE rfl (lkb rfl hb4) rfl (by decide) ?_; intro a hE
      refine s_skip hE rfl (lkb rfl hb4) rfl (by decide) ?_; intro a hE
      refine s_pickF hE goes_none (by decide) (lkb rfl hb4) rfl ?_; intro a hE
      refine s_assign hE goes_none (by decide) rfl ?_; intro a hE
      refine c_fin0 ?_
      have ht6 := Option.some.inj hl2
      subst ht6
      refine c_mid ?_
      exact ⟨hE.sub ⟨rfl, rfl, trivial⟩, hM⟩
  · skip
    rintro a w ⟨hE, hM⟩
    refine c_cond hE rfl ?_ ?_
    · intro hb7
      have hF3 := ite_t hF3 hb7
      refine c_region ?_
      refine s_move hE goes_none (by decide) rfl ?_; intro a hE
      refine s_int hE goes_none (by decide) rfl rfl (bB_sub p0 48) ?_; intro a hE
      refine s_assign hE goes_none (by decide) rfl ?_; intro a hE
      refine s_assign hE goes_none (by decide) rfl ?_; intro a hE
      refine c_fin ?_
      have hr := Option.some.inj hF3
      subst hr
      exact wp_ret (r_inb (r_then (k_ret2 hE rfl (res_tmp hE rfl) (res_tmp hE rfl) ⟨_, rfl, rfl, hM.kept⟩)))
    · intro hb7
      have hF3 := ite_f hF3 hb7
      obtain ⟨j8, hl9, hF10⟩ := bind_some hF3
      refine c_join (fun a w => Env 23 a [(0, (vB p0)), (13, (vT j8))] ∧ M (Old w0) w0 w []) ?_ ?_
      · skip
        refine wp_region_lit ?_
        refine s_move hE goes_none (by decide) rfl ?_; intro a hE
        refine s_int hE goes_none (by decide) rfl rfl (bB_geq p0 97) ?_; intro a hE
        refine s_move hE goes_none (by decide) rfl ?_; intro a hE
        refine splitB (decide (p0 ≥ 97)) (fun hb11 => ?_) (fun hb11 => ?_)
        · have hl9 := ite_t hl9 hb11
          refine s_move hE (goes_yes hE rfl (lkb rfl hb11)) (by decide) rfl ?_; intro a hE
          refine s_int hE (goes_yes hE rfl (lkb rfl hb11)) (by decide) rfl rfl (bB_leq p0 102) ?_; intro a hE
          refine s_pickT hE goes_none (by decide) (lkb rfl hb11) rfl ?_; intro a hE
          refine s_assign hE goes_none (by decide) rfl ?_; intro a hE
          refine c_fin0 ?_
          have ht12 := Option.some.inj hl9
          subst ht12
          refine c_mid ?_
          exact ⟨hE.sub ⟨rfl, rfl, trivial⟩, hM⟩
        · have hl9 := ite_f hl9 hb11
          refine s_skip hE rfl (lkb rfl hb11) rfl (by decide) ?_; intro a hE
          refine s_skip hE rfl (lkb rfl hb11) rfl (by decide) ?_; intro a hE
          refine s_pickF hE goes_none (by decide) (lkb rfl hb11) rfl ?_; intro a hE
          refine s_assign hE goes_none (by decide) rfl ?_; intro a hE
          refine c_fin0 ?_
          have ht13 := Option.some.inj hl9
          subst ht13
          refine c_mid ?_
          exact ⟨hE.sub ⟨rfl, rfl, trivial⟩, hM⟩
      · skip
        rintro a w ⟨hE, hM⟩
        refine c_cond hE rfl ?_ ?_
        · intro hb14
          have hF10 := ite_t hF10 hb14
          refine c_region ?_
          refine s_move hE goes_none (by decide) rfl ?_; intro a hE
          refine s_int hE goes_none (by decide) rfl rfl (bB_sub p0 97) ?_; intro a hE
          refine s_int hE goes_none (by decide) rfl rfl (bB_add (p0 - 97) 10) ?_; intro a hE
          refine s_assign hE goes_none (by decide) rfl ?_; intro a hE
          refine s_assign hE goes_none (by decide) rfl ?_; intro a hE
          refine c_fin ?_
          have hr := Option.some.inj hF10
          subst hr
          exact wp_ret (r_inb (r_then (k_ret2 hE rfl (res_tmp hE rfl) (res_tmp hE rfl) ⟨_, rfl, rfl, hM.kept⟩)))
        · intro hb14
          have hF10 := ite_f hF10 hb14
          refine wp_skip ?_
          refine c_nb ?_
          refine c_nx ?_
          refine c_region ?_
          refine s_assign hE goes_none (by decide) rfl ?_; intro a hE
          refine s_assign hE goes_none (by decide) rfl ?_; intro a hE
          refine c_fin ?_
          have hr := Option.some.inj hF10
          subst hr
          exact wp_ret (k_ret2 hE rfl (res_tmp hE rfl) (res_tmp hE rfl) ⟨_, rfl, rfl, hM.kept⟩)
noncomputable def L0_impl_fromHex (p0 : Str) (s11 : (List UInt8) × Int) : Option (Fl ((List UInt8) × Int) (Fl (List UInt8) ((List UInt8) × Bool))) :=
  if (decide (s11.2 < (p0.l.length : Int))) = true then ((idx p0.l s11.2).bind fun (x18 : UInt8) => (F_impl_hexDigit x18).bind fun (r20 : UInt8 × Bool) => (idx p0.l (wr (s11.2 + 1))).bind fun (x22 : UInt8) => (F_impl_hexDigit x22).bind fun (r24 : UInt8 × Bool) => (if (!r20.2) = true then (some true) else (some (!r24.2)) : Option (Bool)).bind fun (j26 : Bool) => if j26 = true then (some (Fl.ex (Fl.ex ([], false)))) else ((app 1 s11.1 ([(shlB r20.1 4) ||| r24.1] : List UInt8)).bind fun (l37 : (List UInt8)) => some (Fl.nx ((s11.1 ++ ([(shlB r20.1 4) ||| r24.1] : List UInt8)), wr (s11.2 + 2))))) else (some (Fl.ex (Fl.nx s11.1)))
noncomputable def F_impl_fromHex (p0 : Str) : Option ((List UInt8) × Bool) :=
  if ((Int.tmod (p0.l.length : Int) 2) == 1) = true then (some ([], false)) else ((iter (L0_impl_fromHex p0) (([] : List UInt8), 0) : Option (Fl (List UInt8) ((List UInt8) × Bool))).bind fun (j5 : Fl (List UInt8) ((List UInt8) × Bool)) => j5.el (fun (s8 : (List UInt8)) => some (s8, true)) (fun r => some r))
set_option maxRecDepth 20000 in
set_option maxHeartbeats 400000 in
theorem c_impl_fromHex (w0 : World) (p0 : Str) (r : (List UInt8) × Bool) (hF : F_impl_fromHex p0 = some r) :
    Calls Tryd.prog 27 [(vS p0)].toArray w0 (fun en w' => ∃ v, en = .returned v ∧ (∃ (y1 : Value), v = (Value.tuple [y1, (vT r.2)].toArray) ∧ Fr w0 w' [osl NoB (r.1 : List UInt8) y1] ∧ Kept (Old w0) w0 w')) := by
  refine c_enter (n := 50) Tryd.func27 rfl rfl (Nat.le_of_ble_eq_true rfl) rfl ?_
  intro a hE
  have hM := M.start w0
  unfold F_impl_fromHex at hF
  refine c_region ?_
  refine s_assign hE goes_none (by decide) rfl ?_; intro a hE
  refine s_assign hE goes_none (by decide) rfl ?_; intro a hE
  refine c_fin ?_
  refine c_region ?_
  refine s_buildF (xs := []) (l := ([] : List UInt8)) (vs := []) hE hM goes_none (by decide) rfl rfl Tryd.underlying22 ty5 rfl (by decide) rfl ?_; intro u1 w a hM hE
  refine s_assign hE goes_none (by decide) rfl ?_; intro a hE
  refine c_fin ?_
  refine wp_seq ?_
  refine c_region ?_
  refine s_move hE goes_none (by decide) rfl ?_; intro a hE
  refine s_lenStr hE goes_none (by decide) rfl Tryd.underlying9 ?_; intro a hE
  refine s_int hE goes_none (by decide) rfl rfl (bI_rem _ _ (by decide)) ?_; intro a hE
  refine s_int hE goes_none (by decide) rfl rfl rfl ?_; intro a hE
  refine c_fin ?_
  refine c_cond hE rfl ?_ ?_
  · intro hb3
    have hF := ite_t hF hb3
    refine c_region ?_
    refine s_assign hE goes_none (by decide) rfl ?_; intro a hE
    refine s_assign hE goes_none (by decide) rfl ?_; intro a hE
    refine c_fin ?_
    have hM := M.nilS (α := UInt8) NoB noB hM
    have hr := Option.some.inj hF
    subst hr
    have hM := M.fst (l := [_]) hM
    exact wp_ret (r_then (k_ret2 hE rfl (res_tmp hE rfl) (res_tmp hE rfl) ⟨_, rfl, (Value.slice none 0 0), rfl, hM.outF (locN1 locN0), hM.kept⟩))
  · intro hb3
    have hF := ite_f hF hb3
    refine wp_skip ?_
    refine c_nx ?_
    refine wp_seq ?_
    refine c_region ?_
    refine s_assign hE goes_none (by decide) rfl ?_; intro a hE
    refine c_fin ?_
    obtain ⟨j5, hl6, hF7⟩ := bind_some hF
    refine c_cut (fun a w => ∃ s8 : (List UInt8), j5 = Fl.nx s8 ∧ ∃ (u9 : Value), Env 50 a [(4, u9)] ∧ M (Old w0) w0 w [osl NoB (s8 : List UInt8) u9]) ?_ ?_
    · skip
      refine wp_block ?_
      refine c_loop (fun (s11 : (List UInt8) × Int) a w => ∃ (u12 : Value), Env 50 a [(0, (vS p0)), (4, u12), (5, (vI s11.2))] ∧ M (Old w0) w0 w [osl NoB (s11.1 : List UInt8) u12]) hl6 ⟨u1, hE.sub ⟨rfl, rfl, rfl, trivial⟩, hM⟩ ?_
      rintro s11 a w ⟨u12, hE, hM⟩ o16 hs14 hx15
      unfold L0_impl_fromHex at hs14
      refine wp_seq ?_
      refine c_region ?_
      refine s_move hE goes_none (by decide) rfl ?_; intro a hE
      refine s_move hE goes_none (by decide) rfl ?_; intro a hE
      refine s_lenStr hE goes_none (by decide) rfl Tryd.underlying9 ?_; intro a hE
      refine s_int hE goes_none (by decide) rfl rfl rfl ?_; intro a hE
      refine c_fin ?_
      refine c_cond hE rfl ?_ ?_
      · intro hb17
        have hs14 := ite_t hs14 hb17
        refine wp_skip ?_
        refine c_nx ?_
        refine wp_seq ?_
        refine wp_block ?_
        refine c_region ?_
        refine s_move hE goes_none (by decide) rfl ?_; intro a hE
        refine s_move hE goes_none (by decide) rfl ?_; intro a hE
        obtain ⟨x18, e19, hs14⟩ := bind_some hs14
        refine s_indexStr hE goes_none (by decide) rfl rfl Tryd.underlying9 e19 ?_; intro a hE
        obtain ⟨r20, e21, hs14⟩ := bind_some hs14
        refine s_call (vs := [(vB x18)]) hE goes_none (by decide) rfl cb38 (c_impl_hexDigit _ x18 r20 e21) ?_
        rintro v w a ⟨rfl, hK⟩ hE
        have hM := hM.keep hK
        refine s_move hE goes_none (by decide) rfl ?_; intro a hE
        refine s_extract hE goes_none (by decide) rfl rfl ?_; intro a hE
        refine s_extract hE goes_none (by decide) rfl rfl ?_; intro a hE
        refine s_assign hE goes_none (by decide) rfl ?_; intro a hE
        refine s_assign hE goes_none (by decide) rfl ?_; intro a hE
        refine c_fin ?_
        refine c_region ?_
        refine s_move hE goes_none (by decide) rfl ?_; intro a hE
        refine s_move hE goes_none (by decide) rfl ?_; intro a hE
        refine s_int hE goes_none (by decide) rfl rfl rfl ?_; intro a hE
        obtain ⟨x22, e23, hs14⟩ := bind_some hs14
        refine s_indexStr hE goes_none (by decide) rfl rfl Tryd.underlying9 e23 ?_; intro a hE
        obtain ⟨r24, e25, hs14⟩ := bind_some hs14
        refine s_call (vs := [(vB x22)]) hE goes_none (by decide) rfl cb38 (c_impl_hexDigit _ x22 r24 e25) ?_
        rintro v w a ⟨rfl, hK⟩ hE
        have hM := hM.keep hK
        refine s_move hE goes_none (by decide) rfl ?_; intro a hE
        refine s_extract hE goes_none (by decide) rfl rfl ?_; intro a hE
        refine s_extract hE goes_none (by decide) rfl rfl ?_; intro a hE
        refine s_assign hE goes_none (by decide) rfl ?_; intro a hE
        refine s_assign hE goes_none (by decide) rfl ?_; intro a hE
        refine c_fin ?_
        refine wp_seq ?_
        obtain ⟨j26, hl27, hF28⟩ := bind_some hs14
        refine c_join (fun a w => Env 50 a [(0, (vS p0)), (4, u12), (5, (vI s11.2)), (6, (vB r20.1)), (8, (vB r24.1)), (41, (vT j26))] ∧ M (Old w0) w0 w [osl NoB (s11.1 : List UInt8) u12]) ?_ ?_
        · skip
          refine wp_region_lit ?_
          refine s_move hE goes_none (by decide) rfl ?_; intro a hE
          refine s_not hE goes_none (by decide) rfl ?_; intro a hE
          refine s_move hE goes_none (by decide) rfl ?_; intro a hE
          refine splitB (!r20.2) (fun hb29 => ?_) (fun hb29 => ?_)
          · have hl27 := ite_t hl27 hb29
            refine s_skip hE rfl (lkb rfl hb29) rfl (by decide) ?_; intro a hE
            refine s_skip hE rfl (lkb rfl hb29) rfl (by decide) ?_; intro a hE
            refine s_pickT hE goes_none (by decide) (lkb rfl hb29) rfl ?_; intro a hE
            refine c_fin0 ?_
            have ht30 := Option.some.inj hl27
            subst ht30
            refine c_mid ?_
            exact ⟨hE.sub ⟨rfl, rfl, rfl, rfl, rfl, rfl, trivial⟩, hM⟩
          · have hl27 := ite_f hl27 hb29
            refine s_move hE (goes_yes hE rfl (lkb rfl hb29)) (by decide) rfl ?_; intro a hE
            refine s_not hE (goes_yes hE rfl (lkb rfl hb29)) (by decide) rfl ?_; intro a hE
            refine s_pickF hE goes_none (by decide) (lkb rfl hb29) rfl ?_; intro a hE
            refine c_fin0 ?_
            have ht31 := Option.some.inj hl27
            subst ht31
            refine c_mid ?_
            exact ⟨hE.sub ⟨rfl, rfl, rfl, rfl, rfl, rfl, trivial⟩, hM⟩
        · skip
          rintro a w ⟨hE, hM⟩
          refine c_cond hE rfl ?_ ?_
          · intro hb32
            have hF28 := ite_t hF28 hb32
            refine c_region ?_
            refine s_assign hE goes_none (by decide) rfl ?_; intro a hE
            refine s_assign hE goes_none (by decide) rfl ?_; intro a hE
            refine c_fin ?_
            have hM := M.nilS (α := UInt8) NoB noB hM
            have ht34 := hx15 _ (Option.some.inj hF28).symm
            subst ht34
            have hr := Option.some.inj hF7
            subst hr
            have hM := M.fst (l := [_]) hM
            exact wp_ret (r_then (r_inb (r_then (r_then (r_inb (r_then (r_then (k_ret2 hE rfl (res_tmp hE rfl) (res_tmp hE rfl) ⟨_, rfl, (Value.slice none 0 0), rfl, hM.outF (locN1 locN0), hM.kept⟩))))))))
          · intro hb32
            have hF28 := ite_f hF28 hb32
            refine wp_skip ?_
            refine c_nx ?_
            refine wp_region_lit ?_
            refine s_move hE goes_none (by decide) rfl ?_; intro a hE
            refine s_move hE goes_none (by decide) rfl ?_; intro a hE
            refine s_sh hE goes_none (by decide) rfl rfl (bB_shl _ _ (by decide)) ?_; intro a hE
            refine s_move hE goes_none (by decide) rfl ?_; intro a hE
            refine s_int hE goes_none (by decide) rfl rfl (bB_or (shlB r20.1 4) r24.1) ?_; intro a hE
            refine s_buildF (xs := [.tmp 46]) (l := ([(shlB r20.1 4) ||| r24.1] : List UInt8)) (vs := [(vB ((shlB r20.1 4) ||| r24.1))]) hE hM goes_none (by decide) rfl rfl Tryd.underlying22 ty5 rfl (by decide) rfl ?_; intro u35 w a hM hE
            obtain ⟨l37, e38, hF28⟩ := bind_some hF28
            obtain ⟨e41, rfl⟩ := app_some e38
            have hM := hM.pull (pre := [_])
            refine s_appendF hE hM goes_none (by decide) rfl rfl (hM.sl (pre := [_]) noB) Tryd.underlying22 ty5 rfl (by decide) e41 ?_; intro u39 w a hM hE
            refine s_assign hE goes_none (by decide) rfl ?_; intro a hE
            refine c_fin0 ?_
            refine c_nb ?_
            refine c_nx ?_
            refine wp_region_lit ?_
            refine s_move hE goes_none (by decide) rfl ?_; intro a hE
            refine s_int hE goes_none (by decide) rfl rfl rfl ?_; intro a hE
            refine s_assign hE goes_none (by decide) rfl ?_; intro a hE
            refine c_fin0 ?_
            refine c_mid ?_
            have hM := M.fst (l := [_]) hM
            exact ⟨_, (Option.some.inj hF28).symm, u39, hE.sub ⟨rfl, rfl, rfl, trivial⟩, hM⟩
      · intro hb17
        have hs14 := ite_f hs14 hb17
        refine wp_exit (e_then (e_then (e_eq ?_)))
        have ht42 := hx15 _ (Option.some.inj hs14).symm
        subst ht42
        refine c_mid ?_
        exact ⟨s11.1, rfl, u12, hE.sub ⟨rfl, trivial⟩, hM⟩
    · skip
      rintro a w ⟨s8, ht, u9, hE, hM⟩
      subst ht
      have hF7 := el_nx hF7
      refine c_nx ?_
      refine c_region ?_
      refine s_move hE goes_none (by decide) rfl ?_; intro a hE
      refine s_assign hE goes_none (by decide) rfl ?_; intro a hE
      refine s_assign hE goes_none (by decide) rfl ?_; intro a hE
      refine c_fin ?_
      have hr := Option.some.inj hF7
      subst hr
      exact wp_ret (k_ret2 hE rfl (res_tmp hE rfl) (res_tmp hE rfl) ⟨_, rfl, u9, rfl, hM.outF (locN1 locN0), hM.kept⟩)
noncomputable def F_impl_inRange (p0 : Int) (p1 : Int) (p2 : Int) : Option (Bool) :=
  (if (decide (p1 ≤ p0)) = true then (some (decide (p0 ≤ p2))) else (some false) : Option (Bool)).bind fun (j1 : Bool) => some j1
set_option maxRecDepth 20000 in
set_option maxHeartbeats 400000 in
theorem c_impl_inRange (w0 : World) (p0 : Int) (p1 : Int) (p2 : Int) (r : Bool) (hF : F_impl_inRange p0 p1 p2 = some r) :
    Calls Tryd.prog 28 [(vI p0), (vI p1), (vI p2)].toArray w0 (fun en w' => ∃ v, en = .returned v ∧ (v = (vT r) ∧ Kept (Old w0) w0 w')) := by
  refine c_enter (n := 15) Tryd.func28 rfl rfl (Nat.le_of_ble_eq_true rfl) rfl ?_
  intro a hE
  have hM := M.start w0
  unfold F_impl_inRange at hF
  refine c_region ?_
  refine s_assign hE goes_none (by decide) rfl ?_; intro a hE
  refine c_fin ?_
  obtain ⟨j1, hl2, hF3⟩ := bind_some hF
  refine c_join (fun a w => Env 15 a [(6, (vT j1))] ∧ M (Old w0) w0 w []) ?_ ?_
  · skip
    refine wp_region_lit ?_
    refine s_move hE goes_none (by decide) rfl ?_; intro a hE
    refine s_move hE goes_none (by decide) rfl ?_; intro a hE
    refine s_int hE goes_none (by decide) rfl rfl rfl ?_; intro a hE
    refine s_move hE goes_none (by decide) rfl ?_; intro a hE
    refine splitB (decide (p1 ≤ p0)) (fun hb4 => ?_) (fun hb4 => ?_)
    · have hl2 := ite_t hl2 hb4
      refine s_move hE (goes_yes hE rfl (lkb rfl hb4)) (by decide) rfl ?_; intro a hE
      refine s_move hE (goes_yes hE rfl (lkb rfl hb4)) (by decide) rfl ?_; intro a hE
      refine s_int hE (goes_yes hE rfl (lkb rfl hb4)) (by decide) rfl rfl rfl ?_; intro a hE
      refine s_pickT hE goes_none (by decide) (lkb rfl hb4) rfl ?_; intro a hE
      refine s_assign hE goes_none (by decide) rfl ?_; intro a hE
      refine c_fin0 ?_
      have ht5 := Option.some.inj hl2
      subst ht5
      refine c_mid ?_
      exact ⟨hE.sub ⟨rfl, trivial⟩, hM⟩
    · have hl2 := ite_f hl2 hb4
      refine s_skip hE rfl (lkb rfl hb4) rfl (by decide) ?_; intro a hE
      refine s_skip hE rfl (lkb rfl hb4) rfl (by decide) ?_; intro a hE
      refine s_skip hE rfl (lkb rfl hb4) rfl (by decide) ?_; intro a hE
      refine s_pickF hE goes_none (by decide) (lkb rfl hb4) rfl ?_; intro a hE
      refine s_assign hE goes_none (by decide) rfl ?_; intro a hE
      refine c_fin0 ?_
      have ht6 := Option.some.inj hl2
      subst ht6
      refine c_mid ?_
      exact ⟨hE.sub ⟨rfl, trivial⟩, hM⟩
  · skip
    rintro a w ⟨hE, hM⟩
    have hr := Option.some.inj hF3
    subst hr
    exact wp_ret (k_ret1 hE rfl (res_tmp hE rfl) ⟨_, rfl, rfl, hM.kept⟩)
noncomputable def F_impl_ParseShare (p0 : Str) : Option (GShare × Int) :=
  (F_strings_Cut p0 (⟨[58]⟩ : Str)).bind fun (r3 : Str × Str × Bool) => (F_impl_readDecimal r3.1).bind fun (r5 : Int × Bool) => (F_impl_fromHex r3.2.1).bind fun (r7 : (List UInt8) × Bool) => (if (!r3.2.2) = true then (some true) else (if (!r5.2) = true then (some true) else (if (!r7.2) = true then (some true) else ((F_impl_inRange r5.1 1 255).bind fun (r19 : Bool) => if (!r19) = true then (some true) else (some (decide ((r7.1.length : Int) > 100)))))) : Option (Bool)).bind fun (j10 : Bool) => if j10 = true then (some ((⟨0, []⟩ : GShare), 6)) else (some ((⟨byteI r5.1, r7.1⟩ : GShare), 0))
set_option maxRecDepth 20000 in
set_option maxHeartbeats 400000 in
theorem c_impl_ParseShare (w0 : World) (p0 : Str) (hT : TabT w0) (r : GShare × Int) (hF : F_impl_ParseShare p0 = some r) :
    Calls Tryd.prog 11 [(vS p0)].toArray w0 (fun en w' => ∃ v, en = .returned v ∧ (∃ (y1 : Value), v = (Value.tuple [(Value.agg (cat [[(vB r.1.Place)], [y1]]).toArray), (vI r.2)].toArray) ∧ Fr w0 w' [osl NoB (r.1.Data : List UInt8) y1] ∧ Kept (Old w0) w0 w')) := by
  refine c_enter (n := 52) Tryd.func11 rfl rfl (Nat.le_of_ble_eq_true rfl) rfl ?_
  intro a hE
  have hM := M.start w0
  unfold F_impl_ParseShare at hF
  refine c_region ?_
  refine s_alloc hE hM goes_none (by decide) ty28 ?_; intro b1 w a hM hE
  refine s_assign hE goes_none (by decide) rfl ?_; intro a hE
  refine c_fin ?_
  refine c_region ?_
  refine s_move hE goes_none (by decide) rfl ?_; intro a hE
  obtain ⟨r3, e4, hF⟩ := bind_some hF
  refine s_call (vs := [(vS p0), (vS (⟨[58]⟩ : Str))]) hE goes_none (by decide) rfl cb25 (c_strings_Cut _ p0 (⟨[58]⟩ : Str) r3 e4) ?_
  rintro v w a ⟨rfl, hK⟩ hE
  have hM := hM.keep hK
  refine s_move hE goes_none (by decide) rfl ?_; intro a hE
  refine s_extract hE goes_none (by decide) rfl rfl ?_; intro a hE
  refine s_extract hE goes_none (by decide) rfl rfl ?_; intro a hE
  refine s_extract hE goes_none (by decide) rfl rfl ?_; intro a hE
  refine s_assign hE goes_none (by decide) rfl ?_; intro a hE
  refine s_assign hE goes_none (by decide) rfl ?_; intro a hE
  refine s_assign hE goes_none (by decide) rfl ?_; intro a hE
  refine c_fin ?_
  refine c_region ?_
  refine s_move hE goes_none (by decide) rfl ?_; intro a hE
  obtain ⟨r5, e6, hF⟩ := bind_some hF
  refine s_call (vs := [(vS r3.1)]) hE goes_none (by decide) rfl cb26 (c_impl_readDecimal _ r3.1 (hT.kept hM.kept) r5 e6) ?_
  rintro v w a ⟨rfl, hK⟩ hE
  have hM := hM.keep hK
  refine s_move hE goes_none (by decide) rfl ?_; intro a hE
  refine s_extract hE goes_none (by decide) rfl rfl ?_; intro a hE
  refine s_extract hE goes_none (by decide) rfl rfl ?_; intro a hE
  refine s_assign hE goes_none (by decide) rfl ?_; intro a hE
  refine s_assign hE goes_none (by decide) rfl ?_; intro a hE
  refine c_fin ?_
  refine c_region ?_
  refine s_move hE goes_none (by decide) rfl ?_; intro a hE
  obtain ⟨r7, e8, hF⟩ := bind_some hF
  refine s_call (vs := [(vS r3.2.1)]) hE goes_none (by decide) rfl cb27 (c_impl_fromHex _ r3.2.1 r7 e8) ?_
  rintro v w a ⟨u9, rfl, hFr, hK⟩ hE
  have hM := hM.add hK hFr
  refine s_move hE goes_none (by decide) rfl ?_; intro a hE
  refine s_extract hE goes_none (by decide) rfl rfl ?_; intro a hE
  refine s_extract hE goes_none (by decide) rfl rfl ?_; intro a hE
  refine s_assign hE goes_none (by decide) rfl ?_; intro a hE
  refine s_assign hE goes_none (by decide) rfl ?_; intro a hE
  refine c_fin ?_
  refine wp_seq ?_
  obtain ⟨j10, hl11, hF12⟩ := bind_some hF
  refine c_join (fun a w => Env 52 a [(2, (ptr b1 0)), (7, (vI r5.1)), (9, u9), (46, (vT j10))] ∧ M (Old w0) w0 w [osl NoB (r7.1 : List UInt8) u9, raw b1 (cat [[(vB 0)], [(Value.slice none 0 0)]])]) ?_ ?_
  · skip
    refine wp_region_lit ?_
    refine s_move hE goes_none (by decide) rfl ?_; intro a hE
    refine s_not hE goes_none (by decide) rfl ?_; intro a hE
    refine s_move hE goes_none (by decide) rfl ?_; intro a hE
    refine splitB (!r3.2.2) (fun hb13 => ?_) (fun hb13 => ?_)
    · have hl11 := ite_t hl11 hb13
      refine s_skip hE rfl (lkb rfl hb13) rfl (by decide) ?_; intro a hE
      refine s_skip hE rfl (lkb rfl hb13) rfl (by decide) ?_; intro a hE
      refine s_pickT hE goes_none (by decide) (lkb rfl hb13) rfl ?_; intro a hE
      refine s_move hE goes_none (by decide) rfl ?_; intro a hE
      refine s_skip hE rfl rfl rfl (by decide) ?_; intro a hE
      refine s_skip hE rfl rfl rfl (by decide) ?_; intro a hE
      refine s_pickT hE goes_none (by decide) rfl rfl ?_; intro a hE
      refine s_move hE goes_none (by decide) rfl ?_; intro a hE
      refine s_skip hE rfl rfl rfl (by decide) ?_; intro a hE
      refine s_skip hE rfl rfl rfl (by decide) ?_; intro a hE
      refine s_skip hE rfl rfl rfl (by decide) ?_; intro a hE
      refine s_pickT hE goes_none (by decide) rfl rfl ?_; intro a hE
      refine s_move hE goes_none (by decide) rfl ?_; intro a hE
      refine s_skip hE rfl rfl rfl (by decide) ?_; intro a hE
      refine s_skip hE rfl rfl rfl (by decide) ?_; intro a hE
      refine s_skip hE rfl rfl rfl (by decide) ?_; intro a hE
      refine s_pickT hE goes_none (by decide) rfl rfl ?_; intro a hE
      refine c_fin0 ?_
      have ht14 := Option.some.inj hl11
      subst ht14
      refine c_mid ?_
      exact ⟨hE.sub ⟨rfl, rfl, rfl, rfl, trivial⟩, hM⟩
    · have hl11 := ite_f hl11 hb13
      refine s_move hE (goes_yes hE rfl (lkb rfl hb13)) (by decide) rfl ?_; intro a hE
      refine s_not hE (goes_yes hE rfl (lkb rfl hb13)) (by decide) rfl ?_; intro a hE
      refine s_pickF hE goes_none (by decide) (lkb rfl hb13) rfl ?_; intro a hE
      refine s_move hE goes_none (by decide) rfl ?_; intro a hE
      refine splitB (!r5.2) (fun hb15 => ?_) (fun hb15 => ?_)
      · have hl11 := ite_t hl11 hb15
        refine s_skip hE rfl (lkb rfl hb15) rfl (by decide) ?_; intro a hE
        refine s_skip hE rfl (lkb rfl hb15) rfl (by decide) ?_; intro a hE
        refine s_pickT hE goes_none (by decide) (lkb rfl hb15) rfl ?_; intro a hE
        refine s_move hE goes_none (by decide) rfl ?_; intro a hE
        refine s_skip hE rfl rfl rfl (by decide) ?_; intro a hE
        refine s_skip hE rfl rfl rfl (by decide) ?_; intro a hE
        refine s_skip hE rfl rfl rfl (by decide) ?_; intro a hE
        refine s_pickT hE goes_none (by decide) rfl rfl ?_; intro a hE
        refine s_move hE goes_none (by decide) rfl ?_; intro a hE
        refine s_skip hE rfl rfl rfl (by decide) ?_; intro a hE
        refine s_skip hE rfl rfl rfl (by decide) ?_; intro a hE
        refine s_skip hE rfl rfl rfl (by decide) ?_; intro a hE
        refine s_pickT hE goes_none (by decide) rfl rfl ?_; intro a hE
        refine c_fin0 ?_
        have ht16 := Option.some.inj hl11
        subst ht16
        refine c_mid ?_
        exact ⟨hE.sub ⟨rfl, rfl, rfl, rfl, trivial⟩, hM⟩
      · have hl11 := ite_f hl11 hb15
        refine s_move hE (goes_yes hE rfl (lkb rfl hb15)) (by decide) rfl ?_; intro a hE
        refine s_not hE (goes_yes hE rfl (lkb rfl hb15)) (by decide) rfl ?_; intro a hE
        refine s_pickF hE goes_none (by decide) (lkb rfl hb15) rfl ?_; intro a hE
        refine s_move hE goes_none (by decide) rfl ?_; intro a hE
        refine splitB (!r7.2) (fun hb17 => ?_) (fun hb17 => ?_)
        · have hl11 := ite_t hl11 hb17
          refine s_skip hE rfl (lkb rfl hb17) rfl (by decide) ?_; intro a hE
          refine s_skip hE rfl (lkb rfl hb17) rfl (by decide) ?_; intro a hE
          refine s_skip hE rfl (lkb rfl hb17) rfl (by decide) ?_; intro a hE
          refine s_pickT hE goes_none (by decide) (lkb rfl hb17) rfl ?_; intro a hE
          refine s_move hE goes_none (by decide) rfl ?_; intro a hE
          refine s_skip hE rfl rfl rfl (by decide) ?_; intro a hE
          refine s_skip hE rfl rfl rfl (by decide) ?_; intro a hE
          refine s_skip hE rfl rfl rfl (by decide) ?_; intro a hE
          refine s_pickT hE goes_none (by decide) rfl rfl ?_; intro a hE
          refine c_fin0 ?_
          have ht18 := Option.some.inj hl11
          subst ht18
          refine c_mid ?_
          exact ⟨hE.sub ⟨rfl, rfl, rfl, rfl, trivial⟩, hM⟩
        · have hl11 := ite_f hl11 hb17
          refine s_move hE (goes_yes hE rfl (lkb rfl hb17)) (by decide) rfl ?_; intro a hE
          obtain ⟨r19, e20, hl11⟩ := bind_some hl11
          refine s_call (vs := [(vI r5.1), (vI 1), (vI 255)]) hE (goes_yes hE rfl (lkb rfl hb17)) (by decide) rfl cb28 (c_impl_inRange _ r5.1 1 255 r19 e20) ?_
          rintro v w a ⟨rfl, hK⟩ hE
          have hM := hM.keep hK
          refine s_not hE (goes_yes hE rfl (lkb rfl hb17)) (by decide) rfl ?_; intro a hE
          refine s_pickF hE goes_none (by decide) (lkb rfl hb17) rfl ?_; intro a hE
          refine s_move hE goes_none (by decide) rfl ?_; intro a hE
          refine splitB (!r19) (fun hb21 => ?_) (fun hb21 => ?_)
          · have hl11 := ite_t hl11 hb21
            refine s_skip hE rfl (lkb rfl hb21) rfl (by decide) ?_; intro a hE
            refine s_skip hE rfl (lkb rfl hb21) rfl (by decide) ?_; intro a hE
            refine s_skip hE rfl (lkb rfl hb21) rfl (by decide) ?_; intro a hE
            refine s_pickT hE goes_none (by decide) (lkb rfl hb21) rfl ?_; intro a hE
            refine c_fin0 ?_
            have ht22 := Option.some.inj hl11
            subst ht22
            refine c_mid ?_
            exact ⟨hE.sub ⟨rfl, rfl, rfl, rfl, trivial⟩, hM⟩
          · have hl11 := ite_f hl11 hb21
            refine s_move hE (goes_yes hE rfl (lkb rfl hb21)) (by decide) rfl ?_; intro a hE
            refine s_len hE (goes_yes hE rfl (lkb rfl hb21)) (by decide) rfl Tryd.underlying22 (hM.sl (pre := []) noB) ?_; intro a hE
            refine s_int hE (goes_yes hE rfl (lkb rfl hb21)) (by decide) rfl rfl rfl ?_; intro a hE
            refine s_pickF hE goes_none (by decide) (lkb rfl hb21) rfl ?_; intro a hE
            refine c_fin0 ?_
            have ht23 := Option.some.inj hl11
            subst ht23
            refine c_mid ?_
            exact ⟨hE.sub ⟨rfl, rfl, rfl, rfl, trivial⟩, hM⟩
  · skip
    rintro a w ⟨hE, hM⟩
    refine c_cond hE rfl ?_ ?_
    · intro hb24
      have hF12 := ite_t hF12 hb24
      refine c_region ?_
      refine s_buildStr (parts := []) (vs := []) (cs := cat [[(vB 0)], [(Value.slice none 0 0)]]) hE goes_none (by decide) rfl rfl ty28 pl28 fill_nil ?_; intro a hE
      have hM := hM.pull (pre := [_])
      refine s_store (seg := cat [[(vB 0)], [(Value.slice none 0 0)]]) (cs' := cat [[(vB 0)], [(Value.slice none 0 0)]]) hE hM goes_none rfl rfl rfl ty28 (cat_len (cl1 (n := 1) (m := 1) rfl (cl1 (n := 1) (m := 0) rfl cl0))) (Nat.le_of_eq ((Nat.zero_add _).trans (Eq.trans (cat_len (cl1 (n := 1) (m := 1) rfl (cl1 (n := 1) (m := 0) rfl cl0))) (Eq.symm (cat_len (cl1 (n := 1) (m := 1) rfl (cl1 (n := 1) (m := 0) rfl cl0))))))) (cat_cell (cc1 (Flat.cell (0 : UInt8)) (cc1 cellNil cc0))) (splice_all (Eq.trans (cat_len (cl1 (n := 1) (m := 1) rfl (cl1 (n := 1) (m := 0) rfl cl0))) (Eq.symm (cat_len (cl1 (n := 1) (m := 1) rfl (cl1 (n := 1) (m := 0) rfl cl0)))))) ?_; intro w a hM hE
      refine s_assign hE goes_none (by decide) rfl ?_; intro a hE
      refine c_fin ?_
      have hM := M.nilS (α := UInt8) NoB noB hM
      have hr := Option.some.inj hF12
      subst hr
      have hq26 : ResIs Tryd.prog _ _ (.cell 2 28) _ := res_cell hE rfl ty28 rfl (hM.rawAt (pre := [_])) (cat_len (cl1 (n := 1) (m := 1) rfl (cl1 (n := 1) (m := 0) rfl cl0))) rfl
      have hM := M.fst (l := [_]) hM
      exact wp_ret (r_then (k_ret2 hE rfl hq26 (res_tmp hE rfl) ⟨_, rfl, (Value.slice none 0 0), rfl, hM.outF (locN1 locN0), hM.kept⟩))
    · intro hb24
      have hF12 := ite_f hF12 hb24
      refine wp_skip ?_
      refine c_nx ?_
      refine c_region ?_
      refine s_move hE goes_none (by decide) rfl ?_; intro a hE
      refine s_convB hE goes_none (by decide) rfl Tryd.underlying2 Tryd.underlying5 ?_; intro a hE
      refine s_move hE goes_none (by decide) rfl ?_; intro a hE
      refine s_buildStr (parts := [(0, .tmp 49), (1, .tmp 50)]) (vs := [(0, (vB (byteI r5.1))), (1, u9)]) (cs := cat [[(vB (byteI r5.1))], [u9]]) hE goes_none (by decide) rfl rfl ty28 pl28 (fill_step (pre := []) (seg := [(vB 0)]) (seg' := [(vB (byteI r5.1))]) (post := [[(Value.slice none 0 0)]]) rfl cl0 rfl rfl rfl (fill_step (pre := [[(vB (byteI r5.1))]]) (seg := [(Value.slice none 0 0)]) (seg' := [u9]) (post := []) rfl (cl1 (n := 1) (m := 0) rfl cl0) rfl rfl (sl_cells (hM.sl (pre := []) noB)) fill_nil)) ?_; intro a hE
      have hM := hM.pull (pre := [_])
      refine s_store (seg := cat [[(vB (byteI r5.1))], [u9]]) (cs' := cat [[(vB (byteI r5.1))], [u9]]) hE hM goes_none rfl rfl rfl ty28 (cat_len (cl1 (n := 1) (m := 1) rfl (cl1 (n := 1) (m := 0) rfl cl0))) (Nat.le_of_eq ((Nat.zero_add _).trans (Eq.trans (cat_len (cl1 (n := 1) (m := 1) rfl (cl1 (n := 1) (m := 0) rfl cl0))) (Eq.symm (cat_len (cl1 (n := 1) (m := 1) rfl (cl1 (n := 1) (m := 0) rfl cl0))))))) (cat_cell (cc1 (Flat.cell (byteI r5.1 : UInt8)) (cc1 (Rep.cell (hM.sl (pre := [_]) noB)) cc0))) (splice_all (Eq.trans (cat_len (cl1 (n := 1) (m := 1) rfl (cl1 (n := 1) (m := 0) rfl cl0))) (Eq.symm (cat_len (cl1 (n := 1) (m := 1) rfl (cl1 (n := 1) (m := 0) rfl cl0)))))) ?_; intro w a hM hE
      refine s_assign hE goes_none (by decide) rfl ?_; intro a hE
      refine c_fin ?_
      have hr := Option.some.inj hF12
      subst hr
      have hq27 : ResIs Tryd.prog _ _ (.cell 2 28) _ := res_cell hE rfl ty28 rfl (hM.rawAt (pre := [])) (cat_len (cl1 (n := 1) (m := 1) rfl (cl1 (n := 1) (m := 0) rfl cl0))) rfl
      have hM := hM.pull (pre := [_])
      have hM := M.fst (l := [_]) hM
      exact wp_ret (k_ret2 hE rfl hq27 (res_tmp hE rfl) ⟨_, rfl, u9, rfl, hM.outF (locN1 locN0), hM.kept⟩)
noncomputable def L0_laws_eqByteS (p0 : (List UInt8)) (p1 : (List UInt8)) (s6 : Int) : Option (Fl Int (Fl Unit Bool)) :=
  if (decide (s6 < (p0.length : Int))) = true then (((idx p0 s6).bind fun (x15 : UInt8) => (idx p1 s6).bind fun (x18 : UInt8) => some (x15 != x18) : Option (Bool)).bind fun (j11 : Bool) => if j11 = true then (some (Fl.ex (Fl.ex false))) else (some (Fl.nx (wr (s6 + 1))))) else (some (Fl.ex (Fl.nx ())))
noncomputable def F_laws_eqByteS (p0 : (List UInt8)) (p1 : (List UInt8)) : Option (Bool) :=
  if ((p0.length : Int) != (p1.length : Int)) = true then (some false) else ((iter (L0_laws_eqByteS p0 p1) 0 : Option (Fl Unit Bool)).bind fun (j2 : Fl Unit Bool) => j2.el (fun (s5 : Unit) => some true) (fun r => some r))
set_option maxRecDepth 20000 in
set_option maxHeartbeats 400000 in
theorem c_laws_eqByteS (w0 : World) (p0 : (List UInt8)) (v0_1 : Value) (hv0_1 : Ro w0 p0 [v0_1]) (p1 : (List UInt8)) (v1_1 : Value) (hv1_1 : Ro w0 p1 [v1_1]) (r : Bool) (hF : F_laws_eqByteS p0 p1 = some r) :
    Calls Tryd.prog 20 [v0_1, v1_1].toArray w0 (fun en w' => ∃ v, en = .returned v ∧ (v = (vT r) ∧ Kept (Old w0) w0 w')) := by
  refine c_enter (n := 26) Tryd.func20 rfl rfl (Nat.le_of_ble_eq_true rfl) rfl ?_
  intro a hE
  have hM := M.start w0
  unfold F_laws_eqByteS at hF
  refine c_region ?_
  refine s_assign hE goes_none (by decide) rfl ?_; intro a hE
  refine c_fin ?_
  refine wp_seq ?_
  refine c_region ?_
  refine s_move hE goes_none (by decide) rfl ?_; intro a hE
  refine s_len hE goes_none (by decide) rfl Tryd.underlying22 (hM.rd hv0_1) ?_; intro a hE
  refine s_move hE goes_none (by decide) rfl ?_; intro a hE
  refine s_len hE goes_none (by decide) rfl Tryd.underlying22 (hM.rd hv1_1) ?_; intro a hE
  refine s_int hE goes_none (by decide) rfl rfl rfl ?_; intro a hE
  refine c_fin ?_
  refine c_cond hE rfl ?_ ?_
  · intro hb1
    have hF := ite_t hF hb1
    refine c_region ?_
    refine s_assign hE goes_none (by decide) rfl ?_; intro a hE
    refine c_fin ?_
    have hr := Option.some.inj hF
    subst hr
    exact wp_ret (r_then (k_ret1 hE rfl (res_tmp hE rfl) ⟨_, rfl, rfl, hM.kept⟩))
  · intro hb1
    have hF := ite_f hF hb1
    refine wp_skip ?_
    refine c_nx ?_
    refine wp_seq ?_
    refine c_region ?_
    refine s_assign hE goes_none (by decide) rfl ?_; intro a hE
    refine c_fin ?_
    obtain ⟨j2, hl3, hF4⟩ := bind_some hF
    refine c_cut (fun a w => ∃ s5 : Unit, j2 = Fl.nx s5 ∧ Env 26 a [] ∧ M (Old w0) w0 w []) ?_ ?_
    · skip
      refine wp_block ?_
      refine c_loop (fun (s6 : Int) a w => Env 26 a [(0, v0_1), (1, v1_1), (5, (vI s6))] ∧ M (Old w0) w0 w []) hl3 ⟨hE.sub ⟨rfl, rfl, rfl, trivial⟩, hM⟩ ?_
      rintro s6 a w ⟨hE, hM⟩ o9 hs7 hx8
      unfold L0_laws_eqByteS at hs7
      refine wp_seq ?_
      refine c_region ?_
      refine s_move hE goes_none (by decide) rfl ?_; intro a hE
      refine s_move hE goes_none (by decide) rfl ?_; intro a hE
      refine s_len hE goes_none (by decide) rfl Tryd.underlying22 (hM.rd hv0_1) ?_; intro a hE
      refine s_int hE goes_none (by decide) rfl rfl rfl ?_; intro a hE
      refine c_fin ?_
      refine c_cond hE rfl ?_ ?_
      · intro hb10
        have hs7 := ite_t hs7 hb10
        refine wp_skip ?_
        refine c_nx ?_
        refine wp_seq ?_
        refine wp_block ?_
        obtain ⟨j11, hl12, hF13⟩ := bind_some hs7
        refine c_join (fun a w => Env 26 a [(0, v0_1), (1, v1_1), (5, (vI s6)), (25, (vT j11))] ∧ M (Old w0) w0 w []) ?_ ?_
        · skip
          obtain ⟨x15, e16, hl12⟩ := bind_some hl12
          have hi17 := idx_some e16
          obtain ⟨x18, e19, hl12⟩ := bind_some hl12
          have hi20 := idx_some e19
          refine c_drawP [17, 18, 19, 20, 21, 22, 23, 24, 25] hmix rfl rfl (by decide) rfl hE hM (qsP (fun z => s_move z.E goes_none (by decide) rfl (kr0 rfl)) (qsP (fun z => s_move z.E goes_none (by decide) rfl (kr0 rfl)) (qsP (fun z => s_indexS z.E goes_none (by decide) rfl rfl Tryd.underlying22 ty5 (z.M.rd hv0_1) hi17.1 (kr0 rfl)) (qsP (fun z => s_load (v := (vB x15)) z.E goes_none (by decide) rfl ty5 rfl (sl_atF (z.M.rd hv0_1) hi17.2) (kr0 rfl)) (qsP (fun z => s_move z.E goes_none (by decide) rfl (kr0 rfl)) (qsP (fun z => s_move z.E goes_none (by decide) rfl (kr0 rfl)) (qsP (fun z => s_indexS z.E goes_none (by decide) rfl rfl Tryd.underlying22 ty5 (z.M.rd hv1_1) hi20.1 (kr0 rfl)) (qsP (fun z => s_load (v := (vB x18)) z.E goes_none (by decide) rfl ty5 rfl (sl_atF (z.M.rd hv1_1) hi20.2) (kr0 rfl)) (qsP (fun z => s_int z.E goes_none (by decide) rfl rfl (bB_neq x15 x18) (kr0 rfl)) qs0))))))))) ?_
          · intro a w u hE hM
            refine c_fin0 ?_
            have ht21 := Option.some.inj hl12
            subst ht21
            refine c_mid ?_
            exact ⟨hE.sub ⟨rfl, rfl, rfl, rfl, trivial⟩, hM⟩
        · skip
          rintro a w ⟨hE, hM⟩
          refine c_cond hE rfl ?_ ?_
          · intro hb22
            have hF13 := ite_t hF13 hb22
            refine c_region ?_
            refine s_assign hE goes_none (by decide) rfl ?_; intro a hE
            refine c_fin ?_
            have ht23 := hx8 _ (Option.some.inj hF13).symm
            subst ht23
            have hr := Option.some.inj hF4
            subst hr
            exact wp_ret (r_inb (r_then (r_then (r_inb (r_then (r_then (k_ret1 hE rfl (res_tmp hE rfl) ⟨_, rfl, rfl, hM.kept⟩)))))))
          · intro hb22
            have hF13 := ite_f hF13 hb22
            refine wp_skip ?_
            refine c_nb ?_
            refine c_nx ?_
            refine wp_region_lit ?_
            refine s_move hE goes_none (by decide) rfl ?_; intro a hE
            refine s_int hE goes_none (by decide) rfl rfl rfl ?_; intro a hE
            refine s_assign hE goes_none (by decide) rfl ?_; intro a hE
            refine c_fin0 ?_
            refine c_mid ?_
            exact ⟨_, (Option.some.inj hF13).symm, hE.sub ⟨rfl, rfl, rfl, trivial⟩, hM⟩
      · intro hb10
        have hs7 := ite_f hs7 hb10
        refine wp_exit (e_then (e_then (e_eq ?_)))
        have ht24 := hx8 _ (Option.some.inj hs7).symm
        subst ht24
        refine c_mid ?_
        exact ⟨(), rfl, hE.sub trivial, hM⟩
    · skip
      rintro a w ⟨s5, ht, hE, hM⟩
      subst ht
      have hF4 := el_nx hF4
      refine c_nx ?_
      refine c_region ?_
      refine s_assign hE goes_none (by decide) rfl ?_; intro a hE
      refine c_fin ?_
      have hr := Option.some.inj hF4
      subst hr
      exact wp_ret (k_ret1 hE rfl (res_tmp hE rfl) ⟨_, rfl, rfl, hM.kept⟩)
noncomputable def F_laws_eqShare (p0 : GShare) (p1 : GShare) : Option (Bool) :=
  if (p0.Place != p1.Place) = true then (some false) else ((F_laws_eqByteS p0.Data p1.Data).bind fun (r6 : Bool) => if (!r6) = true then (some false) else (some true))
set_option maxRecDepth 20000 in
set_option maxHeartbeats 400000 in
theorem c_laws_eqShare (w0 : World) (p0 : GShare) (v0_1 : Value) (hv0_1 : Ro w0 p0.Data [v0_1]) (p1 : GShare) (v1_1 : Value) (hv1_1 : Ro w0 p1.Data [v1_1]) (r : Bool) (hF : F_laws_eqShare p0 p1 = some r) :
    Calls Tryd.prog 9 [(Value.agg (cat [[(vB p0.Place)], [v0_1]]).toArray), (Value.agg (cat [[(vB p1.Place)], [v1_1]]).toArray)].toArray w0 (fun en w' => ∃ v, en = .returned v ∧ (v = (vT r) ∧ Kept (Old w0) w0 w')) := by
  refine c_enter (n := 16) Tryd.func9 rfl rfl (Nat.le_of_ble_eq_true rfl) rfl ?_
  intro a hE
  have hM := M.start w0
  unfold F_laws_eqShare at hF
  refine c_region ?_
  refine s_box (cs := cat [[(vB p0.Place)], [v0_1]]) hE hM goes_none (by decide) rfl rfl ?_; intro b1 w a hM hE
  refine s_box (cs := cat [[(vB p1.Place)], [v1_1]]) hE hM goes_none (by decide) rfl rfl ?_; intro b3 w a hM hE
  refine s_assign hE goes_none (by decide) rfl ?_; intro a hE
  refine c_fin ?_
  refine wp_seq ?_
  refine c_region ?_
  refine s_fieldAddr hE goes_none (by decide) rfl (fd28_0) ?_; intro a hE
  refine s_load (v := (vB p0.Place)) hE goes_none (by decide) rfl ty5 rfl (At.cat (pre := []) (seg := [(vB p0.Place)]) (post := [[v0_1]]) (hM.rawAt (pre := [_])) cl0) ?_; intro a hE
  refine s_fieldAddr hE goes_none (by decide) rfl (fd28_0) ?_; intro a hE
  refine s_load (v := (vB p1.Place)) hE goes_none (by decide) rfl ty5 rfl (At.cat (pre := []) (seg := [(vB p1.Place)]) (post := [[v1_1]]) (hM.rawAt (pre := [])) cl0) ?_; intro a hE
  refine s_int hE goes_none (by decide) rfl rfl (bB_neq p0.Place p1.Place) ?_; intro a hE
  refine c_fin ?_
  refine c_cond hE rfl ?_ ?_
  · intro hb5
    have hF := ite_t hF hb5
    refine c_region ?_
    refine s_assign hE goes_none (by decide) rfl ?_; intro a hE
    refine c_fin ?_
    have hr := Option.some.inj hF
    subst hr
    have hM := M.fst (l := []) hM
    exact wp_ret (r_then (k_ret1 hE rfl (res_tmp hE rfl) ⟨_, rfl, rfl, hM.kept⟩))
  · intro hb5
    have hF := ite_f hF hb5
    refine wp_skip ?_
    refine c_nx ?_
    refine wp_seq ?_
    refine c_region ?_
    refine s_fieldAddr hE goes_none (by decide) rfl (fd28_1) ?_; intro a hE
    refine s_load (v := v0_1) hE goes_none (by decide) rfl ty22 rfl (At.cat (pre := [[(vB p0.Place)]]) (seg := [v0_1]) (post := []) (hM.rawAt (pre := [_])) (cl1 (n := 1) (m := 0) rfl cl0)) ?_; intro a hE
    refine s_fieldAddr hE goes_none (by decide) rfl (fd28_1) ?_; intro a hE
    refine s_load (v := v1_1) hE goes_none (by decide) rfl ty22 rfl (At.cat (pre := [[(vB p1.Place)]]) (seg := [v1_1]) (post := []) (hM.rawAt (pre := [])) (cl1 (n := 1) (m := 0) rfl cl0)) ?_; intro a hE
    obtain ⟨r6, e7, hF⟩ := bind_some hF
    refine s_call (vs := [v0_1, v1_1]) hE goes_none (by decide) rfl cb20 (c_laws_eqByteS _ p0.Data v0_1 (hM.rdo hv0_1) p1.Data v1_1 (hM.rdo hv1_1) r6 e7) ?_
    rintro v w a ⟨rfl, hK⟩ hE
    have hM := hM.keep hK
    refine s_not hE goes_none (by decide) rfl ?_; intro a hE
    refine c_fin ?_
    refine c_cond hE rfl ?_ ?_
    · intro hb8
      have hF := ite_t hF hb8
      refine c_region ?_
      refine s_assign hE goes_none (by decide) rfl ?_; intro a hE
      refine c_fin ?_
      have hr := Option.some.inj hF
      subst hr
      have hM := M.fst (l := []) hM
      exact wp_ret (r_then (k_ret1 hE rfl (res_tmp hE rfl) ⟨_, rfl, rfl, hM.kept⟩))
    · intro hb8
      have hF := ite_f hF hb8
      refine wp_skip ?_
      refine c_nx ?_
      refine c_region ?_
      refine s_assign hE goes_none (by decide) rfl ?_; intro a hE
      refine c_fin ?_
      have hr := Option.some.inj hF
      subst hr
      have hM := M.fst (l := []) hM
      exact wp_ret (k_ret1 hE rfl (res_tmp hE rfl) ⟨_, rfl, rfl, hM.kept⟩)
noncomputable def L0_laws_markByteS (s4 : (List UInt8) × Int × Int) : Option (Fl ((List UInt8) × Int × Int) ((List UInt8) × Int)) :=
  if (decide (s4.2.2 < (s4.1.length : Int))) = true then ((idx s4.1 s4.2.2).bind fun (x9 : UInt8) => some (Fl.nx ((s4.1.set (s4.2.2).toNat (byteI s4.2.1)), wr (s4.2.1 + 1), wr (s4.2.2 + 1)))) else (some (Fl.ex (s4.1, s4.2.1)))
noncomputable def F_laws_markByteS (p0 : (List UInt8)) (p1 : Int) : Option ((List UInt8) × Int) :=
  (iter (L0_laws_markByteS) (p0, p1, 0) : Option ((List UInt8) × Int)).bind fun (j1 : (List UInt8) × Int) => some (j1.1, j1.2)
set_option maxRecDepth 20000 in
set_option maxHeartbeats 400000 in
theorem c_laws_markByteS (St : Nat → Prop) (W w0 : World) (its : List Item) (p0 : (List UInt8)) (v0_1 : Value) (p1 : Int) (hM : M St W w0 (own NoB (p0 : (List UInt8)) [v0_1] :: its)) (r : (List UInt8) × Int) (hF : F_laws_markByteS p0 p1 = some r) :
    Calls Tryd.prog 29 [v0_1, (vI p1)].toArray w0 (fun en w' => ∃ v, en = .returned v ∧ (v = (vI r.2) ∧ M St W w' (own NoB (r.1 : (List UInt8)) [v0_1] :: its))) := by
  refine c_enter (n := 20) Tryd.func29 rfl rfl (Nat.le_of_ble_eq_true rfl) rfl ?_
  intro a hE
  unfold F_laws_markByteS at hF
  refine c_region ?_
  refine s_assign hE goes_none (by decide) rfl ?_; intro a hE
  refine c_fin ?_
  refine wp_seq ?_
  refine c_region ?_
  refine s_assign hE goes_none (by decide) rfl ?_; intro a hE
  refine c_fin ?_
  obtain ⟨j1, hl2, hF3⟩ := bind_some hF
  refine c_cut (fun a w => Env 20 a [(0, v0_1), (1, (vI j1.2))] ∧ M St W w (own NoB (j1.1 : (List UInt8)) [v0_1] :: its)) ?_ ?_
  · skip
    refine wp_block ?_
    refine c_loop (fun (s4 : (List UInt8) × Int × Int) a w => Env 20 a [(0, v0_1), (1, (vI s4.2.1)), (5, (vI s4.2.2))] ∧ M St W w (own NoB (s4.1 : (List UInt8)) [v0_1] :: its)) hl2 ⟨hE.sub ⟨rfl, rfl, rfl, trivial⟩, hM⟩ ?_
    rintro s4 a w ⟨hE, hM⟩ o7 hs5 hx6
    unfold L0_laws_markByteS at hs5
    refine wp_seq ?_
    refine c_region ?_
    refine s_move hE goes_none (by decide) rfl ?_; intro a hE
    refine s_move hE goes_none (by decide) rfl ?_; intro a hE
    refine s_len hE goes_none (by decide) rfl Tryd.underlying22 (hM.ro (pre := []) noB) ?_; intro a hE
    refine s_int hE goes_none (by decide) rfl rfl rfl ?_; intro a hE
    refine c_fin ?_
    refine c_cond hE rfl ?_ ?_
    · intro hb8
      have hs5 := ite_t hs5 hb8
      refine wp_skip ?_
      refine c_nx ?_
      refine wp_seq ?_
      refine wp_block ?_
      refine c_region ?_
      refine s_move hE goes_none (by decide) rfl ?_; intro a hE
      refine s_move hE goes_none (by decide) rfl ?_; intro a hE
      refine s_move hE goes_none (by decide) rfl ?_; intro a hE
      refine s_convB hE goes_none (by decide) rfl Tryd.underlying3 Tryd.underlying5 ?_; intro a hE
      obtain ⟨x9, e10, hs5⟩ := bind_some hs5
      have hi11 := idx_some e10
      refine s_indexS hE goes_none (by decide) rfl rfl Tryd.underlying22 ty5 (hM.ro (pre := []) noB) hi11.1 ?_; intro a hE
      have hM := hM.toOsl (List.getElem?_eq_some_iff.1 hi11.2).1
      refine s_storeS (i := (s4.2.2).toNat) (k0 := 0) (seg := [(vB (byteI s4.2.1))]) (xo := x9) (xn := byteI s4.2.1) hE hM goes_none rfl rfl rfl ty5 rfl (Flat.cell (byteI s4.2.1 : UInt8)) hi11.2 (fit_num (m := 1) rfl (by decide)) (splice_all (Eq.trans rfl (Eq.symm rfl))) ?_; intro w a hM hE
      have hM := hM.toOwn noB
      refine c_fin ?_
      refine wp_region_lit ?_
      refine s_move hE goes_none (by decide) rfl ?_; intro a hE
      refine s_int hE goes_none (by decide) rfl rfl rfl ?_; intro a hE
      refine s_assign hE goes_none (by decide) rfl ?_; intro a hE
      refine c_fin0 ?_
      refine c_nb ?_
      refine c_nx ?_
      refine wp_region_lit ?_
      refine s_move hE goes_none (by decide) rfl ?_; intro a hE
      refine s_int hE goes_none (by decide) rfl rfl rfl ?_; intro a hE
      refine s_assign hE goes_none (by decide) rfl ?_; intro a hE
      refine c_fin0 ?_
      refine c_mid ?_
      exact ⟨_, (Option.some.inj hs5).symm, hE.sub ⟨rfl, rfl, rfl, trivial⟩, hM⟩
    · intro hb8
      have hs5 := ite_f hs5 hb8
      refine wp_exit (e_then (e_then (e_eq ?_)))
      have ht12 := hx6 _ (Option.some.inj hs5).symm
      subst ht12
      refine c_mid ?_
      exact ⟨hE.sub ⟨rfl, rfl, trivial⟩, hM⟩
  · skip
    rintro a w ⟨hE, hM⟩
    refine c_nx ?_
    refine c_region ?_
    refine s_move hE goes_none (by decide) rfl ?_; intro a hE
    refine s_assign hE goes_none (by decide) rfl ?_; intro a hE
    refine c_fin ?_
    have hr := Option.some.inj hF3
    subst hr
    exact wp_ret (k_ret1 hE (by rfl) (res_tmp hE rfl) ⟨_, rfl, rfl, hM⟩)
noncomputable def F_laws_markShare (p0 : GShare) (p1 : Int) : Option (GShare × Int) :=
  (F_laws_markByteS p0.Data p1).bind fun (r3 : (List UInt8) × Int) => some ((⟨p0.Place, r3.1⟩ : GShare), r3.2)
set_option maxRecDepth 20000 in
set_option maxHeartbeats 400000 in
theorem c_laws_markShare (St : Nat → Prop) (W w0 : World) (its : List Item) (p0 : GShare) (v0_1 : Value) (p1 : Int) (hM : M St W w0 (own NoB (p0.Data : (List UInt8)) [v0_1] :: its)) (r : GShare × Int) (hF : F_laws_markShare p0 p1 = some r) :
    Calls Tryd.prog 12 [(Value.agg (cat [[(vB p0.Place)], [v0_1]]).toArray), (vI p1)].toArray w0 (fun en w' => ∃ v, en = .returned v ∧ (v = (vI r.2) ∧ M St W w' (own NoB (r.1.Data : (List UInt8)) [v0_1] :: its))) := by
  refine c_enter (n := 10) Tryd.func12 rfl rfl (Nat.le_of_ble_eq_true rfl) rfl ?_
  intro a hE
  unfold F_laws_markShare at hF
  refine c_region ?_
  refine s_box (cs := cat [[(vB p0.Place)], [v0_1]]) hE hM goes_none (by decide) rfl rfl ?_; intro b1 w a hM hE
  refine s_assign hE goes_none (by decide) rfl ?_; intro a hE
  refine c_fin ?_
  refine c_region ?_
  refine s_fieldAddr hE goes_none (by decide) rfl (fd28_1) ?_; intro a hE
  refine s_load (v := v0_1) hE goes_none (by decide) rfl ty22 rfl (At.cat (pre := [[(vB p0.Place)]]) (seg := [v0_1]) (post := []) (hM.rawAt (pre := [])) (cl1 (n := 1) (m := 0) rfl cl0)) ?_; intro a hE
  refine s_move hE goes_none (by decide) rfl ?_; intro a hE
  have hM := hM.pull (pre := [_])
  obtain ⟨r3, e4, hF⟩ := bind_some hF
  refine s_call (vs := [v0_1, (vI p1)]) hE goes_none (by decide) rfl cb29 (c_laws_markByteS _ _ _ _ p0.Data v0_1 p1 hM r3 e4) ?_
  rintro v w a ⟨rfl, hM⟩ hE
  refine s_assign hE goes_none (by decide) rfl ?_; intro a hE
  refine c_fin ?_
  refine c_region ?_
  refine s_move hE goes_none (by decide) rfl ?_; intro a hE
  refine s_assign hE goes_none (by decide) rfl ?_; intro a hE
  refine c_fin ?_
  have hr := Option.some.inj hF
  subst hr
  have hM := (hM.pull (pre := [_])).drop
  exact wp_ret (k_ret1 hE (by rfl) (res_tmp hE rfl) ⟨_, rfl, rfl, hM⟩)
noncomputable def L0_laws_heldByteS (p0 : (List UInt8)) (s5 : Int × Int) : Option (Fl (Int × Int) (Fl Int Int)) :=
  if (decide (s5.2 < (p0.length : Int))) = true then ((idx p0 s5.2).bind fun (x10 : UInt8) => if (x10 != (byteI s5.1)) = true then (some (Fl.ex (Fl.ex (-1)))) else (some (Fl.nx (wr (s5.1 + 1), wr (s5.2 + 1))))) else (some (Fl.ex (Fl.nx s5.1)))
noncomputable def F_laws_heldByteS (p0 : (List UInt8)) (p1 : Int) : Option (Int) :=
  (iter (L0_laws_heldByteS p0) (p1, 0) : Option (Fl Int Int)).bind fun (j1 : Fl Int Int) => j1.el (fun (s4 : Int) => some s4) (fun r => some r)
set_option maxRecDepth 20000 in
set_option maxHeartbeats 400000 in
theorem c_laws_heldByteS (w0 : World) (p0 : (List UInt8)) (v0_1 : Value) (hv0_1 : Ro w0 p0 [v0_1]) (p1 : Int) (r : Int) (hF : F_laws_heldByteS p0 p1 = some r) :
    Calls Tryd.prog 30 [v0_1, (vI p1)].toArray w0 (fun en w' => ∃ v, en = .returned v ∧ (v = (vI r) ∧ Kept (Old w0) w0 w')) := by
  refine c_enter (n := 22) Tryd.func30 rfl rfl (Nat.le_of_ble_eq_true rfl) rfl ?_
  intro a hE
  have hM := M.start w0
  unfold F_laws_heldByteS at hF
  refine c_region ?_
  refine s_assign hE goes_none (by decide) rfl ?_; intro a hE
  refine c_fin ?_
  refine wp_seq ?_
  refine c_region ?_
  refine s_assign hE goes_none (by decide) rfl ?_; intro a hE
  refine c_fin ?_
  obtain ⟨j1, hl2, hF3⟩ := bind_some hF
  refine c_cut (fun a w => ∃ s4 : Int, j1 = Fl.nx s4 ∧ Env 22 a [(1, (vI s4))] ∧ M (Old w0) w0 w []) ?_ ?_
  · skip
    refine wp_block ?_
    refine c_loop (fun (s5 : Int × Int) a w => Env 22 a [(0, v0_1), (1, (vI s5.1)), (5, (vI s5.2))] ∧ M (Old w0) w0 w []) hl2 ⟨hE.sub ⟨rfl, rfl, rfl, trivial⟩, hM⟩ ?_
    rintro s5 a w ⟨hE, hM⟩ o8 hs6 hx7
    unfold L0_laws_heldByteS at hs6
    refine wp_seq ?_
    refine c_region ?_
    refine s_move hE goes_none (by decide) rfl ?_; intro a hE
    refine s_move hE goes_none (by decide) rfl ?_; intro a hE
    refine s_len hE goes_none (by decide) rfl Tryd.underlying22 (hM.rd hv0_1) ?_; intro a hE
    refine s_int hE goes_none (by decide) rfl rfl rfl ?_; intro a hE
    refine c_fin ?_
    refine c_cond hE rfl ?_ ?_
    · intro hb9
      have hs6 := ite_t hs6 hb9
      refine wp_skip ?_
      refine c_nx ?_
      refine wp_seq ?_
      refine wp_block ?_
      refine wp_seq ?_
      refine c_region ?_
      refine s_move hE goes_none (by decide) rfl ?_; intro a hE
      refine s_move hE goes_none (by decide) rfl ?_; intro a hE
      obtain ⟨x10, e11, hs6⟩ := bind_some hs6
      have hi12 := idx_some e11
      refine s_indexS hE goes_none (by decide) rfl rfl Tryd.underlying22 ty5 (hM.rd hv0_1) hi12.1 ?_; intro a hE
      refine s_load (v := (vB x10)) hE goes_none (by decide) rfl ty5 rfl (sl_atF (hM.rd hv0_1) hi12.2) ?_; intro a hE
      refine s_move hE goes_none (by decide) rfl ?_; intro a hE
      refine s_convB hE goes_none (by decide) rfl Tryd.underlying3 Tryd.underlying5 ?_; intro a hE
      refine s_int hE goes_none (by decide) rfl rfl (bB_neq x10 (byteI s5.1)) ?_; intro a hE
      refine c_fin ?_
      refine c_cond hE rfl ?_ ?_
      · intro hb13
        have hs6 := ite_t hs6 hb13
        refine c_region ?_
        refine s_assign hE goes_none (by decide) rfl ?_; intro a hE
        refine c_fin ?_
        have ht14 := hx7 _ (Option.some.inj hs6).symm
        subst ht14
        have hr := Option.some.inj hF3
        subst hr
        exact wp_ret (r_then (r_inb (r_then (r_then (r_inb (r_then (r_then (k_ret1 hE rfl (res_tmp hE rfl) ⟨_, rfl, rfl, hM.kept⟩))))))))
      · intro hb13
        have hs6 := ite_f hs6 hb13
        refine wp_skip ?_
        refine c_nx ?_
        refine wp_region_lit ?_
        refine s_move hE goes_none (by decide) rfl ?_; intro a hE
        refine s_int hE goes_none (by decide) rfl rfl rfl ?_; intro a hE
        refine s_assign hE goes_none (by decide) rfl ?_; intro a hE
        refine c_fin0 ?_
        refine c_nb ?_
        refine c_nx ?_
        refine wp_region_lit ?_
        refine s_move hE goes_none (by decide) rfl ?_; intro a hE
        refine s_int hE goes_none (by decide) rfl rfl rfl ?_; intro a hE
        refine s_assign hE goes_none (by decide) rfl ?_; intro a hE
        refine c_fin0 ?_
        refine c_mid ?_
        exact ⟨_, (Option.some.inj hs6).symm, hE.sub ⟨rfl, rfl, rfl, trivial⟩, hM⟩
    · intro hb9
      have hs6 := ite_f hs6 hb9
      refine wp_exit (e_then (e_then (e_eq ?_)))
      have ht15 := hx7 _ (Option.some.inj hs6).symm
      subst ht15
      refine c_mid ?_
      exact ⟨s5.1, rfl, hE.sub ⟨rfl, trivial⟩, hM⟩
  · skip
    rintro a w ⟨s4, ht, hE, hM⟩
    subst ht
    have hF3 := el_nx hF3
    refine c_nx ?_
    refine c_region ?_
    refine s_move hE goes_none (by decide) rfl ?_; intro a hE
    refine s_assign hE goes_none (by decide) rfl ?_; intro a hE
    refine c_fin ?_
    have hr := Option.some.inj hF3
    subst hr
    exact wp_ret (k_ret1 hE rfl (res_tmp hE rfl) ⟨_, rfl, rfl, hM.kept⟩)
noncomputable def F_laws_heldShare (p0 : GShare) (p1 : Int) : Option (Int) :=
  (F_laws_heldByteS p0.Data p1).bind fun (r3 : Int) => if (decide (r3 < 0)) = true then (some (-1)) else (some r3)
set_option maxRecDepth 20000 in
set_option maxHeartbeats 400000 in
theorem c_laws_heldShare (w0 : World) (p0 : GShare) (v0_1 : Value) (hv0_1 : Ro w0 p0.Data [v0_1]) (p1 : Int) (r : Int) (hF : F_laws_heldShare p0 p1 = some r) :
    Calls Tryd.prog 13 [(Value.agg (cat [[(vB p0.Place)], [v0_1]]).toArray), (vI p1)].toArray w0 (fun en w' => ∃ v, en = .returned v ∧ (v = (vI r) ∧ Kept (Old w0) w0 w')) := by
  refine c_enter (n := 12) Tryd.func13 rfl rfl (Nat.le_of_ble_eq_true rfl) rfl ?_
  intro a hE
  have hM := M.start w0
  unfold F_laws_heldShare at hF
  refine c_region ?_
  refine s_box (cs := cat [[(vB p0.Place)], [v0_1]]) hE hM goes_none (by decide) rfl rfl ?_; intro b1 w a hM hE
  refine s_assign hE goes_none (by decide) rfl ?_; intro a hE
  refine c_fin ?_
  refine c_region ?_
  refine s_fieldAddr hE goes_none (by decide) rfl (fd28_1) ?_; intro a hE
  refine s_load (v := v0_1) hE goes_none (by decide) rfl ty22 rfl (At.cat (pre := [[(vB p0.Place)]]) (seg := [v0_1]) (post := []) (hM.rawAt (pre := [])) (cl1 (n := 1) (m := 0) rfl cl0)) ?_; intro a hE
  refine s_move hE goes_none (by decide) rfl ?_; intro a hE
  obtain ⟨r3, e4, hF⟩ := bind_some hF
  refine s_call (vs := [v0_1, (vI p1)]) hE goes_none (by decide) rfl cb30 (c_laws_heldByteS _ p0.Data v0_1 (hM.rdo hv0_1) p1 r3 e4) ?_
  rintro v w a ⟨rfl, hK⟩ hE
  have hM := hM.keep hK
  refine s_assign hE goes_none (by decide) rfl ?_; intro a hE
  refine c_fin ?_
  refine wp_seq ?_
  refine c_region ?_
  refine s_move hE goes_none (by decide) rfl ?_; intro a hE
  refine s_int hE goes_none (by decide) rfl rfl rfl ?_; intro a hE
  refine c_fin ?_
  refine c_cond hE rfl ?_ ?_
  · intro hb5
    have hF := ite_t hF hb5
    refine c_region ?_
    refine s_assign hE goes_none (by decide) rfl ?_; intro a hE
    refine c_fin ?_
    have hr := Option.some.inj hF
    subst hr
    have hM := M.fst (l := []) hM
    exact wp_ret (r_then (k_ret1 hE rfl (res_tmp hE rfl) ⟨_, rfl, rfl, hM.kept⟩))
  · intro hb5
    have hF := ite_f hF hb5
    refine wp_skip ?_
    refine c_nx ?_
    refine c_region ?_
    refine s_move hE goes_none (by decide) rfl ?_; intro a hE
    refine s_assign hE goes_none (by decide) rfl ?_; intro a hE
    refine c_fin ?_
    have hr := Option.some.inj hF
    subst hr
    have hM := M.fst (l := []) hM
    exact wp_ret (k_ret1 hE rfl (res_tmp hE rfl) ⟨_, rfl, rfl, hM.kept⟩)
noncomputable def F_laws_FnExactParseShare (p0 : Str) : Option (Bool) :=
  if (decide ((p0.l.length : Int) > 1048576)) = true then (some true) else ((F_spec_ParseShare p0).bind fun (r2 : GShare × Int) => (F_impl_ParseShare p0).bind fun (r7 : GShare × Int) => ((F_laws_eqShare r7.1 r2.1).bind fun (r15 : Bool) => if (!r15) = true then (some true) else (some (r7.2 != r2.2)) : Option (Bool)).bind fun (j12 : Bool) => if j12 = true then (some false) else ((F_laws_markShare r7.1 1).bind fun (r21 : GShare × Int) => (F_laws_heldShare (⟨r7.1.Place, r21.1.Data⟩ : GShare) 1).bind fun (r23 : Int) => if (decide (r23 < 0)) = true then (some false) else (if (r23 != r21.2) = true then (some false) else ((F_impl_ParseShare p0).bind fun (r27 : GShare × Int) => ((F_laws_eqShare r27.1 r2.1).bind fun (r35 : Bool) => if (!r35) = true then (some true) else (some (r27.2 != r2.2)) : Option (Bool)).bind fun (j32 : Bool) => if j32 = true then (some false) else ((F_laws_heldShare (⟨r7.1.Place, r21.1.Data⟩ : GShare) 1).bind fun (r41 : Int) => if (decide (r41 < 0)) = true then (some false) else (if (r41 != r21.2) = true then (some false) else (some true)))))))
set_option maxRecDepth 20000 in
set_option maxHeartbeats 400000 in
theorem c_laws_FnExactParseShare (w0 : World) (p0 : Str) (hT : TabT w0) (r : Bool) (hF : F_laws_FnExactParseShare p0 = some r) :
    Calls Tryd.prog 4 [(vS p0)].toArray w0 (fun en w' => ∃ v, en = .returned v ∧ (v = (vT r) ∧ Kept (Old w0) w0 w')) := by
  refine c_enter (n := 66) Tryd.func4 rfl rfl (Nat.le_of_ble_eq_true rfl) rfl ?_
  intro a hE
  have hM := M.start w0
  unfold F_laws_FnExactParseShare at hF
  refine c_region ?_
  refine s_assign hE goes_none (by decide) rfl ?_; intro a hE
  refine c_fin ?_
  refine wp_seq ?_
  refine c_region ?_
  refine s_move hE goes_none (by decide) rfl ?_; intro a hE
  refine s_lenStr hE goes_none (by decide) rfl Tryd.underlying9 ?_; intro a hE
  refine s_int hE goes_none (by decide) rfl rfl rfl ?_; intro a hE
  refine c_fin ?_
  refine c_cond hE rfl ?_ ?_
  · intro hb1
    have hF := ite_t hF hb1
    refine c_region ?_
    refine s_assign hE goes_none (by decide) rfl ?_; intro a hE
    refine c_fin ?_
    have hr := Option.some.inj hF
    subst hr
    exact wp_ret (r_then (k_ret1 hE rfl (res_tmp hE rfl) ⟨_, rfl, rfl, hM.kept⟩))
  · intro hb1
    have hF := ite_f hF hb1
    refine wp_skip ?_
    refine c_nx ?_
    refine c_region ?_
    refine s_move hE goes_none (by decide) rfl ?_; intro a hE
    obtain ⟨r2, e3, hF⟩ := bind_some hF
    refine s_call (vs := [(vS p0)]) hE goes_none (by decide) rfl cb10 (c_spec_ParseShare _ p0 r2 e3) ?_
    rintro v w a ⟨u4, rfl, hFr, hK⟩ hE
    have hM := hM.add hK hFr
    refine s_move hE goes_none (by decide) rfl ?_; intro a hE
    refine s_extract hE goes_none (by decide) rfl rfl ?_; intro a hE
    refine s_extract hE goes_none (by decide) rfl rfl ?_; intro a hE
    refine s_alloc hE hM goes_none (by decide) ty28 ?_; intro b5 w a hM hE
    refine s_store (seg := cat [[(vB r2.1.Place)], [u4]]) (cs' := cat [[(vB r2.1.Place)], [u4]]) hE hM goes_none rfl rfl rfl ty28 (cat_len (cl1 (n := 1) (m := 1) rfl (cl1 (n := 1) (m := 0) rfl cl0))) (Nat.le_of_eq ((Nat.zero_add _).trans (Eq.trans (cat_len (cl1 (n := 1) (m := 1) rfl (cl1 (n := 1) (m := 0) rfl cl0))) (Eq.symm (cat_len (cl1 (n := 1) (m := 1) rfl (cl1 (n := 1) (m := 0) rfl cl0))))))) (cat_cell (cc1 (Flat.cell (r2.1.Place : UInt8)) (cc1 (Rep.cell (hM.sl (pre := [_]) noB)) cc0))) (splice_all (Eq.trans (cat_len (cl1 (n := 1) (m := 1) rfl (cl1 (n := 1) (m := 0) rfl cl0))) (Eq.symm (cat_len (cl1 (n := 1) (m := 1) rfl (cl1 (n := 1) (m := 0) rfl cl0)))))) ?_; intro w a hM hE
    refine s_assign hE goes_none (by decide) rfl ?_; intro a hE
    refine c_fin ?_
    refine c_region ?_
    refine s_move hE goes_none (by decide) rfl ?_; intro a hE
    obtain ⟨r7, e8, hF⟩ := bind_some hF
    refine s_call (vs := [(vS p0)]) hE goes_none (by decide) rfl cb11 (c_impl_ParseShare _ p0 (hT.kept hM.kept) r7 e8) ?_
    rintro v w a ⟨u9, rfl, hFr, hK⟩ hE
    have hM := hM.add hK hFr
    refine s_move hE goes_none (by decide) rfl ?_; intro a hE
    refine s_extract hE goes_none (by decide) rfl rfl ?_; intro a hE
    refine s_extract hE goes_none (by decide) rfl rfl ?_; intro a hE
    refine s_alloc hE hM goes_none (by decide) ty28 ?_; intro b10 w a hM hE
    refine s_store (seg := cat [[(vB r7.1.Place)], [u9]]) (cs' := cat [[(vB r7.1.Place)], [u9]]) hE hM goes_none rfl rfl rfl ty28 (cat_len (cl1 (n := 1) (m := 1) rfl (cl1 (n := 1) (m := 0) rfl cl0))) (Nat.le_of_eq ((Nat.zero_add _).trans (Eq.trans (cat_len (cl1 (n := 1) (m := 1) rfl (cl1 (n := 1) (m := 0) rfl cl0))) (Eq.symm (cat_len (cl1 (n := 1) (m := 1) rfl (cl1 (n := 1) (m := 0) rfl cl0))))))) (cat_cell (cc1 (Flat.cell (r7.1.Place : UInt8)) (cc1 (Rep.cell (hM.sl (pre := [_]) noB)) cc0))) (splice_all (Eq.trans (cat_len (cl1 (n := 1) (m := 1) rfl (cl1 (n := 1) (m := 0) rfl cl0))) (Eq.symm (cat_len (cl1 (n := 1) (m := 1) rfl (cl1 (n := 1) (m := 0) rfl cl0)))))) ?_; intro w a hM hE
    refine s_assign hE goes_none (by decide) rfl ?_; intro a hE
    refine c_fin ?_
    refine wp_seq ?_
    obtain ⟨j12, hl13, hF14⟩ := bind_some hF
    refine c_join (fun a w => Env 66 a [(0, (vS p0)), (3, (ptr b5 0)), (4, (vI r2.2)), (5, (ptr b10 0)), (32, (vT j12))] ∧ M (Old w0) w0 w [raw b10 (cat [[(vB r7.1.Place)], [u9]]), osl NoB (r7.1.Data : List UInt8) u9, raw b5 (cat [[(vB r2.1.Place)], [u4]]), osl NoB (r2.1.Data : List UInt8) u4]) ?_ ?_
    · skip
      refine wp_region_lit ?_
      refine s_loadA (cs := cat [[(vB r7.1.Place)], [u9]]) hE goes_none (by decide) rfl ty28 rfl (hM.rawAt (pre := [])) (cat_len (cl1 (n := 1) (m := 1) rfl (cl1 (n := 1) (m := 0) rfl cl0))) ?_; intro a hE
      refine s_loadA (cs := cat [[(vB r2.1.Place)], [u4]]) hE goes_none (by decide) rfl ty28 rfl (hM.rawAt (pre := [_, _])) (cat_len (cl1 (n := 1) (m := 1) rfl (cl1 (n := 1) (m := 0) rfl cl0))) ?_; intro a hE
      obtain ⟨r15, e16, hl13⟩ := bind_some hl13
      refine s_call (vs := [(Value.agg (cat [[(vB r7.1.Place)], [u9]]).toArray), (Value.agg (cat [[(vB r2.1.Place)], [u4]]).toArray)]) hE goes_none (by decide) rfl cb9 (c_laws_eqShare _ r7.1 u9 (hM.sl (pre := [_]) noB) r2.1 u4 (hM.sl (pre := [_, _, _]) noB) r15 e16) ?_
      rintro v w a ⟨rfl, hK⟩ hE
      have hM := hM.keep hK
      refine s_not hE goes_none (by decide) rfl ?_; intro a hE
      refine s_move hE goes_none (by decide) rfl ?_; intro a hE
      refine splitB (!r15) (fun hb17 => ?_) (fun hb17 => ?_)
      · have hl13 := ite_t hl13 hb17
        refine s_skip hE rfl (lkb rfl hb17) rfl (by decide) ?_; intro a hE
        refine s_skip hE rfl (lkb rfl hb17) rfl (by decide) ?_; intro a hE
        refine s_skip hE rfl (lkb rfl hb17) rfl (by decide) ?_; intro a hE
        refine s_pickT hE goes_none (by decide) (lkb rfl hb17) rfl ?_; intro a hE
        refine c_fin0 ?_
        have ht18 := Option.some.inj hl13
        subst ht18
        refine c_mid ?_
        exact ⟨hE.sub ⟨rfl, rfl, rfl, rfl, rfl, trivial⟩, hM⟩
      · have hl13 := ite_f hl13 hb17
        refine s_move hE (goes_yes hE rfl (lkb rfl hb17)) (by decide) rfl ?_; intro a hE
        refine s_move hE (goes_yes hE rfl (lkb rfl hb17)) (by decide) rfl ?_; intro a hE
        refine s_int hE (goes_yes hE rfl (lkb rfl hb17)) (by decide) rfl rfl rfl ?_; intro a hE
        refine s_pickF hE goes_none (by decide) (lkb rfl hb17) rfl ?_; intro a hE
        refine c_fin0 ?_
        have ht19 := Option.some.inj hl13
        subst ht19
        refine c_mid ?_
        exact ⟨hE.sub ⟨rfl, rfl, rfl, rfl, rfl, trivial⟩, hM⟩
    · skip
      rintro a w ⟨hE, hM⟩
      refine c_cond hE rfl ?_ ?_
      · intro hb20
        have hF14 := ite_t hF14 hb20
        refine c_region ?_
        refine s_assign hE goes_none (by decide) rfl ?_; intro a hE
        refine c_fin ?_
        have hr := Option.some.inj hF14
        subst hr
        have hM := M.fst (l := []) hM
        exact wp_ret (r_then (k_ret1 hE rfl (res_tmp hE rfl) ⟨_, rfl, rfl, hM.kept⟩))
      · intro hb20
        have hF14 := ite_f hF14 hb20
        refine wp_skip ?_
        refine c_nx ?_
        refine c_region ?_
        refine s_assign hE goes_none (by decide) rfl ?_; intro a hE
        refine c_fin ?_
        refine c_region ?_
        refine s_loadA (cs := cat [[(vB r7.1.Place)], [u9]]) hE goes_none (by decide) rfl ty28 rfl (hM.rawAt (pre := [])) (cat_len (cl1 (n := 1) (m := 1) rfl (cl1 (n := 1) (m := 0) rfl cl0))) ?_; intro a hE
        refine s_move hE goes_none (by decide) rfl ?_; intro a hE
        have hM := hM.pull (pre := [_])
        have hM := hM.toOwn noB
        obtain ⟨r21, e22, hF14⟩ := bind_some hF14
        refine s_call (vs := [(Value.agg (cat [[(vB r7.1.Place)], [u9]]).toArray), (vI 1)]) hE goes_none (by decide) rfl cb12 (c_laws_markShare _ _ _ _ r7.1 u9 1 hM r21 e22) ?_
        rintro v w a ⟨rfl, hM⟩ hE
        refine s_assign hE goes_none (by decide) rfl ?_; intro a hE
        refine c_fin ?_
        refine c_region ?_
        refine s_assign hE goes_none (by decide) rfl ?_; intro a hE
        refine c_fin ?_
        refine c_region ?_
        refine s_loadA (cs := cat [[(vB r7.1.Place)], [u9]]) hE goes_none (by decide) rfl ty28 rfl (hM.rawAt (pre := [_])) (cat_len (cl1 (n := 1) (m := 1) rfl (cl1 (n := 1) (m := 0) rfl cl0))) ?_; intro a hE
        refine s_move hE goes_none (by decide) rfl ?_; intro a hE
        obtain ⟨r23, e24, hF14⟩ := bind_some hF14
        refine s_call (vs := [(Value.agg (cat [[(vB r7.1.Place)], [u9]]).toArray), (vI 1)]) hE goes_none (by decide) rfl cb13 (c_laws_heldShare _ (⟨r7.1.Place, r21.1.Data⟩ : GShare) u9 (hM.ro (pre := []) noB) 1 r23 e24) ?_
        rintro v w a ⟨rfl, hK⟩ hE
        have hM := hM.keep hK
        refine s_assign hE goes_none (by decide) rfl ?_; intro a hE
        refine c_fin ?_
        refine wp_seq ?_
        refine c_region ?_
        refine s_move hE goes_none (by decide) rfl ?_; intro a hE
        refine s_int hE goes_none (by decide) rfl rfl rfl ?_; intro a hE
        refine c_fin ?_
        refine c_cond hE rfl ?_ ?_
        · intro hb25
          have hF14 := ite_t hF14 hb25
          refine c_region ?_
          refine s_assign hE goes_none (by decide) rfl ?_; intro a hE
          refine c_fin ?_
          have hr := Option.some.inj hF14
          subst hr
          have hM := M.fst (l := []) hM
          exact wp_ret (r_then (k_ret1 hE rfl (res_tmp hE rfl) ⟨_, rfl, rfl, hM.kept⟩))
        · intro hb25
          have hF14 := ite_f hF14 hb25
          refine wp_skip ?_
          refine c_nx ?_
          refine wp_seq ?_
          refine c_region ?_
          refine s_move hE goes_none (by decide) rfl ?_; intro a hE
          refine s_move hE goes_none (by decide) rfl ?_; intro a hE
          refine s_int hE goes_none (by decide) rfl rfl rfl ?_; intro a hE
          refine c_fin ?_
          refine c_cond hE rfl ?_ ?_
          · intro hb26
            have hF14 := ite_t hF14 hb26
            refine c_region ?_
            refine s_assign hE goes_none (by decide) rfl ?_; intro a hE
            refine c_fin ?_
            have hr := Option.some.inj hF14
            subst hr
            have hM := M.fst (l := []) hM
            exact wp_ret (r_then (k_ret1 hE rfl (res_tmp hE rfl) ⟨_, rfl, rfl, hM.kept⟩))
          · intro hb26
            have hF14 := ite_f hF14 hb26
            refine wp_skip ?_
            refine c_nx ?_
            refine c_region ?_
            refine s_move hE goes_none (by decide) rfl ?_; intro a hE
            obtain ⟨r27, e28, hF14⟩ := bind_some hF14
            refine s_call (vs := [(vS p0)]) hE goes_none (by decide) rfl cb11 (c_impl_ParseShare _ p0 (hT.kept hM.kept) r27 e28) ?_
            rintro v w a ⟨u29, rfl, hFr, hK⟩ hE
            have hM := hM.add hK hFr
            refine s_move hE goes_none (by decide) rfl ?_; intro a hE
            refine s_extract hE goes_none (by decide) rfl rfl ?_; intro a hE
            refine s_extract hE goes_none (by decide) rfl rfl ?_; intro a hE
            refine s_alloc hE hM goes_none (by decide) ty28 ?_; intro b30 w a hM hE
            refine s_store (seg := cat [[(vB r27.1.Place)], [u29]]) (cs' := cat [[(vB r27.1.Place)], [u29]]) hE hM goes_none rfl rfl rfl ty28 (cat_len (cl1 (n := 1) (m := 1) rfl (cl1 (n := 1) (m := 0) rfl cl0))) (Nat.le_of_eq ((Nat.zero_add _).trans (Eq.trans (cat_len (cl1 (n := 1) (m := 1) rfl (cl1 (n := 1) (m := 0) rfl cl0))) (Eq.symm (cat_len (cl1 (n := 1) (m := 1) rfl (cl1 (n := 1) (m := 0) rfl cl0))))))) (cat_cell (cc1 (Flat.cell (r27.1.Place : UInt8)) (cc1 (Rep.cell (hM.sl (pre := [_]) noB)) cc0))) (splice_all (Eq.trans (cat_len (cl1 (n := 1) (m := 1) rfl (cl1 (n := 1) (m := 0) rfl cl0))) (Eq.symm (cat_len (cl1 (n := 1) (m := 1) rfl (cl1 (n := 1) (m := 0) rfl cl0)))))) ?_; intro w a hM hE
            refine s_assign hE goes_none (by decide) rfl ?_; intro a hE
            refine c_fin ?_
            refine wp_seq ?_
            obtain ⟨j32, hl33, hF34⟩ := bind_some hF14
            refine c_join (fun a w => Env 66 a [(5, (ptr b10 0)), (7, (vI r21.2)), (57, (vT j32))] ∧ M (Old w0) w0 w [own NoB (r21.1.Data : (List UInt8)) [u9], raw b10 (cat [[(vB r7.1.Place)], [u9]])]) ?_ ?_
            · skip
              refine wp_region_lit ?_
              refine s_loadA (cs := cat [[(vB r27.1.Place)], [u29]]) hE goes_none (by decide) rfl ty28 rfl (hM.rawAt (pre := [])) (cat_len (cl1 (n := 1) (m := 1) rfl (cl1 (n := 1) (m := 0) rfl cl0))) ?_; intro a hE
              refine s_loadA (cs := cat [[(vB r2.1.Place)], [u4]]) hE goes_none (by decide) rfl ty28 rfl (hM.rawAt (pre := [_, _, _, _])) (cat_len (cl1 (n := 1) (m := 1) rfl (cl1 (n := 1) (m := 0) rfl cl0))) ?_; intro a hE
              obtain ⟨r35, e36, hl33⟩ := bind_some hl33
              refine s_call (vs := [(Value.agg (cat [[(vB r27.1.Place)], [u29]]).toArray), (Value.agg (cat [[(vB r2.1.Place)], [u4]]).toArray)]) hE goes_none (by decide) rfl cb9 (c_laws_eqShare _ r27.1 u29 (hM.sl (pre := [_]) noB) r2.1 u4 (hM.sl (pre := [_, _, _, _, _]) noB) r35 e36) ?_
              rintro v w a ⟨rfl, hK⟩ hE
              have hM := hM.keep hK
              refine s_not hE goes_none (by decide) rfl ?_; intro a hE
              refine s_move hE goes_none (by decide) rfl ?_; intro a hE
              refine splitB (!r35) (fun hb37 => ?_) (fun hb37 => ?_)
              · have hl33 := ite_t hl33 hb37
                refine s_skip hE rfl (lkb rfl hb37) rfl (by decide) ?_; intro a hE
                refine s_skip hE rfl (lkb rfl hb37) rfl (by decide) ?_; intro a hE
                refine s_skip hE rfl (lkb rfl hb37) rfl (by decide) ?_; intro a hE
                refine s_pickT hE goes_none (by decide) (lkb rfl hb37) rfl ?_; intro a hE
                refine c_fin0 ?_
                have ht38 := Option.some.inj hl33
                subst ht38
                refine c_mid ?_
                have hM := hM.pull (pre := [_, _, _])
                have hM := hM.pull (pre := [_, _, _])
                have hM := M.fst (l := [_, _]) hM
                exact ⟨hE.sub ⟨rfl, rfl, rfl, trivial⟩, hM⟩
              · have hl33 := ite_f hl33 hb37
                refine s_move hE (goes_yes hE rfl (lkb rfl hb37)) (by decide) rfl ?_; intro a hE
                refine s_move hE (goes_yes hE rfl (lkb rfl hb37)) (by decide) rfl ?_; intro a hE
                refine s_int hE (goes_yes hE rfl (lkb rfl hb37)) (by decide) rfl rfl rfl ?_; intro a hE
                refine s_pickF hE goes_none (by decide) (lkb rfl hb37) rfl ?_; intro a hE
                refine c_fin0 ?_
                have ht39 := Option.some.inj hl33
                subst ht39
                refine c_mid ?_
                have hM := hM.pull (pre := [_, _, _])
                have hM := hM.pull (pre := [_, _, _])
                have hM := M.fst (l := [_, _]) hM
                exact ⟨hE.sub ⟨rfl, rfl, rfl, trivial⟩, hM⟩
            · skip
              rintro a w ⟨hE, hM⟩
              refine c_cond hE rfl ?_ ?_
              · intro hb40
                have hF34 := ite_t hF34 hb40
                refine c_region ?_
                refine s_assign hE goes_none (by decide) rfl ?_; intro a hE
                refine c_fin ?_
                have hr := Option.some.inj hF34
                subst hr
                have hM := M.fst (l := []) hM
                exact wp_ret (r_then (k_ret1 hE rfl (res_tmp hE rfl) ⟨_, rfl, rfl, hM.kept⟩))
              · intro hb40
                have hF34 := ite_f hF34 hb40
                refine wp_skip ?_
                refine c_nx ?_
                refine c_region ?_
                refine s_assign hE goes_none (by decide) rfl ?_; intro a hE
                refine c_fin ?_
                refine c_region ?_
                refine s_loadA (cs := cat [[(vB r7.1.Place)], [u9]]) hE goes_none (by decide) rfl ty28 rfl (hM.rawAt (pre := [_])) (cat_len (cl1 (n := 1) (m := 1) rfl (cl1 (n := 1) (m := 0) rfl cl0))) ?_; intro a hE
                refine s_move hE goes_none (by decide) rfl ?_; intro a hE
                obtain ⟨r41, e42, hF34⟩ := bind_some hF34
                refine s_call (vs := [(Value.agg (cat [[(vB r7.1.Place)], [u9]]).toArray), (vI 1)]) hE goes_none (by decide) rfl cb13 (c_laws_heldShare _ (⟨r7.1.Place, r21.1.Data⟩ : GShare) u9 (hM.ro (pre := []) noB) 1 r41 e42) ?_
                rintro v w a ⟨rfl, hK⟩ hE
                have hM := hM.keep hK
                refine s_assign hE goes_none (by decide) rfl ?_; intro a hE
                refine c_fin ?_
                refine wp_seq ?_
                refine c_region ?_
                refine s_move hE goes_none (by decide) rfl ?_; intro a hE
                refine s_int hE goes_none (by decide) rfl rfl rfl ?_; intro a hE
                refine c_fin ?_
                refine c_cond hE rfl ?_ ?_
                · intro hb43
                  have hF34 := ite_t hF34 hb43
                  refine c_region ?_
                  refine s_assign hE goes_none (by decide) rfl ?_; intro a hE
                  refine c_fin ?_
                  have hr := Option.some.inj hF34
                  subst hr
                  have hM := M.fst (l := []) hM
                  exact wp_ret (r_then (k_ret1 hE rfl (res_tmp hE rfl) ⟨_, rfl, rfl, hM.kept⟩))
                · intro hb43
                  have hF34 := ite_f hF34 hb43
                  refine wp_skip ?_
                  refine c_nx ?_
                  refine wp_seq ?_
                  refine c_region ?_
                  refine s_move hE goes_none (by decide) rfl ?_; intro a hE
                  refine s_move hE goes_none (by decide) rfl ?_; intro a hE
                  refine s_int hE goes_none (by decide) rfl rfl rfl ?_; intro a hE
                  refine c_fin ?_
                  refine c_cond hE rfl ?_ ?_
                  · intro hb44
                    have hF34 := ite_t hF34 hb44
                    refine c_region ?_
                    refine s_assign hE goes_none (by decide) rfl ?_; intro a hE
                    refine c_fin ?_
                    have hr := Option.some.inj hF34
                    subst hr
                    have hM := M.fst (l := []) hM
                    exact wp_ret (r_then (k_ret1 hE rfl (res_tmp hE rfl) ⟨_, rfl, rfl, hM.kept⟩))
                  · intro hb44
                    have hF34 := ite_f hF34 hb44
                    refine wp_skip ?_
                    refine c_nx ?_
                    refine c_region ?_
                    refine s_assign hE goes_none (by decide) rfl ?_; intro a hE
                    refine c_fin ?_
                    have hr := Option.some.inj hF34
                    subst hr
                    have hM := M.fst (l := []) hM
                    exact wp_ret (k_ret1 hE rfl (res_tmp hE rfl) ⟨_, rfl, rfl, hM.kept⟩)
end Go.Proofs.YtkcaldgoomphaaaDoor
