/- The walk of what the law reaches: contracts of functions. -/
import Derived.Test.YtbonmndobipbnaaLibM
import Derived.Test.YtbonmndobipbnaaProg
set_option linter.unusedVariables false
set_option linter.unusedSimpArgs false
namespace Go.Proofs.Ytbonmndobipbnaa
open Go
structure GShare where
  Place : UInt8
  Data : (List UInt8)
  deriving DecidableEq, Inhabited
instance : Dat GShare := ⟨fun x => Dat.bd (α := UInt8 × (List UInt8)) (x.Place, x.Data), fun x => Dat.sz (α := UInt8 × (List UInt8)) (x.Place, x.Data) + 1⟩
instance : Rep GShare := repIso (α := UInt8 × (List UInt8)) (fun x => (x.Place, x.Data))
theorem unf_GShare {S : Nat → Prop} {w : World} {x : GShare} {cs : List Value} {fp : List Nat} (h : Rep.sat S w x cs fp) : ∃ (u1 : Value), ∃ (g1 : List Nat), cs = cat [Flat.enc x.Place, [u1]] ∧ fp = g1 ∧ Rep.sat S w x.Data [u1] g1 := by
  obtain ⟨c0, d0, f0, q0, rfl, rfl, h0, hr0⟩ := h
  obtain ⟨rfl, rfl⟩ := h0
  obtain ⟨u1, rfl⟩ := sl_one hr0
  exact ⟨u1, _, rfl, by simp, hr0⟩
theorem unc_GShare {S : Nat → Prop} {w : World} {x : GShare} {u1 : Value} {fp : List Nat} (h : Rep.sat S w x (cat [Flat.enc x.Place, [u1]]) fp) : ∃ (g1 : List Nat), fp = g1 ∧ Rep.sat S w x.Data [u1] g1 := by
  obtain ⟨w1, g1, hc, hf, s1⟩ := unf_GShare h
  obtain ⟨e1, k1⟩ := cat_inj hc rfl
  obtain rfl := (List.cons.inj k1).1
  exact ⟨g1, hf, s1⟩
theorem un_GShare {S : Nat → Prop} {w : World} {x : GShare} {cs : List Value} (h : Rep.sat S w x cs []) : ∃ u1, cs = cat [Flat.enc x.Place, [u1]] ∧ Rep.sat S w x.Data [u1] [] := by
  obtain ⟨c0, d0, f0, g0, rfl, hf0, h0, hr0⟩ := h
  obtain ⟨rfl, rfl⟩ := List.append_eq_nil_iff.1 hf0.symm
  obtain ⟨rfl, _⟩ := h0
  obtain ⟨u1, rfl⟩ := sl_one hr0
  exact ⟨u1, rfl, hr0⟩
theorem pk_GShare {S : Nat → Prop} {w : World} {x : GShare} {u1 : Value} {g1 fp : List Nat} (h1 : Rep.sat S w x.Data [u1] g1) (hfp : fp = g1) : Rep.sat S w x (cat [Flat.enc x.Place, [u1]]) fp := by
  rw [hfp]
  refine ⟨_, _, [], g1, rfl, (by simp), ⟨rfl, rfl⟩, ?_⟩
  exact h1
theorem zsat_GShare (w : World) : Rep.sat NoB w (⟨(0 : UInt8), ([] : (List UInt8))⟩ : GShare) (cat [(Flat.enc (0 : UInt8)), [.slice none 0 0]]) [] := pk_GShare zsat_nil rfl
theorem ty5 : Ty Try.prog 5 (.int .u8) 1 1 (Flat.enc (0 : UInt8)) := ⟨Try.underlying5, by kernel_rfl⟩
theorem ty25 : Ty Try.prog 25 (.slice 81) 1 24 [.slice none 0 0] := ⟨Try.underlying25, by kernel_rfl⟩
theorem ty29 : Ty Try.prog 29 (.slice 5) 1 24 [.slice none 0 0] := ⟨Try.underlying29, by kernel_rfl⟩
theorem ty79 : Ty Try.prog 79 (.struct [{ name := "Place", type := 5, offset := 0, embedded := false, tag := "", pkgPath := "", byteOffset := 0 }, { name := "Data", type := 29, offset := 1, embedded := false, tag := "", pkgPath := "", byteOffset := 8 }].toArray) 2 32 (cat [(Flat.enc (0 : UInt8)), [.slice none 0 0]]) := ⟨Try.underlying79, by kernel_rfl⟩
theorem ty81 : Ty Try.prog 81 (.struct [{ name := "Place", type := 5, offset := 0, embedded := false, tag := "", pkgPath := "", byteOffset := 0 }, { name := "Data", type := 29, offset := 1, embedded := false, tag := "", pkgPath := "", byteOffset := 8 }].toArray) 2 32 (cat [(Flat.enc (0 : UInt8)), [.slice none 0 0]]) := ⟨Try.underlying81, by kernel_rfl⟩
theorem fd79_0 : Fd Try.prog 79 0 0 := fd_mk ty79.und rfl rfl ty5 (by decide)
theorem fd79_1 : Fd Try.prog 79 1 1 := fd_mk ty79.und rfl rfl ty29 (by decide)
theorem fd81_0 : Fd Try.prog 81 0 0 := fd_mk ty81.und rfl rfl ty5 (by decide)
theorem fd81_1 : Fd Try.prog 81 1 1 := fd_mk ty81.und rfl rfl ty29 (by decide)
theorem pl81 : Places Try.prog [{ name := "Place", type := 5, offset := 0, embedded := false, tag := "", pkgPath := "", byteOffset := 0 }, { name := "Data", type := 29, offset := 1, embedded := false, tag := "", pkgPath := "", byteOffset := 8 }] [(0, 1), (1, 1)] := by show _ = _; kernel_rfl
theorem hmix : Try.prog.follows .mixedOrders = true := by kernel_rfl
theorem cb13 : Callable Try.prog 13 := ⟨_, _, Try.func13, by decide, rfl⟩
theorem cb15 : Callable Try.prog 15 := ⟨_, _, Try.func15, by decide, rfl⟩
theorem cb17 : Callable Try.prog 17 := ⟨_, _, Try.func17, by decide, rfl⟩
theorem cb19 : Callable Try.prog 19 := ⟨_, _, Try.func19, by decide, rfl⟩
theorem cb21 : Callable Try.prog 21 := ⟨_, _, Try.func21, by decide, rfl⟩
theorem cb22 : Callable Try.prog 22 := ⟨_, _, Try.func22, by decide, rfl⟩
theorem cb23 : Callable Try.prog 23 := ⟨_, _, Try.func23, by decide, rfl⟩
theorem cb35 : Callable Try.prog 35 := ⟨_, _, Try.func35, by decide, rfl⟩
theorem cb36 : Callable Try.prog 36 := ⟨_, _, Try.func36, by decide, rfl⟩
theorem cb37 : Callable Try.prog 37 := ⟨_, _, Try.func37, by decide, rfl⟩
theorem cb38 : Callable Try.prog 38 := ⟨_, _, Try.func38, by decide, rfl⟩
theorem cb53 : Callable Try.prog 53 := ⟨_, _, Try.func53, by decide, rfl⟩
theorem cb54 : Callable Try.prog 54 := ⟨_, _, Try.func54, by decide, rfl⟩
theorem cb55 : Callable Try.prog 55 := ⟨_, _, Try.func55, by decide, rfl⟩
theorem cb56 : Callable Try.prog 56 := ⟨_, _, Try.func56, by decide, rfl⟩
theorem cb57 : Callable Try.prog 57 := ⟨_, _, Try.func57, by decide, rfl⟩
theorem cb58 : Callable Try.prog 58 := ⟨_, _, Try.func58, by decide, rfl⟩
theorem cb60 : Callable Try.prog 60 := ⟨_, _, Try.func60, by decide, rfl⟩
theorem cb61 : Callable Try.prog 61 := ⟨_, _, Try.func61, by decide, rfl⟩
theorem cb62 : Callable Try.prog 62 := ⟨_, _, Try.func62, by decide, rfl⟩
theorem cb63 : Callable Try.prog 63 := ⟨_, _, Try.func63, by decide, rfl⟩
theorem cb64 : Callable Try.prog 64 := ⟨_, _, Try.func64, by decide, rfl⟩
theorem cb65 : Callable Try.prog 65 := ⟨_, _, Try.func65, by decide, rfl⟩
theorem cb68 : Callable Try.prog 68 := ⟨_, _, Try.func68, by decide, rfl⟩
theorem cb89 : Callable Try.prog 89 := ⟨_, _, Try.func89, by decide, rfl⟩
theorem cb94 : Callable Try.prog 94 := ⟨_, _, Try.func94, by decide, rfl⟩
theorem cb95 : Callable Try.prog 95 := ⟨_, _, Try.func95, by decide, rfl⟩
theorem cb96 : Callable Try.prog 96 := ⟨_, _, Try.func96, by decide, rfl⟩
theorem cb97 : Callable Try.prog 97 := ⟨_, _, Try.func97, by decide, rfl⟩
theorem cb98 : Callable Try.prog 98 := ⟨_, _, Try.func98, by decide, rfl⟩
theorem cb99 : Callable Try.prog 99 := ⟨_, _, Try.func99, by decide, rfl⟩
theorem cb113 : Callable Try.prog 113 := ⟨_, _, Try.func113, by decide, rfl⟩
theorem cb114 : Callable Try.prog 114 := ⟨_, _, Try.func114, by decide, rfl⟩
theorem cb115 : Callable Try.prog 115 := ⟨_, _, Try.func115, by decide, rfl⟩
theorem cb116 : Callable Try.prog 116 := ⟨_, _, Try.func116, by decide, rfl⟩
theorem cb117 : Callable Try.prog 117 := ⟨_, _, Try.func117, by decide, rfl⟩
theorem cb118 : Callable Try.prog 118 := ⟨_, _, Try.func118, by decide, rfl⟩
theorem cb119 : Callable Try.prog 119 := ⟨_, _, Try.func119, by decide, rfl⟩
theorem cb120 : Callable Try.prog 120 := ⟨_, _, Try.func120, by decide, rfl⟩
theorem cb123 : Callable Try.prog 123 := ⟨_, _, Try.func123, by decide, rfl⟩
theorem cb139 : Callable Try.prog 139 := ⟨_, _, Try.func139, by decide, rfl⟩
theorem cb140 : Callable Try.prog 140 := ⟨_, _, Try.func140, by decide, rfl⟩
theorem cb145 : Callable Try.prog 145 := ⟨_, _, Try.func145, by decide, rfl⟩
noncomputable def F_laws_szByteS (p0 : (List UInt8)) (p1 : Int) : Option (Int) :=
  if (decide ((wr (p1 - (p0.length : Int))) < 0)) = true then (some (-1)) else (some (wr (p1 - (p0.length : Int))))
set_option maxRecDepth 20000 in
set_option maxHeartbeats 400000 in
theorem c_laws_szByteS (w0 : World) (p0 : (List UInt8)) (v0_1 : Value) (hv0_1 : Ro w0 p0 [v0_1]) (p1 : Int) (r : Int) (hF : F_laws_szByteS p0 p1 = some r) :
    Calls Try.prog 89 [v0_1, (vI p1)].toArray w0 (fun en w' => ∃ v, en = .returned v ∧ (v = (vI r) ∧ Kept (Old w0) w0 w')) := by
  refine c_enter (n := 12) Try.func89 rfl rfl (Nat.le_of_ble_eq_true rfl) rfl ?_
  intro a hE
  have hM := M.start w0
  unfold F_laws_szByteS at hF
  refine c_region ?_
  refine s_assign hE goes_none (by decide) rfl ?_; intro a hE
  refine c_fin ?_
  refine c_region ?_
  refine s_move hE goes_none (by decide) rfl ?_; intro a hE
  refine s_move hE goes_none (by decide) rfl ?_; intro a hE
  refine s_len hE goes_none (by decide) rfl Try.underlying29 (hM.rd hv0_1) ?_; intro a hE
  refine s_int hE goes_none (by decide) rfl rfl rfl ?_; intro a hE
  refine s_assign hE goes_none (by decide) rfl ?_; intro a hE
  refine c_fin ?_
  refine wp_seq ?_
  refine c_region ?_
  refine s_move hE goes_none (by decide) rfl ?_; intro a hE
  refine s_int hE goes_none (by decide) rfl rfl rfl ?_; intro a hE
  refine c_fin ?_
  refine c_cond hE rfl ?_ ?_
  · intro hb1
    have hF := ite_t hF hb1
    refine c_region ?_
    refine s_assign hE goes_none (by decide) rfl ?_; intro a hE
    refine c_fin ?_
    have hr := Option.some.inj hF
    subst hr
    exact wp_ret (r_then (k_ret1 hE rfl (res_tmp hE rfl) ⟨_, rfl, rfl, hM.kept⟩))
  · intro hb1
    have hF := ite_f hF hb1
    refine wp_skip ?_
    refine c_nx ?_
    refine c_region ?_
    refine s_move hE goes_none (by decide) rfl ?_; intro a hE
    refine s_assign hE goes_none (by decide) rfl ?_; intro a hE
    refine c_fin ?_
    have hr := Option.some.inj hF
    subst hr
    exact wp_ret (k_ret1 hE rfl (res_tmp hE rfl) ⟨_, rfl, rfl, hM.kept⟩)
noncomputable def F_laws_szShare (p0 : GShare) (p1 : Int) : Option (Int) :=
  (F_laws_szByteS p0.Data p1).bind fun (r3 : Int) => if (decide (r3 < 0)) = true then (some (-1)) else (some r3)
set_option maxRecDepth 20000 in
set_option maxHeartbeats 400000 in
theorem c_laws_szShare (w0 : World) (p0 : GShare) (v0_1 : Value) (hv0_1 : Ro w0 p0.Data [v0_1]) (p1 : Int) (r : Int) (hF : F_laws_szShare p0 p1 = some r) :
    Calls Try.prog 53 [(Value.agg (cat [[(vB p0.Place)], [v0_1]]).toArray), (vI p1)].toArray w0 (fun en w' => ∃ v, en = .returned v ∧ (v = (vI r) ∧ Kept (Old w0) w0 w')) := by
  refine c_enter (n := 12) Try.func53 rfl rfl (Nat.le_of_ble_eq_true rfl) rfl ?_
  intro a hE
  have hM := M.start w0
  unfold F_laws_szShare at hF
  refine c_region ?_
  refine s_box (cs := cat [[(vB p0.Place)], [v0_1]]) hE hM goes_none (by decide) rfl rfl ?_; intro b1 w a hM hE
  refine s_assign hE goes_none (by decide) rfl ?_; intro a hE
  refine c_fin ?_
  refine c_region ?_
  refine s_fieldAddr hE goes_none (by decide) rfl (fd79_1) ?_; intro a hE
  refine s_load (v := v0_1) hE goes_none (by decide) rfl ty29 rfl (At.cat (pre := [[(vB p0.Place)]]) (seg := [v0_1]) (post := []) (hM.rawAt (pre := [])) (cl1 (n := 1) (m := 0) rfl cl0)) ?_; intro a hE
  refine s_move hE goes_none (by decide) rfl ?_; intro a hE
  obtain ⟨r3, e4, hF⟩ := bind_some hF
  refine s_call (vs := [v0_1, (vI p1)]) hE goes_none (by decide) rfl cb89 (c_laws_szByteS _ p0.Data v0_1 (hM.rdo hv0_1) p1 r3 e4) ?_
  rintro v w a ⟨rfl, hK⟩ hE
  have hM := hM.keep hK
  refine s_assign hE goes_none (by decide) rfl ?_; intro a hE
  refine c_fin ?_
  refine wp_seq ?_
  refine c_region ?_
  refine s_move hE goes_none (by decide) rfl ?_; intro a hE
  refine s_int hE goes_none (by decide) rfl rfl rfl ?_; intro a hE
  refine c_fin ?_
  refine c_cond hE rfl ?_ ?_
  · intro hb5
    have hF := ite_t hF hb5
    refine c_region ?_
    refine s_assign hE goes_none (by decide) rfl ?_; intro a hE
    refine c_fin ?_
    have hr := Option.some.inj hF
    subst hr
    have hM := M.fst (l := []) hM
    exact wp_ret (r_then (k_ret1 hE rfl (res_tmp hE rfl) ⟨_, rfl, rfl, hM.kept⟩))
  · intro hb5
    have hF := ite_f hF hb5
    refine wp_skip ?_
    refine c_nx ?_
    refine c_region ?_
    refine s_move hE goes_none (by decide) rfl ?_; intro a hE
    refine s_assign hE goes_none (by decide) rfl ?_; intro a hE
    refine c_fin ?_
    have hr := Option.some.inj hF
    subst hr
    have hM := M.fst (l := []) hM
    exact wp_ret (k_ret1 hE rfl (res_tmp hE rfl) ⟨_, rfl, rfl, hM.kept⟩)
noncomputable def L0_laws_szShareS (p0 : (List GShare)) (s6 : Int × Int) : Option (Fl (Int × Int) (Fl Int Int)) :=
  if (decide (s6.2 < (p0.length : Int))) = true then ((idx p0 s6.2).bind fun (x11 : GShare) => (F_laws_szShare x11 s6.1).bind fun (r19 : Int) => if (decide (r19 < 0)) = true then (some (Fl.ex (Fl.ex (-1)))) else (some (Fl.nx (r19, wr (s6.2 + 1))))) else (some (Fl.ex (Fl.nx s6.1)))
noncomputable def F_laws_szShareS (p0 : (List GShare)) (p1 : Int) : Option (Int) :=
  if (decide ((wr (p1 - (p0.length : Int))) < 0)) = true then (some (-1)) else ((iter (L0_laws_szShareS p0) (wr (p1 - (p0.length : Int)), 0) : Option (Fl Int Int)).bind fun (j2 : Fl Int Int) => j2.el (fun (s5 : Int) => some s5) (fun r => some r))
set_option maxRecDepth 20000 in
set_option maxHeartbeats 400000 in
theorem c_laws_szShareS (w0 : World) (p0 : (List GShare)) (v0_1 : Value) (hv0_1 : Ro w0 p0 [v0_1]) (p1 : Int) (r : Int) (hF : F_laws_szShareS p0 p1 = some r) :
    Calls Try.prog 13 [v0_1, (vI p1)].toArray w0 (fun en w' => ∃ v, en = .returned v ∧ (v = (vI r) ∧ Kept (Old w0) w0 w')) := by
  refine c_enter (n := 27) Try.func13 rfl rfl (Nat.le_of_ble_eq_true rfl) rfl ?_
  intro a hE
  have hM := M.start w0
  unfold F_laws_szShareS at hF
  refine c_region ?_
  refine s_assign hE goes_none (by decide) rfl ?_; intro a hE
  refine c_fin ?_
  refine c_region ?_
  refine s_move hE goes_none (by decide) rfl ?_; intro a hE
  refine s_move hE goes_none (by decide) rfl ?_; intro a hE
  refine s_len hE goes_none (by decide) rfl Try.underlying22 (hM.rd hv0_1) ?_; intro a hE
  refine s_int hE goes_none (by decide) rfl rfl rfl ?_; intro a hE
  refine s_assign hE goes_none (by decide) rfl ?_; intro a hE
  refine c_fin ?_
  refine wp_seq ?_
  refine c_region ?_
  refine s_move hE goes_none (by decide) rfl ?_; intro a hE
  refine s_int hE goes_none (by decide) rfl rfl rfl ?_; intro a hE
  refine c_fin ?_
  refine c_cond hE rfl ?_ ?_
  · intro hb1
    have hF := ite_t hF hb1
    refine c_region ?_
    refine s_assign hE goes_none (by decide) rfl ?_; intro a hE
    refine c_fin ?_
    have hr := Option.some.inj hF
    subst hr
    exact wp_ret (r_then (k_ret1 hE rfl (res_tmp hE rfl) ⟨_, rfl, rfl, hM.kept⟩))
  · intro hb1
    have hF := ite_f hF hb1
    refine wp_skip ?_
    refine c_nx ?_
    refine wp_seq ?_
    refine c_region ?_
    refine s_assign hE goes_none (by decide) rfl ?_; intro a hE
    refine c_fin ?_
    obtain ⟨j2, hl3, hF4⟩ := bind_some hF
    refine c_cut (fun a w => ∃ s5 : Int, j2 = Fl.nx s5 ∧ Env 27 a [(1, (vI s5))] ∧ M (Old w0) w0 w []) ?_ ?_
    · skip
      refine wp_block ?_
      refine c_loop (fun (s6 : Int × Int) a w => Env 27 a [(0, v0_1), (1, (vI s6.1)), (5, (vI s6.2))] ∧ M (Old w0) w0 w []) hl3 ⟨hE.sub ⟨rfl, rfl, rfl, trivial⟩, hM⟩ ?_
      rintro s6 a w ⟨hE, hM⟩ o9 hs7 hx8
      unfold L0_laws_szShareS at hs7
      refine wp_seq ?_
      refine c_region ?_
      refine s_move hE goes_none (by decide) rfl ?_; intro a hE
      refine s_move hE goes_none (by decide) rfl ?_; intro a hE
      refine s_len hE goes_none (by decide) rfl Try.underlying22 (hM.rd hv0_1) ?_; intro a hE
      refine s_int hE goes_none (by decide) rfl rfl rfl ?_; intro a hE
      refine c_fin ?_
      refine c_cond hE rfl ?_ ?_
      · intro hb10
        have hs7 := ite_t hs7 hb10
        refine wp_skip ?_
        refine c_nx ?_
        refine wp_seq ?_
        refine wp_block ?_
        refine c_region ?_
        refine s_move hE goes_none (by decide) rfl ?_; intro a hE
        refine s_move hE goes_none (by decide) rfl ?_; intro a hE
        obtain ⟨x11, e12, hs7⟩ := bind_some hs7
        have hi13 := idx_some e12
        refine s_indexS hE goes_none (by decide) rfl rfl Try.underlying22 ty79 (hM.rd hv0_1) hi13.1 ?_; intro a hE
        obtain ⟨cs14, hs15, hA16⟩ := sl_atRo hv0_1 hi13.2 -- ^
        obtain ⟨u17, rfl, h18⟩ := un_GShare hs15 -- ^
        refine s_loadA (cs := cat [[(vB x11.Place)], [u17]]) hE goes_none (by decide) rfl ty79 rfl (hM.atk hA16 (sl_blk hv0_1 hi13.2)) (cat_len (cl1 (n := 1) (m := 1) rfl (cl1 (n := 1) (m := 0) rfl cl0))) ?_; intro a hE
        refine s_move hE goes_none (by decide) rfl ?_; intro a hE
        obtain ⟨r19, e20, hs7⟩ := bind_some hs7
        refine s_call (vs := [(Value.agg (cat [[(vB x11.Place)], [u17]]).toArray), (vI s6.1)]) hE goes_none (by decide) rfl cb53 (c_laws_szShare _ x11 u17 (hM.rdo h18) s6.1 r19 e20) ?_
        rintro v w a ⟨rfl, hK⟩ hE
        have hM := hM.keep hK
        refine s_assign hE goes_none (by decide) rfl ?_; intro a hE
        refine c_fin ?_
        refine c_region ?_
        refine s_move hE goes_none (by decide) rfl ?_; intro a hE
        refine s_int hE goes_none (by decide) rfl rfl rfl ?_; intro a hE
        refine c_fin ?_
        refine c_cond hE rfl ?_ ?_
        · intro hb21
          have hs7 := ite_t hs7 hb21
          refine c_region ?_
          refine s_assign hE goes_none (by decide) rfl ?_; intro a hE
          refine c_fin ?_
          have ht22 := hx8 _ (Option.some.inj hs7).symm
          subst ht22
          have hr := Option.some.inj hF4
          subst hr
          exact wp_ret (r_inb (r_then (r_then (r_inb (r_then (r_then (k_ret1 hE rfl (res_tmp hE rfl) ⟨_, rfl, rfl, hM.kept⟩)))))))
        · intro hb21
          have hs7 := ite_f hs7 hb21
          refine wp_skip ?_
          refine c_nb ?_
          refine c_nx ?_
          refine wp_region_lit ?_
          refine s_move hE goes_none (by decide) rfl ?_; intro a hE
          refine s_int hE goes_none (by decide) rfl rfl rfl ?_; intro a hE
          refine s_assign hE goes_none (by decide) rfl ?_; intro a hE
          refine c_fin0 ?_
          refine c_mid ?_
          exact ⟨_, (Option.some.inj hs7).symm, hE.sub ⟨rfl, rfl, rfl, trivial⟩, hM⟩
      · intro hb10
        have hs7 := ite_f hs7 hb10
        refine wp_exit (e_then (e_then (e_eq ?_)))
        have ht23 := hx8 _ (Option.some.inj hs7).symm
        subst ht23
        refine c_mid ?_
        exact ⟨s6.1, rfl, hE.sub ⟨rfl, trivial⟩, hM⟩
    · skip
      rintro a w ⟨s5, ht, hE, hM⟩
      subst ht
      refine c_nx ?_
      refine c_region ?_
      refine s_move hE goes_none (by decide) rfl ?_; intro a hE
      refine s_assign hE goes_none (by decide) rfl ?_; intro a hE
      refine c_fin ?_
      have hr := Option.some.inj hF4
      subst hr
      exact wp_ret (k_ret1 hE rfl (res_tmp hE rfl) ⟨_, rfl, rfl, hM.kept⟩)
noncomputable def L0_laws_toByteS (p0 : (List UInt8)) (s10 : (List UInt8) × Int) : Option (Fl ((List UInt8) × Int) (List UInt8)) :=
  if (decide (s10.2 < (p0.length : Int))) = true then ((idx p0 s10.2).bind fun (x17 : UInt8) => (idx s10.1 s10.2).bind fun (x20 : UInt8) => some (Fl.nx ((s10.1.set (s10.2).toNat x17), wr (s10.2 + 1)))) else (some (Fl.ex s10.1))
noncomputable def F_laws_toByteS (p0 : (List UInt8)) : Option ((List UInt8)) :=
  (mkS 1 (0 : UInt8) (p0.length : Int)).bind fun (l1 : (List UInt8)) => (iter (L0_laws_toByteS p0) (l1, 0) : Option ((List UInt8))).bind fun (j5 : (List UInt8)) => some j5
set_option maxRecDepth 20000 in
set_option maxHeartbeats 400000 in
theorem c_laws_toByteS (w0 : World) (p0 : (List UInt8)) (v0_1 : Value) (hv0_1 : Ro w0 p0 [v0_1]) (r : (List UInt8)) (hF : F_laws_toByteS p0 = some r) :
    Calls Try.prog 19 [v0_1].toArray w0 (fun en w' => ∃ v, en = .returned v ∧ (∃ (y1 : Value), v = y1 ∧ Fr w0 w' [osl NoB (r : List UInt8) y1] ∧ Kept (Old w0) w0 w')) := by
  refine c_enter (n := 22) Try.func19 rfl rfl (Nat.le_of_ble_eq_true rfl) rfl ?_
  intro a hE
  have hM := M.start w0
  unfold F_laws_toByteS at hF
  refine c_region ?_
  refine s_assign hE goes_none (by decide) rfl ?_; intro a hE
  refine c_fin ?_
  refine c_region ?_
  refine s_move hE goes_none (by decide) rfl ?_; intro a hE
  refine s_len hE goes_none (by decide) rfl Try.underlying29 (hM.rd hv0_1) ?_; intro a hE
  obtain ⟨l1, e2, hF⟩ := bind_some hF
  refine s_make hE hM goes_none (by decide) rfl rfl Try.underlying29 ty5 rfl (by decide) (fun _ => sat_flat.2 ⟨rfl, rfl⟩) e2 ?_; intro u3 w a hM hE
  refine s_assign hE goes_none (by decide) rfl ?_; intro a hE
  refine c_fin ?_
  refine wp_seq ?_
  refine c_region ?_
  refine s_assign hE goes_none (by decide) rfl ?_; intro a hE
  refine c_fin ?_
  obtain ⟨j5, hl6, hF7⟩ := bind_some hF
  refine c_cut (fun a w => ∃ (u8 : Value), Env 22 a [(3, u8)] ∧ M (Old w0) w0 w [osl NoB (j5 : List UInt8) u8]) ?_ ?_
  · skip
    refine wp_block ?_
    refine c_loop (fun (s10 : (List UInt8) × Int) a w => ∃ (u11 : Value), Env 22 a [(0, v0_1), (3, u11), (4, (vI s10.2))] ∧ M (Old w0) w0 w [osl NoB (s10.1 : List UInt8) u11]) hl6 ⟨u3, hE.sub ⟨rfl, rfl, rfl, trivial⟩, hM⟩ ?_
    rintro s10 a w ⟨u11, hE, hM⟩ o15 hs13 hx14
    unfold L0_laws_toByteS at hs13
    refine wp_seq ?_
    refine c_region ?_
    refine s_move hE goes_none (by decide) rfl ?_; intro a hE
    refine s_move hE goes_none (by decide) rfl ?_; intro a hE
    refine s_len hE goes_none (by decide) rfl Try.underlying29 (hM.rd hv0_1) ?_; intro a hE
    refine s_int hE goes_none (by decide) rfl rfl rfl ?_; intro a hE
    refine c_fin ?_
    refine c_cond hE rfl ?_ ?_
    · intro hb16
      have hs13 := ite_t hs13 hb16
      refine wp_skip ?_
      refine c_nx ?_
      refine wp_seq ?_
      refine wp_block ?_
      refine wp_region_lit ?_
      refine s_move hE goes_none (by decide) rfl ?_; intro a hE
      refine s_move hE goes_none (by decide) rfl ?_; intro a hE
      refine s_move hE goes_none (by decide) rfl ?_; intro a hE
      refine s_move hE goes_none (by decide) rfl ?_; intro a hE
      obtain ⟨x17, e18, hs13⟩ := bind_some hs13
      have hi19 := idx_some e18
      refine s_indexS hE goes_none (by decide) rfl rfl Try.underlying29 ty5 (hM.rd hv0_1) hi19.1 ?_; intro a hE
      refine s_load (v := (vB x17)) hE goes_none (by decide) rfl ty5 rfl (sl_atF (hM.rd hv0_1) hi19.2) ?_; intro a hE
      obtain ⟨x20, e21, hs13⟩ := bind_some hs13
      have hi22 := idx_some e21
      refine s_indexS hE goes_none (by decide) rfl rfl Try.underlying29 ty5 (hM.sl (pre := []) noB) hi22.1 ?_; intro a hE
      refine s_storeS (i := (s10.2).toNat) (k0 := 0) (seg := [(vB x17)]) (xo := x20) (xn := x17) hE hM goes_none rfl rfl rfl ty5 rfl (Flat.cell (x17 : UInt8)) hi22.2 (fit_num (m := 1) rfl (by decide)) (splice_all (Eq.trans rfl (Eq.symm rfl))) ?_; intro w a hM hE
      refine c_fin0 ?_
      refine c_nb ?_
      refine c_nx ?_
      refine wp_region_lit ?_
      refine s_move hE goes_none (by decide) rfl ?_; intro a hE
      refine s_int hE goes_none (by decide) rfl rfl rfl ?_; intro a hE
      refine s_assign hE goes_none (by decide) rfl ?_; intro a hE
      refine c_fin0 ?_
      refine c_mid ?_
      exact ⟨_, (Option.some.inj hs13).symm, u11, hE.sub ⟨rfl, rfl, rfl, trivial⟩, hM⟩
    · intro hb16
      have hs13 := ite_f hs13 hb16
      refine wp_exit (e_then (e_then (e_eq ?_)))
      have ht23 := hx14 _ (Option.some.inj hs13).symm
      subst ht23
      refine c_mid ?_
      exact ⟨u11, hE.sub ⟨rfl, trivial⟩, hM⟩
  · skip
    rintro a w ⟨u8, hE, hM⟩
    refine c_nx ?_
    refine c_region ?_
    refine s_move hE goes_none (by decide) rfl ?_; intro a hE
    refine s_assign hE goes_none (by decide) rfl ?_; intro a hE
    refine c_fin ?_
    have hr := Option.some.inj hF7
    subst hr
    exact wp_ret (k_ret1 hE rfl (res_tmp hE rfl) ⟨_, rfl, u8, rfl, hM.outF (locN1 locN0), hM.kept⟩)
noncomputable def F_laws_toShare (p0 : GShare) : Option (GShare) :=
  (F_laws_toByteS p0.Data).bind fun (r7 : (List UInt8)) => some (⟨p0.Place, r7⟩ : GShare)
set_option maxRecDepth 20000 in
set_option maxHeartbeats 400000 in
theorem c_laws_toShare (w0 : World) (p0 : GShare) (v0_1 : Value) (hv0_1 : Ro w0 p0.Data [v0_1]) (r : GShare) (hF : F_laws_toShare p0 = some r) :
    Calls Try.prog 55 [(Value.agg (cat [[(vB p0.Place)], [v0_1]]).toArray)].toArray w0 (fun en w' => ∃ v, en = .returned v ∧ (∃ (y1 : Value), v = (Value.agg (cat [[(vB r.Place)], [y1]]).toArray) ∧ Fr w0 w' [osl NoB (r.Data : List UInt8) y1] ∧ Kept (Old w0) w0 w')) := by
  refine c_enter (n := 12) Try.func55 rfl rfl (Nat.le_of_ble_eq_true rfl) rfl ?_
  intro a hE
  have hM := M.start w0
  unfold F_laws_toShare at hF
  refine c_region ?_
  refine s_box (cs := cat [[(vB p0.Place)], [v0_1]]) hE hM goes_none (by decide) rfl rfl ?_; intro b1 w a hM hE
  refine s_alloc hE hM goes_none (by decide) ty81 ?_; intro b3 w a hM hE
  refine c_fin ?_
  refine c_region ?_
  refine s_alloc hE hM goes_none (by decide) ty81 ?_; intro b5 w a hM hE
  refine c_fin ?_
  refine c_region ?_
  refine s_fieldAddr hE goes_none (by decide) rfl (fd79_0) ?_; intro a hE
  refine s_load (v := (vB p0.Place)) hE goes_none (by decide) rfl ty5 rfl (At.cat (pre := []) (seg := [(vB p0.Place)]) (post := [[v0_1]]) (hM.rawAt (pre := [_, _])) cl0) ?_; intro a hE
  refine s_fieldAddr hE goes_none (by decide) rfl (fd81_0) ?_; intro a hE
  refine s_store (seg := [(vB p0.Place)]) (cs' := cat [[(vB p0.Place)], [(Value.slice none 0 0)]]) hE hM goes_none rfl rfl rfl ty5 rfl (fit_cat (pre := []) (seg := [(vB 0)]) (post := [[(Value.slice none 0 0)]]) cl0 (Eq.trans rfl (Eq.symm rfl))) (Flat.cell (p0.Place : UInt8)) (splice_cat (pre := []) (seg := [(vB 0)]) (post := [[(Value.slice none 0 0)]]) cl0 (Eq.trans rfl (Eq.symm rfl))) ?_; intro w a hM hE
  refine c_fin ?_
  refine c_region ?_
  refine s_fieldAddr hE goes_none (by decide) rfl (fd79_1) ?_; intro a hE
  refine s_load (v := v0_1) hE goes_none (by decide) rfl ty29 rfl (At.cat (pre := [[(vB p0.Place)]]) (seg := [v0_1]) (post := []) (hM.rawAt (pre := [_, _])) (cl1 (n := 1) (m := 0) rfl cl0)) ?_; intro a hE
  obtain ⟨r7, e8, hF⟩ := bind_some hF
  refine s_call (vs := [v0_1]) hE goes_none (by decide) rfl cb19 (c_laws_toByteS _ p0.Data v0_1 (hM.rdo hv0_1) r7 e8) ?_
  rintro u9 w a ⟨_, rfl, hFr, hK⟩ hE
  have hM := hM.add hK hFr
  refine s_fieldAddr hE goes_none (by decide) rfl (fd81_1) ?_; intro a hE
  have hM := hM.pull (pre := [_])
  refine s_store (seg := [u9]) (cs' := cat [[(vB p0.Place)], [u9]]) hE hM goes_none rfl rfl (sl_cells (hM.sl (pre := [_]) noB)) ty29 rfl (fit_cat (pre := [[(vB p0.Place)]]) (seg := [(Value.slice none 0 0)]) (post := []) (cl1 (n := 1) (m := 0) rfl cl0) (Eq.trans rfl (Eq.symm rfl))) (Rep.cell (hM.sl (pre := [_]) noB)) (splice_cat (pre := [[(vB p0.Place)]]) (seg := [(Value.slice none 0 0)]) (post := []) (cl1 (n := 1) (m := 0) rfl cl0) (Eq.trans rfl (Eq.symm rfl))) ?_; intro w a hM hE
  refine c_fin ?_
  refine c_region ?_
  refine s_loadA (cs := cat [[(vB p0.Place)], [u9]]) hE goes_none (by decide) rfl ty81 rfl (hM.rawAt (pre := [])) (cat_len (cl1 (n := 1) (m := 1) rfl (cl1 (n := 1) (m := 0) rfl cl0))) ?_; intro a hE
  have hM := hM.pull (pre := [_, _])
  refine s_store (seg := cat [[(vB p0.Place)], [u9]]) (cs' := cat [[(vB p0.Place)], [u9]]) hE hM goes_none rfl rfl rfl ty81 (cat_len (cl1 (n := 1) (m := 1) rfl (cl1 (n := 1) (m := 0) rfl cl0))) (Nat.le_of_eq ((Nat.zero_add _).trans (Eq.trans (cat_len (cl1 (n := 1) (m := 1) rfl (cl1 (n := 1) (m := 0) rfl cl0))) (Eq.symm (cat_len (cl1 (n := 1) (m := 1) rfl (cl1 (n := 1) (m := 0) rfl cl0))))))) (cat_cell (cc1 (Flat.cell (p0.Place : UInt8)) (cc1 (Rep.cell (hM.sl (pre := [_, _]) noB)) cc0))) (splice_all (Eq.trans (cat_len (cl1 (n := 1) (m := 1) rfl (cl1 (n := 1) (m := 0) rfl cl0))) (Eq.symm (cat_len (cl1 (n := 1) (m := 1) rfl (cl1 (n := 1) (m := 0) rfl cl0)))))) ?_; intro w a hM hE
  refine c_fin ?_
  have hr := Option.some.inj hF
  subst hr
  have hq10 : ResIs Try.prog _ _ (.cell 2 81) _ := res_cell hE rfl ty81 rfl (hM.rawAt (pre := [])) (cat_len (cl1 (n := 1) (m := 1) rfl (cl1 (n := 1) (m := 0) rfl cl0))) rfl
  have hM := hM.pull (pre := [_, _])
  have hM := M.fst (l := [_]) hM
  exact wp_ret (k_ret1 hE rfl hq10 ⟨_, rfl, u9, rfl, hM.outF (locN1 locN0), hM.kept⟩)
noncomputable def L0_laws_toShareS (p0 : (List GShare)) (s10 : (List GShare) × Int) : Option (Fl ((List GShare) × Int) (List GShare)) :=
  if (decide (s10.2 < (p0.length : Int))) = true then ((idx p0 s10.2).bind fun (x17 : GShare) => (F_laws_toShare x17).bind fun (r25 : GShare) => (idx s10.1 s10.2).bind fun (x28 : GShare) => some (Fl.nx ((s10.1.set (s10.2).toNat r25), wr (s10.2 + 1)))) else (some (Fl.ex s10.1))
noncomputable def F_laws_toShareS (p0 : (List GShare)) : Option ((List GShare)) :=
  (mkS 32 (⟨(0 : UInt8), ([] : (List UInt8))⟩ : GShare) (p0.length : Int)).bind fun (l1 : (List GShare)) => (iter (L0_laws_toShareS p0) (l1, 0) : Option ((List GShare))).bind fun (j5 : (List GShare)) => some j5
set_option maxRecDepth 20000 in
set_option maxHeartbeats 400000 in
theorem c_laws_toShareS (w0 : World) (p0 : (List GShare)) (v0_1 : Value) (hv0_1 : Ro w0 p0 [v0_1]) (r : (List GShare)) (hF : F_laws_toShareS p0 = some r) :
    Calls Try.prog 15 [v0_1].toArray w0 (fun en w' => ∃ v, en = .returned v ∧ (∃ (y1 : Value), v = y1 ∧ Fr w0 w' [osl NoB (r : List GShare) y1] ∧ Kept (Old w0) w0 w')) := by
  refine c_enter (n := 23) Try.func15 rfl rfl (Nat.le_of_ble_eq_true rfl) rfl ?_
  intro a hE
  have hM := M.start w0
  unfold F_laws_toShareS at hF
  refine c_region ?_
  refine s_assign hE goes_none (by decide) rfl ?_; intro a hE
  refine c_fin ?_
  refine c_region ?_
  refine s_move hE goes_none (by decide) rfl ?_; intro a hE
  refine s_len hE goes_none (by decide) rfl Try.underlying22 (hM.rd hv0_1) ?_; intro a hE
  obtain ⟨l1, e2, hF⟩ := bind_some hF
  refine s_make hE hM goes_none (by decide) rfl rfl Try.underlying25 ty81 rfl (by decide) zsat_GShare e2 ?_; intro u3 w a hM hE
  refine s_assign hE goes_none (by decide) rfl ?_; intro a hE
  refine c_fin ?_
  refine wp_seq ?_
  refine c_region ?_
  refine s_assign hE goes_none (by decide) rfl ?_; intro a hE
  refine c_fin ?_
  obtain ⟨j5, hl6, hF7⟩ := bind_some hF
  refine c_cut (fun a w => ∃ (u8 : Value), Env 23 a [(3, u8)] ∧ M (Old w0) w0 w [osl NoB (j5 : List GShare) u8]) ?_ ?_
  · skip
    refine wp_block ?_
    refine c_loop (fun (s10 : (List GShare) × Int) a w => ∃ (u11 : Value), Env 23 a [(0, v0_1), (3, u11), (4, (vI s10.2))] ∧ M (Old w0) w0 w [osl NoB (s10.1 : List GShare) u11]) hl6 ⟨u3, hE.sub ⟨rfl, rfl, rfl, trivial⟩, hM⟩ ?_
    rintro s10 a w ⟨u11, hE, hM⟩ o15 hs13 hx14
    unfold L0_laws_toShareS at hs13
    refine wp_seq ?_
    refine c_region ?_
    refine s_move hE goes_none (by decide) rfl ?_; intro a hE
    refine s_move hE goes_none (by decide) rfl ?_; intro a hE
    refine s_len hE goes_none (by decide) rfl Try.underlying22 (hM.rd hv0_1) ?_; intro a hE
    refine s_int hE goes_none (by decide) rfl rfl rfl ?_; intro a hE
    refine c_fin ?_
    refine c_cond hE rfl ?_ ?_
    · intro hb16
      have hs13 := ite_t hs13 hb16
      refine wp_skip ?_
      refine c_nx ?_
      refine wp_seq ?_
      refine wp_block ?_
      refine wp_region_lit ?_
      refine s_move hE goes_none (by decide) rfl ?_; intro a hE
      refine s_move hE goes_none (by decide) rfl ?_; intro a hE
      refine s_move hE goes_none (by decide) rfl ?_; intro a hE
      refine s_move hE goes_none (by decide) rfl ?_; intro a hE
      obtain ⟨x17, e18, hs13⟩ := bind_some hs13
      have hi19 := idx_some e18
      refine s_indexS hE goes_none (by decide) rfl rfl Try.underlying22 ty79 (hM.rd hv0_1) hi19.1 ?_; intro a hE
      obtain ⟨cs20, hs21, hA22⟩ := sl_atRo hv0_1 hi19.2 -- ^
      obtain ⟨u23, rfl, h24⟩ := un_GShare hs21 -- ^
      refine s_loadA (cs := cat [[(vB x17.Place)], [u23]]) hE goes_none (by decide) rfl ty79 rfl (hM.atk hA22 (sl_blk hv0_1 hi19.2)) (cat_len (cl1 (n := 1) (m := 1) rfl (cl1 (n := 1) (m := 0) rfl cl0))) ?_; intro a hE
      obtain ⟨r25, e26, hs13⟩ := bind_some hs13
      refine s_call (vs := [(Value.agg (cat [[(vB x17.Place)], [u23]]).toArray)]) hE goes_none (by decide) rfl cb55 (c_laws_toShare _ x17 u23 (hM.rdo h24) r25 e26) ?_
      rintro v w a ⟨u27, rfl, hFr, hK⟩ hE
      have hM := hM.add hK hFr
      obtain ⟨x28, e29, hs13⟩ := bind_some hs13
      have hi30 := idx_some e29
      refine s_indexS hE goes_none (by decide) rfl rfl Try.underlying25 ty81 (hM.sl (pre := [_]) noB) hi30.1 ?_; intro a hE
      have hM := hM.pack1 (it := own NoB r25 (cat [[(vB r25.Place)], [u27]])) (own_loc noB) (fun f0 q0 => (pk_GShare (OwnSl.sat q0) (by simp)))
      have hM := hM.pull (pre := [_])
      have hM := hM.pull (pre := [_])
      refine s_storeR (i := (s10.2).toNat) (seg := cat [[(vB r25.Place)], [u27]]) hE hM noB goes_none rfl rfl rfl ty81 (by omega) ?_; intro w a hM hE
      refine c_fin0 ?_
      refine c_nb ?_
      refine c_nx ?_
      refine wp_region_lit ?_
      refine s_move hE goes_none (by decide) rfl ?_; intro a hE
      refine s_int hE goes_none (by decide) rfl rfl rfl ?_; intro a hE
      refine s_assign hE goes_none (by decide) rfl ?_; intro a hE
      refine c_fin0 ?_
      refine c_mid ?_
      exact ⟨_, (Option.some.inj hs13).symm, u11, hE.sub ⟨rfl, rfl, rfl, trivial⟩, hM⟩
    · intro hb16
      have hs13 := ite_f hs13 hb16
      refine wp_exit (e_then (e_then (e_eq ?_)))
      have ht31 := hx14 _ (Option.some.inj hs13).symm
      subst ht31
      refine c_mid ?_
      exact ⟨u11, hE.sub ⟨rfl, trivial⟩, hM⟩
  · skip
    rintro a w ⟨u8, hE, hM⟩
    refine c_nx ?_
    refine c_region ?_
    refine s_move hE goes_none (by decide) rfl ?_; intro a hE
    refine s_assign hE goes_none (by decide) rfl ?_; intro a hE
    refine c_fin ?_
    have hr := Option.some.inj hF7
    subst hr
    exact wp_ret (k_ret1 hE rfl (res_tmp hE rfl) ⟨_, rfl, u8, rfl, hM.outF (locN1 locN0), hM.kept⟩)
noncomputable def F_spec_l01In (p0 : Int) (p1 : Int) (p2 : Int) : Option (Bool) :=
  (if (decide (p0 ≥ p1)) = true then (some (decide (p0 ≤ p2))) else (some false) : Option (Bool)).bind fun (j1 : Bool) => some j1
set_option maxRecDepth 20000 in
set_option maxHeartbeats 400000 in
theorem c_spec_l01In (w0 : World) (p0 : Int) (p1 : Int) (p2 : Int) (r : Bool) (hF : F_spec_l01In p0 p1 p2 = some r) :
    Calls Try.prog 118 [(vI p0), (vI p1), (vI p2)].toArray w0 (fun en w' => ∃ v, en = .returned v ∧ (v = (vT r) ∧ Kept (Old w0) w0 w')) := by
  refine c_enter (n := 15) Try.func118 rfl rfl (Nat.le_of_ble_eq_true rfl) rfl ?_
  intro a hE
  have hM := M.start w0
  unfold F_spec_l01In at hF
  refine c_region ?_
  refine s_assign hE goes_none (by decide) rfl ?_; intro a hE
  refine c_fin ?_
  obtain ⟨j1, hl2, hF3⟩ := bind_some hF
  refine c_join (fun a w => Env 15 a [(6, (vT j1))] ∧ M (Old w0) w0 w []) ?_ ?_
  · skip
    refine wp_region_lit ?_
    refine s_move hE goes_none (by decide) rfl ?_; intro a hE
    refine s_move hE goes_none (by decide) rfl ?_; intro a hE
    refine s_int hE goes_none (by decide) rfl rfl rfl ?_; intro a hE
    refine s_move hE goes_none (by decide) rfl ?_; intro a hE
    refine splitB (decide (p0 ≥ p1)) (fun hb4 => ?_) (fun hb4 => ?_)
    · have hl2 := ite_t hl2 hb4
      refine s_move hE (goes_yes hE rfl (lkb rfl hb4)) (by decide) rfl ?_; intro a hE
      refine s_move hE (goes_yes hE rfl (lkb rfl hb4)) (by decide) rfl ?_; intro a hE
      refine s_int hE (goes_yes hE rfl (lkb rfl hb4)) (by decide) rfl rfl rfl ?_; intro a hE
      refine s_pickT hE goes_none (by decide) (lkb rfl hb4) rfl ?_; intro a hE
      refine s_assign hE goes_none (by decide) rfl ?_; intro a hE
      refine c_fin0 ?_
      have ht5 := Option.some.inj hl2
      subst ht5
      refine c_mid ?_
      exact ⟨hE.sub ⟨rfl, trivial⟩, hM⟩
    · have hl2 := ite_f hl2 hb4
      refine s_skip hE rfl (lkb rfl hb4) rfl (by decide) ?_; intro a hE
      refine s_skip hE rfl (lkb rfl hb4) rfl (by decide) ?_; intro a hE
      refine s_skip hE rfl (lkb rfl hb4) rfl (by decide) ?_; intro a hE
      refine s_pickF hE goes_none (by decide) (lkb rfl hb4) rfl ?_; intro a hE
      refine s_assign hE goes_none (by decide) rfl ?_; intro a hE
      refine c_fin0 ?_
      have ht6 := Option.some.inj hl2
      subst ht6
      refine c_mid ?_
      exact ⟨hE.sub ⟨rfl, trivial⟩, hM⟩
  · skip
    rintro a w ⟨hE, hM⟩
    have hr := Option.some.inj hF3
    subst hr
    exact wp_ret (k_ret1 hE rfl (res_tmp hE rfl) ⟨_, rfl, rfl, hM.kept⟩)
noncomputable def L0_spec_l01Length (s4 : Int × Int) : Option (Fl (Int × Int) Int) :=
  if (decide (s4.1 > 0)) = true then (some (Fl.nx (wr (Int.tdiv s4.1 2), wr (s4.2 + 1)))) else (some (Fl.ex s4.2))
noncomputable def F_spec_l01Length (p0 : Int) : Option (Int) :=
  (iter (L0_spec_l01Length) (p0, 0) : Option (Int)).bind fun (j1 : Int) => some j1
set_option maxRecDepth 20000 in
set_option maxHeartbeats 400000 in
theorem c_spec_l01Length (w0 : World) (p0 : Int) (r : Int) (hF : F_spec_l01Length p0 = some r) :
    Calls Try.prog 145 [(vI p0)].toArray w0 (fun en w' => ∃ v, en = .returned v ∧ (v = (vI r) ∧ Kept (Old w0) w0 w')) := by
  refine c_enter (n := 11) Try.func145 rfl rfl (Nat.le_of_ble_eq_true rfl) rfl ?_
  intro a hE
  have hM := M.start w0
  unfold F_spec_l01Length at hF
  refine c_region ?_
  refine s_assign hE goes_none (by decide) rfl ?_; intro a hE
  refine c_fin ?_
  refine c_region ?_
  refine s_assign hE goes_none (by decide) rfl ?_; intro a hE
  refine c_fin ?_
  obtain ⟨j1, hl2, hF3⟩ := bind_some hF
  refine c_join (fun a w => Env 11 a [(3, (vI j1))] ∧ M (Old w0) w0 w []) ?_ ?_
  · skip
    refine wp_block ?_
    refine c_loop (fun (s4 : Int × Int) a w => Env 11 a [(0, (vI s4.1)), (3, (vI s4.2))] ∧ M (Old w0) w0 w []) hl2 ⟨hE.sub ⟨rfl, rfl, trivial⟩, hM⟩ ?_
    rintro s4 a w ⟨hE, hM⟩ o7 hs5 hx6
    unfold L0_spec_l01Length at hs5
    refine wp_seq ?_
    refine c_region ?_
    refine s_move hE goes_none (by decide) rfl ?_; intro a hE
    refine s_int hE goes_none (by decide) rfl rfl rfl ?_; intro a hE
    refine c_fin ?_
    refine c_cond hE rfl ?_ ?_
    · intro hb8
      have hs5 := ite_t hs5 hb8
      refine wp_skip ?_
      refine c_nx ?_
      refine wp_seq ?_
      refine wp_block ?_
      refine wp_region_lit ?_
      refine s_move hE goes_none (by decide) rfl ?_; intro a hE
      refine s_int hE goes_none (by decide) rfl rfl rfl ?_; intro a hE
      refine s_assign hE goes_none (by decide) rfl ?_; intro a hE
      refine c_fin0 ?_
      refine c_nb ?_
      refine c_nx ?_
      refine wp_region_lit ?_
      refine s_move hE goes_none (by decide) rfl ?_; intro a hE
      refine s_int hE goes_none (by decide) rfl rfl (bI_quo _ _ (by decide)) ?_; intro a hE
      refine s_assign hE goes_none (by decide) rfl ?_; intro a hE
      refine c_fin0 ?_
      refine c_mid ?_
      exact ⟨_, (Option.some.inj hs5).symm, hE.sub ⟨rfl, rfl, trivial⟩, hM⟩
    · intro hb8
      have hs5 := ite_f hs5 hb8
      refine wp_exit (e_then (e_then (e_eq ?_)))
      have ht9 := hx6 _ (Option.some.inj hs5).symm
      subst ht9
      refine c_mid ?_
      exact ⟨hE.sub ⟨rfl, trivial⟩, hM⟩
  · skip
    rintro a w ⟨hE, hM⟩
    refine c_region ?_
    refine s_move hE goes_none (by decide) rfl ?_; intro a hE
    refine s_assign hE goes_none (by decide) rfl ?_; intro a hE
    refine c_fin ?_
    have hr := Option.some.inj hF3
    subst hr
    exact wp_ret (k_ret1 hE rfl (res_tmp hE rfl) ⟨_, rfl, rfl, hM.kept⟩)
noncomputable def L0_spec_l01Rest (p1 : Int) (r1 : Int) (s8 : Int × Int) : Option (Fl (Int × Int) Int) :=
  if (decide (s8.2 ≥ r1)) = true then ((nonneg (IntKind.u64.wrap (wr (s8.2 - r1)))).bind fun _ => (F_spec_l01Length (xorI s8.1 (shlI p1 (IntKind.u64.wrap (wr (s8.2 - r1)))))).bind fun (r14 : Int) => some (Fl.nx (xorI s8.1 (shlI p1 (IntKind.u64.wrap (wr (s8.2 - r1)))), r14))) else (some (Fl.ex s8.1))
noncomputable def F_spec_l01Rest (p0 : Int) (p1 : Int) : Option (Int) :=
  (F_spec_l01Length p1).bind fun (r1 : Int) => (F_spec_l01Length p0).bind fun (r3 : Int) => (iter (L0_spec_l01Rest p1 r1) (p0, r3) : Option (Int)).bind fun (j5 : Int) => some j5
set_option maxRecDepth 20000 in
set_option maxHeartbeats 400000 in
theorem c_spec_l01Rest (w0 : World) (p0 : Int) (p1 : Int) (r : Int) (hF : F_spec_l01Rest p0 p1 = some r) :
    Calls Try.prog 119 [(vI p0), (vI p1)].toArray w0 (fun en w' => ∃ v, en = .returned v ∧ (v = (vI r) ∧ Kept (Old w0) w0 w')) := by
  refine c_enter (n := 25) Try.func119 rfl rfl (Nat.le_of_ble_eq_true rfl) rfl ?_
  intro a hE
  have hM := M.start w0
  unfold F_spec_l01Rest at hF
  refine c_region ?_
  refine s_assign hE goes_none (by decide) rfl ?_; intro a hE
  refine c_fin ?_
  refine c_region ?_
  refine s_move hE goes_none (by decide) rfl ?_; intro a hE
  obtain ⟨r1, e2, hF⟩ := bind_some hF
  refine s_call (vs := [(vI p1)]) hE goes_none (by decide) rfl cb145 (c_spec_l01Length _ p1 r1 e2) ?_
  rintro v w a ⟨rfl, hK⟩ hE
  have hM := hM.keep hK
  refine s_assign hE goes_none (by decide) rfl ?_; intro a hE
  refine c_fin ?_
  refine wp_seq ?_
  refine c_region ?_
  refine s_move hE goes_none (by decide) rfl ?_; intro a hE
  obtain ⟨r3, e4, hF⟩ := bind_some hF
  refine s_call (vs := [(vI p0)]) hE goes_none (by decide) rfl cb145 (c_spec_l01Length _ p0 r3 e4) ?_
  rintro v w a ⟨rfl, hK⟩ hE
  have hM := hM.keep hK
  refine s_assign hE goes_none (by decide) rfl ?_; intro a hE
  refine c_fin ?_
  obtain ⟨j5, hl6, hF7⟩ := bind_some hF
  refine c_cut (fun a w => Env 25 a [(0, (vI j5))] ∧ M (Old w0) w0 w []) ?_ ?_
  · skip
    refine wp_block ?_
    refine c_loop (fun (s8 : Int × Int) a w => Env 25 a [(0, (vI s8.1)), (1, (vI p1)), (5, (vI r1)), (6, (vI s8.2))] ∧ M (Old w0) w0 w []) hl6 ⟨hE.sub ⟨rfl, rfl, rfl, rfl, trivial⟩, hM⟩ ?_
    rintro s8 a w ⟨hE, hM⟩ o11 hs9 hx10
    unfold L0_spec_l01Rest at hs9
    refine wp_seq ?_
    refine c_region ?_
    refine s_move hE goes_none (by decide) rfl ?_; intro a hE
    refine s_move hE goes_none (by decide) rfl ?_; intro a hE
    refine s_int hE goes_none (by decide) rfl rfl rfl ?_; intro a hE
    refine c_fin ?_
    refine c_cond hE rfl ?_ ?_
    · intro hb12
      have hs9 := ite_t hs9 hb12
      refine wp_skip ?_
      refine c_nx ?_
      refine wp_seq ?_
      refine wp_block ?_
      refine wp_region_lit ?_
      refine s_move hE goes_none (by decide) rfl ?_; intro a hE
      refine s_move hE goes_none (by decide) rfl ?_; intro a hE
      refine s_move hE goes_none (by decide) rfl ?_; intro a hE
      refine s_move hE goes_none (by decide) rfl ?_; intro a hE
      refine s_int hE goes_none (by decide) rfl rfl rfl ?_; intro a hE
      refine s_conv hE goes_none (by decide) rfl Try.underlying2 Try.underlying158 ?_; intro a hE
      obtain ⟨_, e13, hs9⟩ := bind_some hs9
      have e13 := nonneg_some e13
      refine s_sh hE goes_none (by decide) rfl rfl (bI_shl _ _ e13) ?_; intro a hE
      refine s_int hE goes_none (by decide) rfl rfl rfl ?_; intro a hE
      refine s_assign hE goes_none (by decide) rfl ?_; intro a hE
      refine c_fin0 ?_
      refine c_nb ?_
      refine c_nx ?_
      refine wp_region_lit ?_
      refine s_move hE goes_none (by decide) rfl ?_; intro a hE
      obtain ⟨r14, e15, hs9⟩ := bind_some hs9
      refine s_call (vs := [(vI (xorI s8.1 (shlI p1 (IntKind.u64.wrap (wr (s8.2 - r1))))))]) hE goes_none (by decide) rfl cb145 (c_spec_l01Length _ (xorI s8.1 (shlI p1 (IntKind.u64.wrap (wr (s8.2 - r1))))) r14 e15) ?_
      rintro v w a ⟨rfl, hK⟩ hE
      have hM := hM.keep hK
      refine s_assign hE goes_none (by decide) rfl ?_; intro a hE
      refine c_fin0 ?_
      refine c_mid ?_
      exact ⟨_, (Option.some.inj hs9).symm, hE.sub ⟨rfl, rfl, rfl, rfl, trivial⟩, hM⟩
    · intro hb12
      have hs9 := ite_f hs9 hb12
      refine wp_exit (e_then (e_then (e_eq ?_)))
      have ht16 := hx10 _ (Option.some.inj hs9).symm
      subst ht16
      refine c_mid ?_
      exact ⟨hE.sub ⟨rfl, trivial⟩, hM⟩
  · skip
    rintro a w ⟨hE, hM⟩
    refine c_nx ?_
    refine c_region ?_
    refine s_move hE goes_none (by decide) rfl ?_; intro a hE
    refine s_assign hE goes_none (by decide) rfl ?_; intro a hE
    refine c_fin ?_
    have hr := Option.some.inj hF7
    subst hr
    exact wp_ret (k_ret1 hE rfl (res_tmp hE rfl) ⟨_, rfl, rfl, hM.kept⟩)
noncomputable def L0_spec_l01Field (p0 : Int) (s8 : Int) : Option (Fl Int (Fl Unit Bool)) :=
  if (decide (s8 < 32)) = true then ((F_spec_l01Rest p0 s8).bind fun (r13 : Int) => if (r13 == 0) = true then (some (Fl.ex (Fl.ex false))) else (some (Fl.nx (wr (s8 + 1))))) else (some (Fl.ex (Fl.nx ())))
noncomputable def F_spec_l01Field (p0 : Int) : Option (Bool) :=
  (F_spec_l01In p0 256 511).bind fun (r1 : Bool) => if (!r1) = true then (some false) else ((iter (L0_spec_l01Field p0) 2 : Option (Fl Unit Bool)).bind fun (j4 : Fl Unit Bool) => j4.el (fun (s7 : Unit) => some true) (fun r => some r))
set_option maxRecDepth 20000 in
set_option maxHeartbeats 400000 in
theorem c_spec_l01Field (w0 : World) (p0 : Int) (r : Bool) (hF : F_spec_l01Field p0 = some r) :
    Calls Try.prog 65 [(vI p0)].toArray w0 (fun en w' => ∃ v, en = .returned v ∧ (v = (vT r) ∧ Kept (Old w0) w0 w')) := by
  refine c_enter (n := 15) Try.func65 rfl rfl (Nat.le_of_ble_eq_true rfl) rfl ?_
  intro a hE
  have hM := M.start w0
  unfold F_spec_l01Field at hF
  refine c_region ?_
  refine s_assign hE goes_none (by decide) rfl ?_; intro a hE
  refine c_fin ?_
  refine wp_seq ?_
  refine c_region ?_
  refine s_move hE goes_none (by decide) rfl ?_; intro a hE
  obtain ⟨r1, e2, hF⟩ := bind_some hF
  refine s_call (vs := [(vI p0), (vI 256), (vI 511)]) hE goes_none (by decide) rfl cb118 (c_spec_l01In _ p0 256 511 r1 e2) ?_
  rintro v w a ⟨rfl, hK⟩ hE
  have hM := hM.keep hK
  refine s_not hE goes_none (by decide) rfl ?_; intro a hE
  refine c_fin ?_
  refine c_cond hE rfl ?_ ?_
  · intro hb3
    have hF := ite_t hF hb3
    refine c_region ?_
    refine s_assign hE goes_none (by decide) rfl ?_; intro a hE
    refine c_fin ?_
    have hr := Option.some.inj hF
    subst hr
    exact wp_ret (r_then (k_ret1 hE rfl (res_tmp hE rfl) ⟨_, rfl, rfl, hM.kept⟩))
  · intro hb3
    have hF := ite_f hF hb3
    refine wp_skip ?_
    refine c_nx ?_
    refine wp_seq ?_
    refine c_region ?_
    refine s_assign hE goes_none (by decide) rfl ?_; intro a hE
    refine c_fin ?_
    obtain ⟨j4, hl5, hF6⟩ := bind_some hF
    refine c_cut (fun a w => ∃ s7 : Unit, j4 = Fl.nx s7 ∧ Env 15 a [] ∧ M (Old w0) w0 w []) ?_ ?_
    · skip
      refine wp_block ?_
      refine c_loop (fun (s8 : Int) a w => Env 15 a [(0, (vI p0)), (3, (vI s8))] ∧ M (Old w0) w0 w []) hl5 ⟨hE.sub ⟨rfl, rfl, trivial⟩, hM⟩ ?_
      rintro s8 a w ⟨hE, hM⟩ o11 hs9 hx10
      unfold L0_spec_l01Field at hs9
      refine wp_seq ?_
      refine c_region ?_
      refine s_move hE goes_none (by decide) rfl ?_; intro a hE
      refine s_int hE goes_none (by decide) rfl rfl rfl ?_; intro a hE
      refine c_fin ?_
      refine c_cond hE rfl ?_ ?_
      · intro hb12
        have hs9 := ite_t hs9 hb12
        refine wp_skip ?_
        refine c_nx ?_
        refine wp_seq ?_
        refine wp_block ?_
        refine c_region ?_
        refine s_move hE goes_none (by decide) rfl ?_; intro a hE
        refine s_move hE goes_none (by decide) rfl ?_; intro a hE
        obtain ⟨r13, e14, hs9⟩ := bind_some hs9
        refine s_call (vs := [(vI p0), (vI s8)]) hE goes_none (by decide) rfl cb119 (c_spec_l01Rest _ p0 s8 r13 e14) ?_
        rintro v w a ⟨rfl, hK⟩ hE
        have hM := hM.keep hK
        refine s_int hE goes_none (by decide) rfl rfl rfl ?_; intro a hE
        refine c_fin ?_
        refine c_cond hE rfl ?_ ?_
        · intro hb15
          have hs9 := ite_t hs9 hb15
          refine c_region ?_
          refine s_assign hE goes_none (by decide) rfl ?_; intro a hE
          refine c_fin ?_
          have ht16 := hx10 _ (Option.some.inj hs9).symm
          subst ht16
          have hr := Option.some.inj hF6
          subst hr
          exact wp_ret (r_inb (r_then (r_then (r_inb (r_then (r_then (k_ret1 hE rfl (res_tmp hE rfl) ⟨_, rfl, rfl, hM.kept⟩)))))))
        · intro hb15
          have hs9 := ite_f hs9 hb15
          refine wp_skip ?_
          refine c_nb ?_
          refine c_nx ?_
          refine wp_region_lit ?_
          refine s_move hE goes_none (by decide) rfl ?_; intro a hE
          refine s_int hE goes_none (by decide) rfl rfl rfl ?_; intro a hE
          refine s_assign hE goes_none (by decide) rfl ?_; intro a hE
          refine c_fin0 ?_
          refine c_mid ?_
          exact ⟨_, (Option.some.inj hs9).symm, hE.sub ⟨rfl, rfl, trivial⟩, hM⟩
      · intro hb12
        have hs9 := ite_f hs9 hb12
        refine wp_exit (e_then (e_then (e_eq ?_)))
        have ht17 := hx10 _ (Option.some.inj hs9).symm
        subst ht17
        refine c_mid ?_
        exact ⟨(), rfl, hE.sub trivial, hM⟩
    · skip
      rintro a w ⟨s7, ht, hE, hM⟩
      subst ht
      refine c_nx ?_
      refine c_region ?_
      refine s_assign hE goes_none (by decide) rfl ?_; intro a hE
      refine c_fin ?_
      have hr := Option.some.inj hF6
      subst hr
      exact wp_ret (k_ret1 hE rfl (res_tmp hE rfl) ⟨_, rfl, rfl, hM.kept⟩)
noncomputable def F_spec_l10Share (p0 : GShare) : Option (Bool) :=
  (if (p0.Place != 0) = true then (some (decide ((p0.Data.length : Int) ≤ 100))) else (some false) : Option (Bool)).bind fun (j3 : Bool) => some j3
set_option maxRecDepth 20000 in
set_option maxHeartbeats 400000 in
theorem c_spec_l10Share (w0 : World) (p0 : GShare) (v0_1 : Value) (hv0_1 : Ro w0 p0.Data [v0_1]) (r : Bool) (hF : F_spec_l10Share p0 = some r) :
    Calls Try.prog 113 [(Value.agg (cat [[(vB p0.Place)], [v0_1]]).toArray)].toArray w0 (fun en w' => ∃ v, en = .returned v ∧ (v = (vT r) ∧ Kept (Old w0) w0 w')) := by
  refine c_enter (n := 12) Try.func113 rfl rfl (Nat.le_of_ble_eq_true rfl) rfl ?_
  intro a hE
  have hM := M.start w0
  unfold F_spec_l10Share at hF
  refine c_region ?_
  refine s_box (cs := cat [[(vB p0.Place)], [v0_1]]) hE hM goes_none (by decide) rfl rfl ?_; intro b1 w a hM hE
  refine s_assign hE goes_none (by decide) rfl ?_; intro a hE
  refine c_fin ?_
  obtain ⟨j3, hl4, hF5⟩ := bind_some hF
  refine c_join (fun a w => Env 12 a [(2, (vT j3))] ∧ M (Old w0) w0 w []) ?_ ?_
  · skip
    refine wp_region_lit ?_
    refine s_fieldAddr hE goes_none (by decide) rfl (fd81_0) ?_; intro a hE
    refine s_load (v := (vB p0.Place)) hE goes_none (by decide) rfl ty5 rfl (At.cat (pre := []) (seg := [(vB p0.Place)]) (post := [[v0_1]]) (hM.rawAt (pre := [])) cl0) ?_; intro a hE
    refine s_int hE goes_none (by decide) rfl rfl (bB_neq p0.Place 0) ?_; intro a hE
    refine s_move hE goes_none (by decide) rfl ?_; intro a hE
    refine splitB (p0.Place != 0) (fun hb6 => ?_) (fun hb6 => ?_)
    · have hl4 := ite_t hl4 hb6
      refine s_fieldAddr hE (goes_yes hE rfl (lkb rfl hb6)) (by decide) rfl (fd81_1) ?_; intro a hE
      refine s_load (v := v0_1) hE (goes_yes hE rfl (lkb rfl hb6)) (by decide) rfl ty29 rfl (At.cat (pre := [[(vB p0.Place)]]) (seg := [v0_1]) (post := []) (hM.rawAt (pre := [])) (cl1 (n := 1) (m := 0) rfl cl0)) ?_; intro a hE
      refine s_len hE (goes_yes hE rfl (lkb rfl hb6)) (by decide) rfl Try.underlying29 (hM.rd hv0_1) ?_; intro a hE
      refine s_int hE (goes_yes hE rfl (lkb rfl hb6)) (by decide) rfl rfl rfl ?_; intro a hE
      refine s_pickT hE goes_none (by decide) (lkb rfl hb6) rfl ?_; intro a hE
      refine s_assign hE goes_none (by decide) rfl ?_; intro a hE
      refine c_fin0 ?_
      have ht7 := Option.some.inj hl4
      subst ht7
      refine c_mid ?_
      have hM := M.fst (l := []) hM
      exact ⟨hE.sub ⟨rfl, trivial⟩, hM⟩
    · have hl4 := ite_f hl4 hb6
      refine s_skip hE rfl (lkb rfl hb6) rfl (by decide) ?_; intro a hE
      refine s_skip hE rfl (lkb rfl hb6) rfl (by decide) ?_; intro a hE
      refine s_skip hE rfl (lkb rfl hb6) rfl (by decide) ?_; intro a hE
      refine s_skip hE rfl (lkb rfl hb6) rfl (by decide) ?_; intro a hE
      refine s_pickF hE goes_none (by decide) (lkb rfl hb6) rfl ?_; intro a hE
      refine s_assign hE goes_none (by decide) rfl ?_; intro a hE
      refine c_fin0 ?_
      have ht8 := Option.some.inj hl4
      subst ht8
      refine c_mid ?_
      have hM := M.fst (l := []) hM
      exact ⟨hE.sub ⟨rfl, trivial⟩, hM⟩
  · skip
    rintro a w ⟨hE, hM⟩
    have hr := Option.some.inj hF5
    subst hr
    exact wp_ret (k_ret1 hE rfl (res_tmp hE rfl) ⟨_, rfl, rfl, hM.kept⟩)
noncomputable def L1_spec_l01Twice (p0 : (List UInt8)) (s5 : Int) (s14 : Int) : Option (Fl Int (Fl Unit Bool)) :=
  if (decide (s14 < s5)) = true then (((idx p0 s5).bind fun (x23 : UInt8) => (idx p0 s14).bind fun (x26 : UInt8) => some (x23 == x26) : Option (Bool)).bind fun (j19 : Bool) => if j19 = true then (some (Fl.ex (Fl.ex true))) else (some (Fl.nx (wr (s14 + 1))))) else (some (Fl.ex (Fl.nx ())))
noncomputable def L0_spec_l01Twice (p0 : (List UInt8)) (s5 : Int) : Option (Fl Int (Fl Unit Bool)) :=
  if (decide (s5 < (p0.length : Int))) = true then ((iter (L1_spec_l01Twice p0 s5) 0 : Option (Fl Unit Bool)).bind fun (j10 : Fl Unit Bool) => j10.el (fun (s13 : Unit) => some (Fl.nx (wr (s5 + 1)))) (fun r => some (Fl.ex (Fl.ex r)))) else (some (Fl.ex (Fl.nx ())))
noncomputable def F_spec_l01Twice (p0 : (List UInt8)) : Option (Bool) :=
  (iter (L0_spec_l01Twice p0) 0 : Option (Fl Unit Bool)).bind fun (j1 : Fl Unit Bool) => j1.el (fun (s4 : Unit) => some false) (fun r => some r)
set_option maxRecDepth 20000 in
set_option maxHeartbeats 400000 in
theorem c_spec_l01Twice (w0 : World) (p0 : (List UInt8)) (v0_1 : Value) (hv0_1 : Ro w0 p0 [v0_1]) (r : Bool) (hF : F_spec_l01Twice p0 = some r) :
    Calls Try.prog 120 [v0_1].toArray w0 (fun en w' => ∃ v, en = .returned v ∧ (v = (vT r) ∧ Kept (Old w0) w0 w')) := by
  refine c_enter (n := 25) Try.func120 rfl rfl (Nat.le_of_ble_eq_true rfl) rfl ?_
  intro a hE
  have hM := M.start w0
  unfold F_spec_l01Twice at hF
  refine c_region ?_
  refine s_assign hE goes_none (by decide) rfl ?_; intro a hE
  refine c_fin ?_
  refine wp_seq ?_
  refine c_region ?_
  refine s_assign hE goes_none (by decide) rfl ?_; intro a hE
  refine c_fin ?_
  obtain ⟨j1, hl2, hF3⟩ := bind_some hF
  refine c_cut (fun a w => ∃ s4 : Unit, j1 = Fl.nx s4 ∧ Env 25 a [] ∧ M (Old w0) w0 w []) ?_ ?_
  · skip
    refine wp_block ?_
    refine c_loop (fun (s5 : Int) a w => Env 25 a [(0, v0_1), (3, (vI s5))] ∧ M (Old w0) w0 w []) hl2 ⟨hE.sub ⟨rfl, rfl, trivial⟩, hM⟩ ?_
    rintro s5 a w ⟨hE, hM⟩ o8 hs6 hx7
    unfold L0_spec_l01Twice at hs6
    refine wp_seq ?_
    refine c_region ?_
    refine s_move hE goes_none (by decide) rfl ?_; intro a hE
    refine s_move hE goes_none (by decide) rfl ?_; intro a hE
    refine s_len hE goes_none (by decide) rfl Try.underlying29 (hM.rd hv0_1) ?_; intro a hE
    refine s_int hE goes_none (by decide) rfl rfl rfl ?_; intro a hE
    refine c_fin ?_
    refine c_cond hE rfl ?_ ?_
    · intro hb9
      have hs6 := ite_t hs6 hb9
      refine wp_skip ?_
      refine c_nx ?_
      refine wp_seq ?_
      refine wp_block ?_
      refine c_region ?_
      refine s_assign hE goes_none (by decide) rfl ?_; intro a hE
      refine c_fin ?_
      obtain ⟨j10, hl11, hF12⟩ := bind_some hs6
      refine c_cut (fun a w => ∃ s13 : Unit, j10 = Fl.nx s13 ∧ Env 25 a [(0, v0_1), (3, (vI s5))] ∧ M (Old w0) w0 w []) ?_ ?_
      · skip
        refine wp_block ?_
        refine c_loop (fun (s14 : Int) a w => Env 25 a [(0, v0_1), (3, (vI s5)), (4, (vI s14))] ∧ M (Old w0) w0 w []) hl11 ⟨hE.sub ⟨rfl, rfl, rfl, trivial⟩, hM⟩ ?_
        rintro s14 a w ⟨hE, hM⟩ o17 hs15 hx16
        unfold L1_spec_l01Twice at hs15
        refine wp_seq ?_
        refine c_region ?_
        refine s_move hE goes_none (by decide) rfl ?_; intro a hE
        refine s_move hE goes_none (by decide) rfl ?_; intro a hE
        refine s_int hE goes_none (by decide) rfl rfl rfl ?_; intro a hE
        refine c_fin ?_
        refine c_cond hE rfl ?_ ?_
        · intro hb18
          have hs15 := ite_t hs15 hb18
          refine wp_skip ?_
          refine c_nx ?_
          refine wp_seq ?_
          refine wp_block ?_
          obtain ⟨j19, hl20, hF21⟩ := bind_some hs15
          refine c_join (fun a w => Env 25 a [(0, v0_1), (3, (vI s5)), (4, (vI s14)), (24, (vT j19))] ∧ M (Old w0) w0 w []) ?_ ?_
          · skip
            obtain ⟨x23, e24, hl20⟩ := bind_some hl20
            have hi25 := idx_some e24
            obtain ⟨x26, e27, hl20⟩ := bind_some hl20
            have hi28 := idx_some e27
            refine c_draw (n := 25) (hd := [_, _, _, _, _, _, _, _, _]) (tl := []) hmix rfl rfl [16, 17, 18, 19, 20, 21, 22, 23, 24] (by decide) (fun w => M (Old w0) w0 w []) (fun j => ([fun v _ => v = v0_1, fun v _ => v = (vI s5), fun v _ => v = (ptr (sb v0_1) (so v0_1 + (s5).toNat * 1)), fun v _ => v = (vB x23), fun v _ => v = v0_1, fun v _ => v = (vI s14), fun v _ => v = (ptr (sb v0_1) (so v0_1 + (s14).toNat * 1)), fun v _ => v = (vB x26), fun v _ => v = (vT (x23 == x26))] : List (Value → World → Prop)).getD j (fun _ _ => True)) (fun _ _ h hk => h.keep hk) (gup (gupE (gupE (gupE (gupE (gupE (gupE (gupE (gupE (gupE gupN)))))))))) hE hM.drew (steps_of (steps_cons ?_ (steps_cons ?_ (steps_cons ?_ (steps_cons ?_ (steps_cons ?_ (steps_cons ?_ (steps_cons ?_ (steps_cons ?_ (steps_cons ?_ steps_nil)))))))))) ?_
            · intro a w ux22 hE hM hp
              refine s_move hE goes_none (by decide) rfl ?_; intro a hE
              exact ⟨Kept.refl _ _, _, _, rfl, hE, rfl⟩
            · intro a w ux22 hE hM hp
              refine s_move hE goes_none (by decide) rfl ?_; intro a hE
              exact ⟨Kept.refl _ _, _, _, rfl, hE, rfl⟩
            · intro a w ux22 hE hM hp
              have f0 : ux22 0 = v0_1 := hp 0 _ rfl rfl
              have f1 : ux22 1 = (vI s5) := hp 1 _ rfl rfl
              refine s_indexS hE goes_none (by decide) (lk rfl f0) (lk rfl f1) Try.underlying29 ty5 (hM.rd hv0_1) hi25.1 ?_; intro a hE
              exact ⟨Kept.refl _ _, _, _, rfl, hE, rfl⟩
            · intro a w ux22 hE hM hp
              have f2 : ux22 2 = (ptr (sb v0_1) (so v0_1 + (s5).toNat * 1)) := hp 0 _ rfl rfl
              refine s_load (v := (vB x23)) hE goes_none (by decide) (lk rfl f2) ty5 rfl (sl_atF (hM.rd hv0_1) hi25.2) ?_; intro a hE
              exact ⟨Kept.refl _ _, _, _, rfl, hE, rfl⟩
            · intro a w ux22 hE hM hp
              refine s_move hE goes_none (by decide) rfl ?_; intro a hE
              exact ⟨Kept.refl _ _, _, _, rfl, hE, rfl⟩
            · intro a w ux22 hE hM hp
              refine s_move hE goes_none (by decide) rfl ?_; intro a hE
              exact ⟨Kept.refl _ _, _, _, rfl, hE, rfl⟩
            · intro a w ux22 hE hM hp
              have f4 : ux22 4 = v0_1 := hp 0 _ rfl rfl
              have f5 : ux22 5 = (vI s14) := hp 1 _ rfl rfl
              refine s_indexS hE goes_none (by decide) (lk rfl f4) (lk rfl f5) Try.underlying29 ty5 (hM.rd hv0_1) hi28.1 ?_; intro a hE
              exact ⟨Kept.refl _ _, _, _, rfl, hE, rfl⟩
            · intro a w ux22 hE hM hp
              have f6 : ux22 6 = (ptr (sb v0_1) (so v0_1 + (s14).toNat * 1)) := hp 0 _ rfl rfl
              refine s_load (v := (vB x26)) hE goes_none (by decide) (lk rfl f6) ty5 rfl (sl_atF (hM.rd hv0_1) hi28.2) ?_; intro a hE
              exact ⟨Kept.refl _ _, _, _, rfl, hE, rfl⟩
            · intro a w ux22 hE hM hp
              have f3 : ux22 3 = (vB x23) := hp 0 _ rfl rfl
              have f7 : ux22 7 = (vB x26) := hp 1 _ rfl rfl
              refine s_int hE goes_none (by decide) (lk rfl f3) (lk rfl f7) (bB_eql x23 x26) ?_; intro a hE
              exact ⟨Kept.refl _ _, _, _, rfl, hE, rfl⟩
            · intro a w ux22 hE hM hg
              have f0 : ux22 0 = v0_1 := hg 0 (by decide)
              have f1 : ux22 1 = (vI s5) := hg 1 (by decide)
              have f2 : ux22 2 = (ptr (sb v0_1) (so v0_1 + (s5).toNat * 1)) := hg 2 (by decide)
              have f3 : ux22 3 = (vB x23) := hg 3 (by decide)
              have f4 : ux22 4 = v0_1 := hg 4 (by decide)
              have f5 : ux22 5 = (vI s14) := hg 5 (by decide)
              have f6 : ux22 6 = (ptr (sb v0_1) (so v0_1 + (s14).toNat * 1)) := hg 6 (by decide)
              have f7 : ux22 7 = (vB x26) := hg 7 (by decide)
              have f8 : ux22 8 = (vT (x23 == x26)) := hg 8 (by decide)
              have hE := hE.sub (e' := [(16, v0_1), (17, (vI s5)), (18, (ptr (sb v0_1) (so v0_1 + (s5).toNat * 1))), (19, (vB x23)), (20, v0_1), (21, (vI s14)), (22, (ptr (sb v0_1) (so v0_1 + (s14).toNat * 1))), (23, (vB x26)), (24, (vT (x23 == x26))), (0, v0_1), (3, (vI s5)), (4, (vI s14)), (11, (vI s14)), (12, (vI s5)), (13, (vT (decide (s14 < s5))))]) ⟨lk rfl f0, lk rfl f1, lk rfl f2, lk rfl f3, lk rfl f4, lk rfl f5, lk rfl f6, lk rfl f7, lk rfl f8, rfl, rfl, rfl, rfl, rfl, rfl, trivial⟩
              refine c_fin0 ?_
              have ht29 := Option.some.inj hl20
              subst ht29
              refine c_mid ?_
              exact ⟨hE.sub ⟨rfl, rfl, rfl, rfl, trivial⟩, hM⟩
          · skip
            rintro a w ⟨hE, hM⟩
            refine c_cond hE rfl ?_ ?_
            · intro hb30
              have hF21 := ite_t hF21 hb30
              refine c_region ?_
              refine s_assign hE goes_none (by decide) rfl ?_; intro a hE
              refine c_fin ?_
              have ht31 := hx16 _ (Option.some.inj hF21).symm
              subst ht31
              have ht32 := hx7 _ (Option.some.inj hF12).symm
              subst ht32
              have hr := Option.some.inj hF3
              subst hr
              exact wp_ret (r_inb (r_then (r_then (r_inb (r_then (r_inb (r_then (r_then (r_inb (r_then (r_then (k_ret1 hE rfl (res_tmp hE rfl) ⟨_, rfl, rfl, hM.kept⟩))))))))))))
            · intro hb30
              have hF21 := ite_f hF21 hb30
              refine wp_skip ?_
              refine c_nb ?_
              refine c_nx ?_
              refine wp_region_lit ?_
              refine s_move hE goes_none (by decide) rfl ?_; intro a hE
              refine s_int hE goes_none (by decide) rfl rfl rfl ?_; intro a hE
              refine s_assign hE goes_none (by decide) rfl ?_; intro a hE
              refine c_fin0 ?_
              refine c_mid ?_
              exact ⟨_, (Option.some.inj hF21).symm, hE.sub ⟨rfl, rfl, rfl, trivial⟩, hM⟩
        · intro hb18
          have hs15 := ite_f hs15 hb18
          refine wp_exit (e_then (e_then (e_eq ?_)))
          have ht33 := hx16 _ (Option.some.inj hs15).symm
          subst ht33
          refine c_mid ?_
          exact ⟨(), rfl, hE.sub ⟨rfl, rfl, trivial⟩, hM⟩
      · skip
        rintro a w ⟨s13, ht, hE, hM⟩
        subst ht
        refine c_nb ?_
        refine c_nx ?_
        refine wp_region_lit ?_
        refine s_move hE goes_none (by decide) rfl ?_; intro a hE
        refine s_int hE goes_none (by decide) rfl rfl rfl ?_; intro a hE
        refine s_assign hE goes_none (by decide) rfl ?_; intro a hE
        refine c_fin0 ?_
        refine c_mid ?_
        exact ⟨_, (Option.some.inj hF12).symm, hE.sub ⟨rfl, rfl, trivial⟩, hM⟩
    · intro hb9
      have hs6 := ite_f hs6 hb9
      refine wp_exit (e_then (e_then (e_eq ?_)))
      have ht34 := hx7 _ (Option.some.inj hs6).symm
      subst ht34
      refine c_mid ?_
      exact ⟨(), rfl, hE.sub trivial, hM⟩
  · skip
    rintro a w ⟨s4, ht, hE, hM⟩
    subst ht
    refine c_nx ?_
    refine c_region ?_
    refine s_assign hE goes_none (by decide) rfl ?_; intro a hE
    refine c_fin ?_
    have hr := Option.some.inj hF3
    subst hr
    exact wp_ret (k_ret1 hE rfl (res_tmp hE rfl) ⟨_, rfl, rfl, hM.kept⟩)
noncomputable def L0_spec_l10Distinct (p0 : (List GShare)) (s8 : (List UInt8) × Int) : Option (Fl ((List UInt8) × Int) (List UInt8)) :=
  if (decide (s8.2 < (p0.length : Int))) = true then ((idx p0 s8.2).bind fun (x15 : GShare) => (app 1 s8.1 ([x15.Place] : List UInt8)).bind fun (l25 : (List UInt8)) => some (Fl.nx ((s8.1 ++ ([x15.Place] : List UInt8)), wr (s8.2 + 1)))) else (some (Fl.ex s8.1))
noncomputable def F_spec_l10Distinct (p0 : (List GShare)) : Option (Bool) :=
  (iter (L0_spec_l10Distinct p0) (([] : List UInt8), 0) : Option ((List UInt8))).bind fun (j3 : (List UInt8)) => (F_spec_l01Twice j3).bind fun (r31 : Bool) => some (!r31)
set_option maxRecDepth 20000 in
set_option maxHeartbeats 400000 in
theorem c_spec_l10Distinct (w0 : World) (p0 : (List GShare)) (v0_1 : Value) (hv0_1 : Ro w0 p0 [v0_1]) (r : Bool) (hF : F_spec_l10Distinct p0 = some r) :
    Calls Try.prog 114 [v0_1].toArray w0 (fun en w' => ∃ v, en = .returned v ∧ (v = (vT r) ∧ Kept (Old w0) w0 w')) := by
  refine c_enter (n := 23) Try.func114 rfl rfl (Nat.le_of_ble_eq_true rfl) rfl ?_
  intro a hE
  have hM := M.start w0
  unfold F_spec_l10Distinct at hF
  refine c_region ?_
  refine s_assign hE goes_none (by decide) rfl ?_; intro a hE
  refine c_fin ?_
  refine c_region ?_
  refine s_buildF (xs := []) (l := ([] : List UInt8)) (vs := []) hE hM goes_none (by decide) rfl rfl Try.underlying29 ty5 rfl (by decide) rfl ?_; intro u1 w a hM hE
  refine s_assign hE goes_none (by decide) rfl ?_; intro a hE
  refine c_fin ?_
  refine wp_seq ?_
  refine c_region ?_
  refine s_assign hE goes_none (by decide) rfl ?_; intro a hE
  refine c_fin ?_
  obtain ⟨j3, hl4, hF5⟩ := bind_some hF
  refine c_cut (fun a w => ∃ (u6 : Value), Env 23 a [(3, u6)] ∧ M (Old w0) w0 w [osl NoB (j3 : List UInt8) u6]) ?_ ?_
  · skip
    refine wp_block ?_
    refine c_loop (fun (s8 : (List UInt8) × Int) a w => ∃ (u9 : Value), Env 23 a [(0, v0_1), (3, u9), (4, (vI s8.2))] ∧ M (Old w0) w0 w [osl NoB (s8.1 : List UInt8) u9]) hl4 ⟨u1, hE.sub ⟨rfl, rfl, rfl, trivial⟩, hM⟩ ?_
    rintro s8 a w ⟨u9, hE, hM⟩ o13 hs11 hx12
    unfold L0_spec_l10Distinct at hs11
    refine wp_seq ?_
    refine c_region ?_
    refine s_move hE goes_none (by decide) rfl ?_; intro a hE
    refine s_move hE goes_none (by decide) rfl ?_; intro a hE
    refine s_len hE goes_none (by decide) rfl Try.underlying25 (hM.rd hv0_1) ?_; intro a hE
    refine s_int hE goes_none (by decide) rfl rfl rfl ?_; intro a hE
    refine c_fin ?_
    refine c_cond hE rfl ?_ ?_
    · intro hb14
      have hs11 := ite_t hs11 hb14
      refine wp_skip ?_
      refine c_nx ?_
      refine wp_seq ?_
      refine wp_block ?_
      refine wp_region_lit ?_
      refine s_move hE goes_none (by decide) rfl ?_; intro a hE
      refine s_move hE goes_none (by decide) rfl ?_; intro a hE
      refine s_move hE goes_none (by decide) rfl ?_; intro a hE
      obtain ⟨x15, e16, hs11⟩ := bind_some hs11
      have hi17 := idx_some e16
      refine s_indexS hE goes_none (by decide) rfl rfl Try.underlying25 ty81 (hM.rd hv0_1) hi17.1 ?_; intro a hE
      refine s_fieldAddr hE goes_none (by decide) rfl (fd81_0) ?_; intro a hE
      obtain ⟨cs18, hs19, hA20⟩ := sl_atRo hv0_1 hi17.2 -- ^
      obtain ⟨u21, rfl, h22⟩ := un_GShare hs19 -- ^
      refine s_load (v := (vB x15.Place)) hE goes_none (by decide) rfl ty5 rfl (At.cat (pre := []) (seg := [(vB x15.Place)]) (post := [[u21]]) (hM.atk hA20 (sl_blk hv0_1 hi17.2)) cl0) ?_; intro a hE
      refine s_buildF (xs := [.tmp 17]) (l := ([x15.Place] : List UInt8)) (vs := [(vB x15.Place)]) hE hM goes_none (by decide) rfl rfl Try.underlying29 ty5 rfl (by decide) rfl ?_; intro u23 w a hM hE
      obtain ⟨l25, e26, hs11⟩ := bind_some hs11
      obtain ⟨e29, rfl⟩ := app_some e26
      have hM := hM.pull (pre := [_])
      refine s_appendF hE hM goes_none (by decide) rfl rfl (hM.sl (pre := [_]) noB) Try.underlying29 ty5 rfl (by decide) e29 ?_; intro u27 w a hM hE
      refine s_assign hE goes_none (by decide) rfl ?_; intro a hE
      refine c_fin0 ?_
      refine c_nb ?_
      refine c_nx ?_
      refine wp_region_lit ?_
      refine s_move hE goes_none (by decide) rfl ?_; intro a hE
      refine s_int hE goes_none (by decide) rfl rfl rfl ?_; intro a hE
      refine s_assign hE goes_none (by decide) rfl ?_; intro a hE
      refine c_fin0 ?_
      refine c_mid ?_
      have hM := M.fst (l := [_]) hM
      exact ⟨_, (Option.some.inj hs11).symm, u27, hE.sub ⟨rfl, rfl, rfl, trivial⟩, hM⟩
    · intro hb14
      have hs11 := ite_f hs11 hb14
      refine wp_exit (e_then (e_then (e_eq ?_)))
      have ht30 := hx12 _ (Option.some.inj hs11).symm
      subst ht30
      refine c_mid ?_
      exact ⟨u9, hE.sub ⟨rfl, trivial⟩, hM⟩
  · skip
    rintro a w ⟨u6, hE, hM⟩
    refine c_nx ?_
    refine c_region ?_
    refine s_move hE goes_none (by decide) rfl ?_; intro a hE
    obtain ⟨r31, e32, hF5⟩ := bind_some hF5
    refine s_call (vs := [u6]) hE goes_none (by decide) rfl cb120 (c_spec_l01Twice _ j3 u6 (hM.sl (pre := []) noB) r31 e32) ?_
    rintro v w a ⟨rfl, hK⟩ hE
    have hM := hM.keep hK
    refine s_not hE goes_none (by decide) rfl ?_; intro a hE
    refine s_assign hE goes_none (by decide) rfl ?_; intro a hE
    refine c_fin ?_
    have hr := Option.some.inj hF5
    subst hr
    have hM := M.fst (l := []) hM
    exact wp_ret (k_ret1 hE rfl (res_tmp hE rfl) ⟨_, rfl, rfl, hM.kept⟩)
noncomputable def L0_spec_l10Code (p0 : (List GShare)) (s5 : Int) : Option (Fl Int (Fl Unit Int)) :=
  if (decide (s5 < (p0.length : Int))) = true then ((idx p0 s5).bind fun (x10 : GShare) => (F_spec_l10Share x10).bind fun (r18 : Bool) => if (!r18) = true then (some (Fl.ex (Fl.ex 1))) else (some (Fl.nx (wr (s5 + 1))))) else (some (Fl.ex (Fl.nx ())))
noncomputable def L1_spec_l10Code (p0 : (List GShare)) (s37 : Int) : Option (Fl Int (Fl Unit Int)) :=
  if (decide (s37 < (p0.length : Int))) = true then (((idx p0 s37).bind fun (x46 : GShare) => (idx p0 (0 : Int)).bind fun (x54 : GShare) => some ((x46.Data.length : Int) != (x54.Data.length : Int)) : Option (Bool)).bind fun (j42 : Bool) => if j42 = true then (some (Fl.ex (Fl.ex 2))) else (some (Fl.nx (wr (s37 + 1))))) else (some (Fl.ex (Fl.nx ())))
noncomputable def F_spec_l10Code (p0 : (List GShare)) : Option (Int) :=
  (iter (L0_spec_l10Code p0) 0 : Option (Fl Unit Int)).bind fun (j1 : Fl Unit Int) => j1.el (fun (s4 : Unit) => (F_spec_l10Distinct p0).bind fun (r23 : Bool) => if (!r23) = true then (some 1) else ((if (decide ((p0.length : Int) < 1)) = true then (some true) else (some (decide ((p0.length : Int) > 12))) : Option (Bool)).bind fun (j26 : Bool) => if j26 = true then (some 2) else ((iter (L1_spec_l10Code p0) 1 : Option (Fl Unit Int)).bind fun (j33 : Fl Unit Int) => j33.el (fun (s36 : Unit) => some 0) (fun r => some r)))) (fun r => some r)
set_option maxRecDepth 20000 in
set_option maxHeartbeats 400000 in
theorem c_spec_l10Code (w0 : World) (p0 : (List GShare)) (v0_1 : Value) (hv0_1 : Ro w0 p0 [v0_1]) (r : Int) (hF : F_spec_l10Code p0 = some r) :
    Calls Try.prog 54 [v0_1].toArray w0 (fun en w' => ∃ v, en = .returned v ∧ (v = (vI r) ∧ Kept (Old w0) w0 w')) := by
  refine c_enter (n := 46) Try.func54 rfl rfl (Nat.le_of_ble_eq_true rfl) rfl ?_
  intro a hE
  have hM := M.start w0
  unfold F_spec_l10Code at hF
  refine c_region ?_
  refine s_assign hE goes_none (by decide) rfl ?_; intro a hE
  refine c_fin ?_
  refine wp_seq ?_
  refine c_region ?_
  refine s_assign hE goes_none (by decide) rfl ?_; intro a hE
  refine c_fin ?_
  obtain ⟨j1, hl2, hF3⟩ := bind_some hF
  refine c_cut (fun a w => ∃ s4 : Unit, j1 = Fl.nx s4 ∧ Env 46 a [(0, v0_1)] ∧ M (Old w0) w0 w []) ?_ ?_
  · skip
    refine wp_block ?_
    refine c_loop (fun (s5 : Int) a w => Env 46 a [(0, v0_1), (3, (vI s5))] ∧ M (Old w0) w0 w []) hl2 ⟨hE.sub ⟨rfl, rfl, trivial⟩, hM⟩ ?_
    rintro s5 a w ⟨hE, hM⟩ o8 hs6 hx7
    unfold L0_spec_l10Code at hs6
    refine wp_seq ?_
    refine c_region ?_
    refine s_move hE goes_none (by decide) rfl ?_; intro a hE
    refine s_move hE goes_none (by decide) rfl ?_; intro a hE
    refine s_len hE goes_none (by decide) rfl Try.underlying25 (hM.rd hv0_1) ?_; intro a hE
    refine s_int hE goes_none (by decide) rfl rfl rfl ?_; intro a hE
    refine c_fin ?_
    refine c_cond hE rfl ?_ ?_
    · intro hb9
      have hs6 := ite_t hs6 hb9
      refine wp_skip ?_
      refine c_nx ?_
      refine wp_seq ?_
      refine wp_block ?_
      refine c_region ?_
      refine s_move hE goes_none (by decide) rfl ?_; intro a hE
      refine s_move hE goes_none (by decide) rfl ?_; intro a hE
      obtain ⟨x10, e11, hs6⟩ := bind_some hs6
      have hi12 := idx_some e11
      refine s_indexS hE goes_none (by decide) rfl rfl Try.underlying25 ty81 (hM.rd hv0_1) hi12.1 ?_; intro a hE
      obtain ⟨cs13, hs14, hA15⟩ := sl_atRo hv0_1 hi12.2 -- ^
      obtain ⟨u16, rfl, h17⟩ := un_GShare hs14 -- ^
      refine s_loadA (cs := cat [[(vB x10.Place)], [u16]]) hE goes_none (by decide) rfl ty81 rfl (hM.atk hA15 (sl_blk hv0_1 hi12.2)) (cat_len (cl1 (n := 1) (m := 1) rfl (cl1 (n := 1) (m := 0) rfl cl0))) ?_; intro a hE
      obtain ⟨r18, e19, hs6⟩ := bind_some hs6
      refine s_call (vs := [(Value.agg (cat [[(vB x10.Place)], [u16]]).toArray)]) hE goes_none (by decide) rfl cb113 (c_spec_l10Share _ x10 u16 (hM.rdo h17) r18 e19) ?_
      rintro v w a ⟨rfl, hK⟩ hE
      have hM := hM.keep hK
      refine s_not hE goes_none (by decide) rfl ?_; intro a hE
      refine c_fin ?_
      refine c_cond hE rfl ?_ ?_
      · intro hb20
        have hs6 := ite_t hs6 hb20
        refine c_region ?_
        refine s_assign hE goes_none (by decide) rfl ?_; intro a hE
        refine c_fin ?_
        have ht21 := hx7 _ (Option.some.inj hs6).symm
        subst ht21
        have hr := Option.some.inj hF3
        subst hr
        exact wp_ret (r_inb (r_then (r_then (r_inb (r_then (r_then (k_ret1 hE rfl (res_tmp hE rfl) ⟨_, rfl, rfl, hM.kept⟩)))))))
      · intro hb20
        have hs6 := ite_f hs6 hb20
        refine wp_skip ?_
        refine c_nb ?_
        refine c_nx ?_
        refine wp_region_lit ?_
        refine s_move hE goes_none (by decide) rfl ?_; intro a hE
        refine s_int hE goes_none (by decide) rfl rfl rfl ?_; intro a hE
        refine s_assign hE goes_none (by decide) rfl ?_; intro a hE
        refine c_fin0 ?_
        refine c_mid ?_
        exact ⟨_, (Option.some.inj hs6).symm, hE.sub ⟨rfl, rfl, trivial⟩, hM⟩
    · intro hb9
      have hs6 := ite_f hs6 hb9
      refine wp_exit (e_then (e_then (e_eq ?_)))
      have ht22 := hx7 _ (Option.some.inj hs6).symm
      subst ht22
      refine c_mid ?_
      exact ⟨(), rfl, hE.sub ⟨rfl, trivial⟩, hM⟩
  · skip
    rintro a w ⟨s4, ht, hE, hM⟩
    subst ht
    refine c_nx ?_
    refine wp_seq ?_
    refine c_region ?_
    refine s_move hE goes_none (by decide) rfl ?_; intro a hE
    obtain ⟨r23, e24, hF3⟩ := bind_some hF3
    refine s_call (vs := [v0_1]) hE goes_none (by decide) rfl cb114 (c_spec_l10Distinct _ p0 v0_1 (hM.rdo hv0_1) r23 e24) ?_
    rintro v w a ⟨rfl, hK⟩ hE
    have hM := hM.keep hK
    refine s_not hE goes_none (by decide) rfl ?_; intro a hE
    refine c_fin ?_
    refine c_cond hE rfl ?_ ?_
    · intro hb25
      have hF3 := ite_t hF3 hb25
      refine c_region ?_
      refine s_assign hE goes_none (by decide) rfl ?_; intro a hE
      refine c_fin ?_
      have hr := Option.some.inj hF3
      subst hr
      exact wp_ret (r_then (k_ret1 hE rfl (res_tmp hE rfl) ⟨_, rfl, rfl, hM.kept⟩))
    · intro hb25
      have hF3 := ite_f hF3 hb25
      refine wp_skip ?_
      refine c_nx ?_
      refine wp_seq ?_
      obtain ⟨j26, hl27, hF28⟩ := bind_some hF3
      refine c_join (fun a w => Env 46 a [(0, v0_1), (27, (vT j26))] ∧ M (Old w0) w0 w []) ?_ ?_
      · skip
        refine wp_region_lit ?_
        refine s_move hE goes_none (by decide) rfl ?_; intro a hE
        refine s_len hE goes_none (by decide) rfl Try.underlying25 (hM.rd hv0_1) ?_; intro a hE
        refine s_int hE goes_none (by decide) rfl rfl rfl ?_; intro a hE
        refine s_move hE goes_none (by decide) rfl ?_; intro a hE
        refine splitB (decide ((p0.length : Int) < 1)) (fun hb29 => ?_) (fun hb29 => ?_)
        · have hl27 := ite_t hl27 hb29
          refine s_skip hE rfl (lkb rfl hb29) rfl (by decide) ?_; intro a hE
          refine s_skip hE rfl (lkb rfl hb29) rfl (by decide) ?_; intro a hE
          refine s_skip hE rfl (lkb rfl hb29) rfl (by decide) ?_; intro a hE
          refine s_pickT hE goes_none (by decide) (lkb rfl hb29) rfl ?_; intro a hE
          refine c_fin0 ?_
          have ht30 := Option.some.inj hl27
          subst ht30
          refine c_mid ?_
          exact ⟨hE.sub ⟨rfl, rfl, trivial⟩, hM⟩
        · have hl27 := ite_f hl27 hb29
          refine s_move hE (goes_yes hE rfl (lkb rfl hb29)) (by decide) rfl ?_; intro a hE
          refine s_len hE (goes_yes hE rfl (lkb rfl hb29)) (by decide) rfl Try.underlying25 (hM.rd hv0_1) ?_; intro a hE
          refine s_int hE (goes_yes hE rfl (lkb rfl hb29)) (by decide) rfl rfl rfl ?_; intro a hE
          refine s_pickF hE goes_none (by decide) (lkb rfl hb29) rfl ?_; intro a hE
          refine c_fin0 ?_
          have ht31 := Option.some.inj hl27
          subst ht31
          refine c_mid ?_
          exact ⟨hE.sub ⟨rfl, rfl, trivial⟩, hM⟩
      · skip
        rintro a w ⟨hE, hM⟩
        refine c_cond hE rfl ?_ ?_
        · intro hb32
          have hF28 := ite_t hF28 hb32
          refine c_region ?_
          refine s_assign hE goes_none (by decide) rfl ?_; intro a hE
          refine c_fin ?_
          have hr := Option.some.inj hF28
          subst hr
          exact wp_ret (r_then (k_ret1 hE rfl (res_tmp hE rfl) ⟨_, rfl, rfl, hM.kept⟩))
        · intro hb32
          have hF28 := ite_f hF28 hb32
          refine wp_skip ?_
          refine c_nx ?_
          refine wp_seq ?_
          refine c_region ?_
          refine s_assign hE goes_none (by decide) rfl ?_; intro a hE
          refine c_fin ?_
          obtain ⟨j33, hl34, hF35⟩ := bind_some hF28
          refine c_cut (fun a w => ∃ s36 : Unit, j33 = Fl.nx s36 ∧ Env 46 a [] ∧ M (Old w0) w0 w []) ?_ ?_
          · skip
            refine wp_block ?_
            refine c_loop (fun (s37 : Int) a w => Env 46 a [(0, v0_1), (4, (vI s37))] ∧ M (Old w0) w0 w []) hl34 ⟨hE.sub ⟨rfl, rfl, trivial⟩, hM⟩ ?_
            rintro s37 a w ⟨hE, hM⟩ o40 hs38 hx39
            unfold L1_spec_l10Code at hs38
            refine wp_seq ?_
            refine c_region ?_
            refine s_move hE goes_none (by decide) rfl ?_; intro a hE
            refine s_move hE goes_none (by decide) rfl ?_; intro a hE
            refine s_len hE goes_none (by decide) rfl Try.underlying25 (hM.rd hv0_1) ?_; intro a hE
            refine s_int hE goes_none (by decide) rfl rfl rfl ?_; intro a hE
            refine c_fin ?_
            refine c_cond hE rfl ?_ ?_
            · intro hb41
              have hs38 := ite_t hs38 hb41
              refine wp_skip ?_
              refine c_nx ?_
              refine wp_seq ?_
              refine wp_block ?_
              obtain ⟨j42, hl43, hF44⟩ := bind_some hs38
              refine c_join (fun a w => Env 46 a [(0, v0_1), (4, (vI s37)), (45, (vT j42))] ∧ M (Old w0) w0 w []) ?_ ?_
              · skip
                obtain ⟨x46, e47, hl43⟩ := bind_some hl43
                have hi48 := idx_some e47
                obtain ⟨cs49, hs50, hA51⟩ := sl_atRo hv0_1 hi48.2 -- ^
                obtain ⟨u52, rfl, h53⟩ := un_GShare hs50 -- ^
                obtain ⟨x54, e55, hl43⟩ := bind_some hl43
                have hi56 := idx_some e55
                obtain ⟨cs57, hs58, hA59⟩ := sl_atRo hv0_1 hi56.2 -- ^
                obtain ⟨u60, rfl, h61⟩ := un_GShare hs58 -- ^
                refine c_draw (n := 46) (hd := [_, _, _, _, _, _, _, _, _, _, _, _]) (tl := []) hmix rfl rfl [34, 35, 36, 37, 38, 39, 40, 41, 42, 43, 44, 45] (by decide) (fun w => M (Old w0) w0 w []) (fun j => ([fun v _ => v = v0_1, fun v _ => v = (vI s37), fun v _ => v = (ptr (sb v0_1) (so v0_1 + (s37).toNat * 2)), fun v _ => v = (ptr (sb v0_1) (so v0_1 + (s37).toNat * 2 + 1)), fun v _ => v = u52, fun v _ => v = (vI (x46.Data.length : Int)), fun v _ => v = v0_1, fun v _ => v = (ptr (sb v0_1) (so v0_1 + ((0 : Int)).toNat * 2)), fun v _ => v = (ptr (sb v0_1) (so v0_1 + ((0 : Int)).toNat * 2 + 1)), fun v _ => v = u60, fun v _ => v = (vI (x54.Data.length : Int)), fun v _ => v = (vT ((x46.Data.length : Int) != (x54.Data.length : Int)))] : List (Value → World → Prop)).getD j (fun _ _ => True)) (fun _ _ h hk => h.keep hk) (gup (gupE (gupE (gupE (gupE (gupE (gupE (gupE (gupE (gupE (gupE (gupE (gupE gupN))))))))))))) hE hM.drew (steps_of (steps_cons ?_ (steps_cons ?_ (steps_cons ?_ (steps_cons ?_ (steps_cons ?_ (steps_cons ?_ (steps_cons ?_ (steps_cons ?_ (steps_cons ?_ (steps_cons ?_ (steps_cons ?_ (steps_cons ?_ steps_nil))))))))))))) ?_
                · intro a w ux45 hE hM hp
                  refine s_move hE goes_none (by decide) rfl ?_; intro a hE
                  exact ⟨Kept.refl _ _, _, _, rfl, hE, rfl⟩
                · intro a w ux45 hE hM hp
                  refine s_move hE goes_none (by decide) rfl ?_; intro a hE
                  exact ⟨Kept.refl _ _, _, _, rfl, hE, rfl⟩
                · intro a w ux45 hE hM hp
                  have f0 : ux45 0 = v0_1 := hp 0 _ rfl rfl
                  have f1 : ux45 1 = (vI s37) := hp 1 _ rfl rfl
                  refine s_indexS hE goes_none (by decide) (lk rfl f0) (lk rfl f1) Try.underlying25 ty81 (hM.rd hv0_1) hi48.1 ?_; intro a hE
                  exact ⟨Kept.refl _ _, _, _, rfl, hE, rfl⟩
                · intro a w ux45 hE hM hp
                  have f2 : ux45 2 = (ptr (sb v0_1) (so v0_1 + (s37).toNat * 2)) := hp 0 _ rfl rfl
                  refine s_fieldAddr hE goes_none (by decide) (lk rfl f2) (fd81_1) ?_; intro a hE
                  exact ⟨Kept.refl _ _, _, _, rfl, hE, rfl⟩
                · intro a w ux45 hE hM hp
                  have f3 : ux45 3 = (ptr (sb v0_1) (so v0_1 + (s37).toNat * 2 + 1)) := hp 0 _ rfl rfl
                  refine s_load (v := u52) hE goes_none (by decide) (lk rfl f3) ty29 rfl (At.cat (pre := [[(vB x46.Place)]]) (seg := [u52]) (post := []) (hM.atk hA51 (sl_blk hv0_1 hi48.2)) (cl1 (n := 1) (m := 0) rfl cl0)) ?_; intro a hE
                  exact ⟨Kept.refl _ _, _, _, rfl, hE, rfl⟩
                · intro a w ux45 hE hM hp
                  have f4 : ux45 4 = u52 := hp 0 _ rfl rfl
                  refine s_len hE goes_none (by decide) (lk rfl f4) Try.underlying29 (hM.rd h53) ?_; intro a hE
                  exact ⟨Kept.refl _ _, _, _, rfl, hE, rfl⟩
                · intro a w ux45 hE hM hp
                  refine s_move hE goes_none (by decide) rfl ?_; intro a hE
                  exact ⟨Kept.refl _ _, _, _, rfl, hE, rfl⟩
                · intro a w ux45 hE hM hp
                  have f6 : ux45 6 = v0_1 := hp 0 _ rfl rfl
                  refine s_indexS hE goes_none (by decide) (lk rfl f6) rfl Try.underlying25 ty81 (hM.rd hv0_1) hi56.1 ?_; intro a hE
                  exact ⟨Kept.refl _ _, _, _, rfl, hE, rfl⟩
                · intro a w ux45 hE hM hp
                  have f7 : ux45 7 = (ptr (sb v0_1) (so v0_1 + ((0 : Int)).toNat * 2)) := hp 0 _ rfl rfl
                  refine s_fieldAddr hE goes_none (by decide) (lk rfl f7) (fd81_1) ?_; intro a hE
                  exact ⟨Kept.refl _ _, _, _, rfl, hE, rfl⟩
                · intro a w ux45 hE hM hp
                  have f8 : ux45 8 = (ptr (sb v0_1) (so v0_1 + ((0 : Int)).toNat * 2 + 1)) := hp 0 _ rfl rfl
                  refine s_load (v := u60) hE goes_none (by decide) (lk rfl f8) ty29 rfl (At.cat (pre := [[(vB x54.Place)]]) (seg := [u60]) (post := []) (hM.atk hA59 (sl_blk hv0_1 hi56.2)) (cl1 (n := 1) (m := 0) rfl cl0)) ?_; intro a hE
                  exact ⟨Kept.refl _ _, _, _, rfl, hE, rfl⟩
                · intro a w ux45 hE hM hp
                  have f9 : ux45 9 = u60 := hp 0 _ rfl rfl
                  refine s_len hE goes_none (by decide) (lk rfl f9) Try.underlying29 (hM.rd h61) ?_; intro a hE
                  exact ⟨Kept.refl _ _, _, _, rfl, hE, rfl⟩
                · intro a w ux45 hE hM hp
                  have f5 : ux45 5 = (vI (x46.Data.length : Int)) := hp 0 _ rfl rfl
                  have f10 : ux45 10 = (vI (x54.Data.length : Int)) := hp 1 _ rfl rfl
                  refine s_int hE goes_none (by decide) (lk rfl f5) (lk rfl f10) rfl ?_; intro a hE
                  exact ⟨Kept.refl _ _, _, _, rfl, hE, rfl⟩
                · intro a w ux45 hE hM hg
                  have f0 : ux45 0 = v0_1 := hg 0 (by decide)
                  have f1 : ux45 1 = (vI s37) := hg 1 (by decide)
                  have f2 : ux45 2 = (ptr (sb v0_1) (so v0_1 + (s37).toNat * 2)) := hg 2 (by decide)
                  have f3 : ux45 3 = (ptr (sb v0_1) (so v0_1 + (s37).toNat * 2 + 1)) := hg 3 (by decide)
                  have f4 : ux45 4 = u52 := hg 4 (by decide)
                  have f5 : ux45 5 = (vI (x46.Data.length : Int)) := hg 5 (by decide)
                  have f6 : ux45 6 = v0_1 := hg 6 (by decide)
                  have f7 : ux45 7 = (ptr (sb v0_1) (so v0_1 + ((0 : Int)).toNat * 2)) := hg 7 (by decide)
                  have f8 : ux45 8 = (ptr (sb v0_1) (so v0_1 + ((0 : Int)).toNat * 2 + 1)) := hg 8 (by decide)
                  have f9 : ux45 9 = u60 := hg 9 (by decide)
                  have f10 : ux45 10 = (vI (x54.Data.length : Int)) := hg 10 (by decide)
                  have f11 : ux45 11 = (vT ((x46.Data.length : Int) != (x54.Data.length : Int))) := hg 11 (by decide)
                  have hE := hE.sub (e' := [(34, v0_1), (35, (vI s37)), (36, (ptr (sb v0_1) (so v0_1 + (s37).toNat * 2))), (37, (ptr (sb v0_1) (so v0_1 + (s37).toNat * 2 + 1))), (38, u52), (39, (vI (x46.Data.length : Int))), (40, v0_1), (41, (ptr (sb v0_1) (so v0_1 + ((0 : Int)).toNat * 2))), (42, (ptr (sb v0_1) (so v0_1 + ((0 : Int)).toNat * 2 + 1))), (43, u60), (44, (vI (x54.Data.length : Int))), (45, (vT ((x46.Data.length : Int) != (x54.Data.length : Int)))), (0, v0_1), (4, (vI s37)), (28, (vI s37)), (29, v0_1), (30, (vI (p0.length : Int))), (31, (vT (decide (s37 < (p0.length : Int)))))]) ⟨lk rfl f0, lk rfl f1, lk rfl f2, lk rfl f3, lk rfl f4, lk rfl f5, lk rfl f6, lk rfl f7, lk rfl f8, lk rfl f9, lk rfl f10, lk rfl f11, rfl, rfl, rfl, rfl, rfl, rfl, trivial⟩
                  refine c_fin0 ?_
                  have ht62 := Option.some.inj hl43
                  subst ht62
                  refine c_mid ?_
                  exact ⟨hE.sub ⟨rfl, rfl, rfl, trivial⟩, hM⟩
              · skip
                rintro a w ⟨hE, hM⟩
                refine c_cond hE rfl ?_ ?_
                · intro hb63
                  have hF44 := ite_t hF44 hb63
                  refine c_region ?_
                  refine s_assign hE goes_none (by decide) rfl ?_; intro a hE
                  refine c_fin ?_
                  have ht64 := hx39 _ (Option.some.inj hF44).symm
                  subst ht64
                  have hr := Option.some.inj hF35
                  subst hr
                  exact wp_ret (r_inb (r_then (r_then (r_inb (r_then (r_then (k_ret1 hE rfl (res_tmp hE rfl) ⟨_, rfl, rfl, hM.kept⟩)))))))
                · intro hb63
                  have hF44 := ite_f hF44 hb63
                  refine wp_skip ?_
                  refine c_nb ?_
                  refine c_nx ?_
                  refine wp_region_lit ?_
                  refine s_move hE goes_none (by decide) rfl ?_; intro a hE
                  refine s_int hE goes_none (by decide) rfl rfl rfl ?_; intro a hE
                  refine s_assign hE goes_none (by decide) rfl ?_; intro a hE
                  refine c_fin0 ?_
                  refine c_mid ?_
                  exact ⟨_, (Option.some.inj hF44).symm, hE.sub ⟨rfl, rfl, trivial⟩, hM⟩
            · intro hb41
              have hs38 := ite_f hs38 hb41
              refine wp_exit (e_then (e_then (e_eq ?_)))
              have ht65 := hx39 _ (Option.some.inj hs38).symm
              subst ht65
              refine c_mid ?_
              exact ⟨(), rfl, hE.sub trivial, hM⟩
          · skip
            rintro a w ⟨s36, ht, hE, hM⟩
            subst ht
            refine c_nx ?_
            refine c_region ?_
            refine s_assign hE goes_none (by decide) rfl ?_; intro a hE
            refine c_fin ?_
            have hr := Option.some.inj hF35
            subst hr
            exact wp_ret (k_ret1 hE rfl (res_tmp hE rfl) ⟨_, rfl, rfl, hM.kept⟩)
noncomputable def L0_spec_l10Places (p0 : (List GShare)) (s8 : (List UInt8) × Int) : Option (Fl ((List UInt8) × Int) (List UInt8)) :=
  if (decide (s8.2 < (p0.length : Int))) = true then ((idx p0 s8.2).bind fun (x15 : GShare) => (app 1 s8.1 ([x15.Place] : List UInt8)).bind fun (l25 : (List UInt8)) => some (Fl.nx ((s8.1 ++ ([x15.Place] : List UInt8)), wr (s8.2 + 1)))) else (some (Fl.ex s8.1))
noncomputable def F_spec_l10Places (p0 : (List GShare)) : Option ((List UInt8)) :=
  (iter (L0_spec_l10Places p0) (([] : List UInt8), 0) : Option ((List UInt8))).bind fun (j3 : (List UInt8)) => some j3
set_option maxRecDepth 20000 in
set_option maxHeartbeats 400000 in
theorem c_spec_l10Places (w0 : World) (p0 : (List GShare)) (v0_1 : Value) (hv0_1 : Ro w0 p0 [v0_1]) (r : (List UInt8)) (hF : F_spec_l10Places p0 = some r) :
    Calls Try.prog 95 [v0_1].toArray w0 (fun en w' => ∃ v, en = .returned v ∧ (∃ (y1 : Value), v = y1 ∧ Fr w0 w' [osl NoB (r : List UInt8) y1] ∧ Kept (Old w0) w0 w')) := by
  refine c_enter (n := 21) Try.func95 rfl rfl (Nat.le_of_ble_eq_true rfl) rfl ?_
  intro a hE
  have hM := M.start w0
  unfold F_spec_l10Places at hF
  refine c_region ?_
  refine s_assign hE goes_none (by decide) rfl ?_; intro a hE
  refine c_fin ?_
  refine c_region ?_
  refine s_buildF (xs := []) (l := ([] : List UInt8)) (vs := []) hE hM goes_none (by decide) rfl rfl Try.underlying29 ty5 rfl (by decide) rfl ?_; intro u1 w a hM hE
  refine s_assign hE goes_none (by decide) rfl ?_; intro a hE
  refine c_fin ?_
  refine wp_seq ?_
  refine c_region ?_
  refine s_assign hE goes_none (by decide) rfl ?_; intro a hE
  refine c_fin ?_
  obtain ⟨j3, hl4, hF5⟩ := bind_some hF
  refine c_cut (fun a w => ∃ (u6 : Value), Env 21 a [(3, u6)] ∧ M (Old w0) w0 w [osl NoB (j3 : List UInt8) u6]) ?_ ?_
  · skip
    refine wp_block ?_
    refine c_loop (fun (s8 : (List UInt8) × Int) a w => ∃ (u9 : Value), Env 21 a [(0, v0_1), (3, u9), (4, (vI s8.2))] ∧ M (Old w0) w0 w [osl NoB (s8.1 : List UInt8) u9]) hl4 ⟨u1, hE.sub ⟨rfl, rfl, rfl, trivial⟩, hM⟩ ?_
    rintro s8 a w ⟨u9, hE, hM⟩ o13 hs11 hx12
    unfold L0_spec_l10Places at hs11
    refine wp_seq ?_
    refine c_region ?_
    refine s_move hE goes_none (by decide) rfl ?_; intro a hE
    refine s_move hE goes_none (by decide) rfl ?_; intro a hE
    refine s_len hE goes_none (by decide) rfl Try.underlying25 (hM.rd hv0_1) ?_; intro a hE
    refine s_int hE goes_none (by decide) rfl rfl rfl ?_; intro a hE
    refine c_fin ?_
    refine c_cond hE rfl ?_ ?_
    · intro hb14
      have hs11 := ite_t hs11 hb14
      refine wp_skip ?_
      refine c_nx ?_
      refine wp_seq ?_
      refine wp_block ?_
      refine wp_region_lit ?_
      refine s_move hE goes_none (by decide) rfl ?_; intro a hE
      refine s_move hE goes_none (by decide) rfl ?_; intro a hE
      refine s_move hE goes_none (by decide) rfl ?_; intro a hE
      obtain ⟨x15, e16, hs11⟩ := bind_some hs11
      have hi17 := idx_some e16
      refine s_indexS hE goes_none (by decide) rfl rfl Try.underlying25 ty81 (hM.rd hv0_1) hi17.1 ?_; intro a hE
      refine s_fieldAddr hE goes_none (by decide) rfl (fd81_0) ?_; intro a hE
      obtain ⟨cs18, hs19, hA20⟩ := sl_atRo hv0_1 hi17.2 -- ^
      obtain ⟨u21, rfl, h22⟩ := un_GShare hs19 -- ^
      refine s_load (v := (vB x15.Place)) hE goes_none (by decide) rfl ty5 rfl (At.cat (pre := []) (seg := [(vB x15.Place)]) (post := [[u21]]) (hM.atk hA20 (sl_blk hv0_1 hi17.2)) cl0) ?_; intro a hE
      refine s_buildF (xs := [.tmp 17]) (l := ([x15.Place] : List UInt8)) (vs := [(vB x15.Place)]) hE hM goes_none (by decide) rfl rfl Try.underlying29 ty5 rfl (by decide) rfl ?_; intro u23 w a hM hE
      obtain ⟨l25, e26, hs11⟩ := bind_some hs11
      obtain ⟨e29, rfl⟩ := app_some e26
      have hM := hM.pull (pre := [_])
      refine s_appendF hE hM goes_none (by decide) rfl rfl (hM.sl (pre := [_]) noB) Try.underlying29 ty5 rfl (by decide) e29 ?_; intro u27 w a hM hE
      refine s_assign hE goes_none (by decide) rfl ?_; intro a hE
      refine c_fin0 ?_
      refine c_nb ?_
      refine c_nx ?_
      refine wp_region_lit ?_
      refine s_move hE goes_none (by decide) rfl ?_; intro a hE
      refine s_int hE goes_none (by decide) rfl rfl rfl ?_; intro a hE
      refine s_assign hE goes_none (by decide) rfl ?_; intro a hE
      refine c_fin0 ?_
      refine c_mid ?_
      have hM := M.fst (l := [_]) hM
      exact ⟨_, (Option.some.inj hs11).symm, u27, hE.sub ⟨rfl, rfl, rfl, trivial⟩, hM⟩
    · intro hb14
      have hs11 := ite_f hs11 hb14
      refine wp_exit (e_then (e_then (e_eq ?_)))
      have ht30 := hx12 _ (Option.some.inj hs11).symm
      subst ht30
      refine c_mid ?_
      exact ⟨u9, hE.sub ⟨rfl, trivial⟩, hM⟩
  · skip
    rintro a w ⟨u6, hE, hM⟩
    refine c_nx ?_
    refine c_region ?_
    refine s_move hE goes_none (by decide) rfl ?_; intro a hE
    refine s_assign hE goes_none (by decide) rfl ?_; intro a hE
    refine c_fin ?_
    have hr := Option.some.inj hF5
    subst hr
    exact wp_ret (k_ret1 hE rfl (res_tmp hE rfl) ⟨_, rfl, u6, rfl, hM.outF (locN1 locN0), hM.kept⟩)
noncomputable def L0_spec_l01Alike (p0 : (List UInt8)) (p1 : (List UInt8)) (s6 : Int) : Option (Fl Int (Fl Unit Bool)) :=
  if (decide (s6 < (p0.length : Int))) = true then (((idx p0 s6).bind fun (x15 : UInt8) => (idx p1 s6).bind fun (x18 : UInt8) => some (x15 != x18) : Option (Bool)).bind fun (j11 : Bool) => if j11 = true then (some (Fl.ex (Fl.ex false))) else (some (Fl.nx (wr (s6 + 1))))) else (some (Fl.ex (Fl.nx ())))
noncomputable def F_spec_l01Alike (p0 : (List UInt8)) (p1 : (List UInt8)) : Option (Bool) :=
  if ((p0.length : Int) != (p1.length : Int)) = true then (some false) else ((iter (L0_spec_l01Alike p0 p1) 0 : Option (Fl Unit Bool)).bind fun (j2 : Fl Unit Bool) => j2.el (fun (s5 : Unit) => some true) (fun r => some r))
set_option maxRecDepth 20000 in
set_option maxHeartbeats 400000 in
theorem c_spec_l01Alike (w0 : World) (p0 : (List UInt8)) (v0_1 : Value) (hv0_1 : Ro w0 p0 [v0_1]) (p1 : (List UInt8)) (v1_1 : Value) (hv1_1 : Ro w0 p1 [v1_1]) (r : Bool) (hF : F_spec_l01Alike p0 p1 = some r) :
    Calls Try.prog 94 [v0_1, v1_1].toArray w0 (fun en w' => ∃ v, en = .returned v ∧ (v = (vT r) ∧ Kept (Old w0) w0 w')) := by
  refine c_enter (n := 26) Try.func94 rfl rfl (Nat.le_of_ble_eq_true rfl) rfl ?_
  intro a hE
  have hM := M.start w0
  unfold F_spec_l01Alike at hF
  refine c_region ?_
  refine s_assign hE goes_none (by decide) rfl ?_; intro a hE
  refine c_fin ?_
  refine wp_seq ?_
  refine c_region ?_
  refine s_move hE goes_none (by decide) rfl ?_; intro a hE
  refine s_len hE goes_none (by decide) rfl Try.underlying29 (hM.rd hv0_1) ?_; intro a hE
  refine s_move hE goes_none (by decide) rfl ?_; intro a hE
  refine s_len hE goes_none (by decide) rfl Try.underlying29 (hM.rd hv1_1) ?_; intro a hE
  refine s_int hE goes_none (by decide) rfl rfl rfl ?_; intro a hE
  refine c_fin ?_
  refine c_cond hE rfl ?_ ?_
  · intro hb1
    have hF := ite_t hF hb1
    refine c_region ?_
    refine s_assign hE goes_none (by decide) rfl ?_; intro a hE
    refine c_fin ?_
    have hr := Option.some.inj hF
    subst hr
    exact wp_ret (r_then (k_ret1 hE rfl (res_tmp hE rfl) ⟨_, rfl, rfl, hM.kept⟩))
  · intro hb1
    have hF := ite_f hF hb1
    refine wp_skip ?_
    refine c_nx ?_
    refine wp_seq ?_
    refine c_region ?_
    refine s_assign hE goes_none (by decide) rfl ?_; intro a hE
    refine c_fin ?_
    obtain ⟨j2, hl3, hF4⟩ := bind_some hF
    refine c_cut (fun a w => ∃ s5 : Unit, j2 = Fl.nx s5 ∧ Env 26 a [] ∧ M (Old w0) w0 w []) ?_ ?_
    · skip
      refine wp_block ?_
      refine c_loop (fun (s6 : Int) a w => Env 26 a [(0, v0_1), (1, v1_1), (5, (vI s6))] ∧ M (Old w0) w0 w []) hl3 ⟨hE.sub ⟨rfl, rfl, rfl, trivial⟩, hM⟩ ?_
      rintro s6 a w ⟨hE, hM⟩ o9 hs7 hx8
      unfold L0_spec_l01Alike at hs7
      refine wp_seq ?_
      refine c_region ?_
      refine s_move hE goes_none (by decide) rfl ?_; intro a hE
      refine s_move hE goes_none (by decide) rfl ?_; intro a hE
      refine s_len hE goes_none (by decide) rfl Try.underlying29 (hM.rd hv0_1) ?_; intro a hE
      refine s_int hE goes_none (by decide) rfl rfl rfl ?_; intro a hE
      refine c_fin ?_
      refine c_cond hE rfl ?_ ?_
      · intro hb10
        have hs7 := ite_t hs7 hb10
        refine wp_skip ?_
        refine c_nx ?_
        refine wp_seq ?_
        refine wp_block ?_
        obtain ⟨j11, hl12, hF13⟩ := bind_some hs7
        refine c_join (fun a w => Env 26 a [(0, v0_1), (1, v1_1), (5, (vI s6)), (25, (vT j11))] ∧ M (Old w0) w0 w []) ?_ ?_
        · skip
          obtain ⟨x15, e16, hl12⟩ := bind_some hl12
          have hi17 := idx_some e16
          obtain ⟨x18, e19, hl12⟩ := bind_some hl12
          have hi20 := idx_some e19
          refine c_draw (n := 26) (hd := [_, _, _, _, _, _, _, _, _]) (tl := []) hmix rfl rfl [17, 18, 19, 20, 21, 22, 23, 24, 25] (by decide) (fun w => M (Old w0) w0 w []) (fun j => ([fun v _ => v = v0_1, fun v _ => v = (vI s6), fun v _ => v = (ptr (sb v0_1) (so v0_1 + (s6).toNat * 1)), fun v _ => v = (vB x15), fun v _ => v = v1_1, fun v _ => v = (vI s6), fun v _ => v = (ptr (sb v1_1) (so v1_1 + (s6).toNat * 1)), fun v _ => v = (vB x18), fun v _ => v = (vT (x15 != x18))] : List (Value → World → Prop)).getD j (fun _ _ => True)) (fun _ _ h hk => h.keep hk) (gup (gupE (gupE (gupE (gupE (gupE (gupE (gupE (gupE (gupE gupN)))))))))) hE hM.drew (steps_of (steps_cons ?_ (steps_cons ?_ (steps_cons ?_ (steps_cons ?_ (steps_cons ?_ (steps_cons ?_ (steps_cons ?_ (steps_cons ?_ (steps_cons ?_ steps_nil)))))))))) ?_
          · intro a w ux14 hE hM hp
            refine s_move hE goes_none (by decide) rfl ?_; intro a hE
            exact ⟨Kept.refl _ _, _, _, rfl, hE, rfl⟩
          · intro a w ux14 hE hM hp
            refine s_move hE goes_none (by decide) rfl ?_; intro a hE
            exact ⟨Kept.refl _ _, _, _, rfl, hE, rfl⟩
          · intro a w ux14 hE hM hp
            have f0 : ux14 0 = v0_1 := hp 0 _ rfl rfl
            have f1 : ux14 1 = (vI s6) := hp 1 _ rfl rfl
            refine s_indexS hE goes_none (by decide) (lk rfl f0) (lk rfl f1) Try.underlying29 ty5 (hM.rd hv0_1) hi17.1 ?_; intro a hE
            exact ⟨Kept.refl _ _, _, _, rfl, hE, rfl⟩
          · intro a w ux14 hE hM hp
            have f2 : ux14 2 = (ptr (sb v0_1) (so v0_1 + (s6).toNat * 1)) := hp 0 _ rfl rfl
            refine s_load (v := (vB x15)) hE goes_none (by decide) (lk rfl f2) ty5 rfl (sl_atF (hM.rd hv0_1) hi17.2) ?_; intro a hE
            exact ⟨Kept.refl _ _, _, _, rfl, hE, rfl⟩
          · intro a w ux14 hE hM hp
            refine s_move hE goes_none (by decide) rfl ?_; intro a hE
            exact ⟨Kept.refl _ _, _, _, rfl, hE, rfl⟩
          · intro a w ux14 hE hM hp
            refine s_move hE goes_none (by decide) rfl ?_; intro a hE
            exact ⟨Kept.refl _ _, _, _, rfl, hE, rfl⟩
          · intro a w ux14 hE hM hp
            have f4 : ux14 4 = v1_1 := hp 0 _ rfl rfl
            have f5 : ux14 5 = (vI s6) := hp 1 _ rfl rfl
            refine s_indexS hE goes_none (by decide) (lk rfl f4) (lk rfl f5) Try.underlying29 ty5 (hM.rd hv1_1) hi20.1 ?_; intro a hE
            exact ⟨Kept.refl _ _, _, _, rfl, hE, rfl⟩
          · intro a w ux14 hE hM hp
            have f6 : ux14 6 = (ptr (sb v1_1) (so v1_1 + (s6).toNat * 1)) := hp 0 _ rfl rfl
            refine s_load (v := (vB x18)) hE goes_none (by decide) (lk rfl f6) ty5 rfl (sl_atF (hM.rd hv1_1) hi20.2) ?_; intro a hE
            exact ⟨Kept.refl _ _, _, _, rfl, hE, rfl⟩
          · intro a w ux14 hE hM hp
            have f3 : ux14 3 = (vB x15) := hp 0 _ rfl rfl
            have f7 : ux14 7 = (vB x18) := hp 1 _ rfl rfl
            refine s_int hE goes_none (by decide) (lk rfl f3) (lk rfl f7) (bB_neq x15 x18) ?_; intro a hE
            exact ⟨Kept.refl _ _, _, _, rfl, hE, rfl⟩
          · intro a w ux14 hE hM hg
            have f0 : ux14 0 = v0_1 := hg 0 (by decide)
            have f1 : ux14 1 = (vI s6) := hg 1 (by decide)
            have f2 : ux14 2 = (ptr (sb v0_1) (so v0_1 + (s6).toNat * 1)) := hg 2 (by decide)
            have f3 : ux14 3 = (vB x15) := hg 3 (by decide)
            have f4 : ux14 4 = v1_1 := hg 4 (by decide)
            have f5 : ux14 5 = (vI s6) := hg 5 (by decide)
            have f6 : ux14 6 = (ptr (sb v1_1) (so v1_1 + (s6).toNat * 1)) := hg 6 (by decide)
            have f7 : ux14 7 = (vB x18) := hg 7 (by decide)
            have f8 : ux14 8 = (vT (x15 != x18)) := hg 8 (by decide)
            have hE := hE.sub (e' := [(17, v0_1), (18, (vI s6)), (19, (ptr (sb v0_1) (so v0_1 + (s6).toNat * 1))), (20, (vB x15)), (21, v1_1), (22, (vI s6)), (23, (ptr (sb v1_1) (so v1_1 + (s6).toNat * 1))), (24, (vB x18)), (25, (vT (x15 != x18))), (0, v0_1), (1, v1_1), (5, (vI s6)), (11, (vI s6)), (12, v0_1), (13, (vI (p0.length : Int))), (14, (vT (decide (s6 < (p0.length : Int)))))]) ⟨lk rfl f0, lk rfl f1, lk rfl f2, lk rfl f3, lk rfl f4, lk rfl f5, lk rfl f6, lk rfl f7, lk rfl f8, rfl, rfl, rfl, rfl, rfl, rfl, rfl, trivial⟩
            refine c_fin0 ?_
            have ht21 := Option.some.inj hl12
            subst ht21
            refine c_mid ?_
            exact ⟨hE.sub ⟨rfl, rfl, rfl, rfl, trivial⟩, hM⟩
        · skip
          rintro a w ⟨hE, hM⟩
          refine c_cond hE rfl ?_ ?_
          · intro hb22
            have hF13 := ite_t hF13 hb22
            refine c_region ?_
            refine s_assign hE goes_none (by decide) rfl ?_; intro a hE
            refine c_fin ?_
            have ht23 := hx8 _ (Option.some.inj hF13).symm
            subst ht23
            have hr := Option.some.inj hF4
            subst hr
            exact wp_ret (r_inb (r_then (r_then (r_inb (r_then (r_then (k_ret1 hE rfl (res_tmp hE rfl) ⟨_, rfl, rfl, hM.kept⟩)))))))
          · intro hb22
            have hF13 := ite_f hF13 hb22
            refine wp_skip ?_
            refine c_nb ?_
            refine c_nx ?_
            refine wp_region_lit ?_
            refine s_move hE goes_none (by decide) rfl ?_; intro a hE
            refine s_int hE goes_none (by decide) rfl rfl rfl ?_; intro a hE
            refine s_assign hE goes_none (by decide) rfl ?_; intro a hE
            refine c_fin0 ?_
            refine c_mid ?_
            exact ⟨_, (Option.some.inj hF13).symm, hE.sub ⟨rfl, rfl, rfl, trivial⟩, hM⟩
      · intro hb10
        have hs7 := ite_f hs7 hb10
        refine wp_exit (e_then (e_then (e_eq ?_)))
        have ht24 := hx8 _ (Option.some.inj hs7).symm
        subst ht24
        refine c_mid ?_
        exact ⟨(), rfl, hE.sub trivial, hM⟩
    · skip
      rintro a w ⟨s5, ht, hE, hM⟩
      subst ht
      refine c_nx ?_
      refine c_region ?_
      refine s_assign hE goes_none (by decide) rfl ?_; intro a hE
      refine c_fin ?_
      have hr := Option.some.inj hF4
      subst hr
      exact wp_ret (k_ret1 hE rfl (res_tmp hE rfl) ⟨_, rfl, rfl, hM.kept⟩)
noncomputable def L1_spec_l10Add (p0 : (List GShare)) (p1 : (List GShare)) (s8 : (List GShare) × Int) (s30 : (List UInt8) × Int) : Option (Fl ((List UInt8) × Int) (List UInt8)) :=
  (idx p0 s8.2).bind fun (x37 : GShare) => if (decide (s30.2 < (x37.Data.length : Int))) = true then ((idx p0 s8.2).bind fun (x47 : GShare) => (idx x47.Data s30.2).bind fun (x55 : UInt8) => (idx p1 s8.2).bind fun (x58 : GShare) => (idx x58.Data s30.2).bind fun (x66 : UInt8) => (app 1 s30.1 ([x55 ^^^ x66] : List UInt8)).bind fun (l71 : (List UInt8)) => some (Fl.nx ((s30.1 ++ ([x55 ^^^ x66] : List UInt8)), wr (s30.2 + 1)))) else (some (Fl.ex s30.1))
noncomputable def L0_spec_l10Add (p0 : (List GShare)) (p1 : (List GShare)) (s8 : (List GShare) × Int) : Option (Fl ((List GShare) × Int) (List GShare)) :=
  if (decide (s8.2 < (p0.length : Int))) = true then ((idx p0 s8.2).bind fun (x15 : GShare) => (iter (L1_spec_l10Add p0 p1 s8) ([], 0) : Option ((List UInt8))).bind fun (j25 : (List UInt8)) => (app 32 s8.1 ([(⟨x15.Place, j25⟩ : GShare)] : List GShare)).bind fun (l79 : (List GShare)) => some (Fl.nx ((s8.1 ++ ([(⟨x15.Place, j25⟩ : GShare)] : List GShare)), wr (s8.2 + 1)))) else (some (Fl.ex s8.1))
noncomputable def F_spec_l10Add (p0 : (List GShare)) (p1 : (List GShare)) : Option ((List GShare)) :=
  (iter (L0_spec_l10Add p0 p1) (([] : List GShare), 0) : Option ((List GShare))).bind fun (j3 : (List GShare)) => some j3
set_option maxRecDepth 20000 in
set_option maxHeartbeats 400000 in
theorem c_spec_l10Add (w0 : World) (p0 : (List GShare)) (v0_1 : Value) (hv0_1 : Ro w0 p0 [v0_1]) (p1 : (List GShare)) (v1_1 : Value) (hv1_1 : Ro w0 p1 [v1_1]) (r : (List GShare)) (hF : F_spec_l10Add p0 p1 = some r) :
    Calls Try.prog 96 [v0_1, v1_1].toArray w0 (fun en w' => ∃ v, en = .returned v ∧ (∃ (y1 : Value), v = y1 ∧ Fr w0 w' [osl NoB (r : List GShare) y1] ∧ Kept (Old w0) w0 w')) := by
  refine c_enter (n := 59) Try.func96 rfl rfl (Nat.le_of_ble_eq_true rfl) rfl ?_
  intro a hE
  have hM := M.start w0
  unfold F_spec_l10Add at hF
  refine c_region ?_
  refine s_assign hE goes_none (by decide) rfl ?_; intro a hE
  refine c_fin ?_
  refine c_region ?_
  refine s_build (xs := []) (S := NoB) (l := ([] : List GShare)) (vs := []) hE hM.emp noB goes_none (by decide) rfl rfl rfl Try.underlying25 ty81 rfl (by decide) (fun _ h => ⟨rfl, h⟩) (fun _ h => by cases h) ?_; intro u1 w a hM hE
  refine s_assign hE goes_none (by decide) rfl ?_; intro a hE
  refine c_fin ?_
  refine wp_seq ?_
  refine c_region ?_
  refine s_assign hE goes_none (by decide) rfl ?_; intro a hE
  refine c_fin ?_
  obtain ⟨j3, hl4, hF5⟩ := bind_some hF
  refine c_cut (fun a w => ∃ (u6 : Value), Env 59 a [(5, u6)] ∧ M (Old w0) w0 w [osl NoB (j3 : List GShare) u6]) ?_ ?_
  · skip
    refine wp_block ?_
    refine c_loop (fun (s8 : (List GShare) × Int) a w => ∃ (u9 : Value), Env 59 a [(0, v0_1), (1, v1_1), (5, u9), (6, (vI s8.2))] ∧ M (Old w0) w0 w [osl NoB (s8.1 : List GShare) u9]) hl4 ⟨u1, hE.sub ⟨rfl, rfl, rfl, rfl, trivial⟩, hM⟩ ?_
    rintro s8 a w ⟨u9, hE, hM⟩ o13 hs11 hx12
    unfold L0_spec_l10Add at hs11
    refine wp_seq ?_
    refine c_region ?_
    refine s_move hE goes_none (by decide) rfl ?_; intro a hE
    refine s_move hE goes_none (by decide) rfl ?_; intro a hE
    refine s_len hE goes_none (by decide) rfl Try.underlying25 (hM.rd hv0_1) ?_; intro a hE
    refine s_int hE goes_none (by decide) rfl rfl rfl ?_; intro a hE
    refine c_fin ?_
    refine c_cond hE rfl ?_ ?_
    · intro hb14
      have hs11 := ite_t hs11 hb14
      refine wp_skip ?_
      refine c_nx ?_
      refine wp_seq ?_
      refine wp_block ?_
      refine c_region ?_
      refine s_move hE goes_none (by decide) rfl ?_; intro a hE
      refine s_move hE goes_none (by decide) rfl ?_; intro a hE
      obtain ⟨x15, e16, hs11⟩ := bind_some hs11
      have hi17 := idx_some e16
      refine s_indexS hE goes_none (by decide) rfl rfl Try.underlying25 ty81 (hM.rd hv0_1) hi17.1 ?_; intro a hE
      refine s_fieldAddr hE goes_none (by decide) rfl (fd81_0) ?_; intro a hE
      obtain ⟨cs18, hs19, hA20⟩ := sl_atRo hv0_1 hi17.2 -- ^
      obtain ⟨u21, rfl, h22⟩ := un_GShare hs19 -- ^
      refine s_load (v := (vB x15.Place)) hE goes_none (by decide) rfl ty5 rfl (At.cat (pre := []) (seg := [(vB x15.Place)]) (post := [[u21]]) (hM.atk hA20 (sl_blk hv0_1 hi17.2)) cl0) ?_; intro a hE
      refine s_buildStr (parts := [(0, .tmp 20)]) (vs := [(0, (vB x15.Place))]) (cs := cat [[(vB x15.Place)], [(Value.slice none 0 0)]]) hE goes_none (by decide) rfl rfl ty81 pl81 (fill_step (pre := []) (seg := [(vB 0)]) (seg' := [(vB x15.Place)]) (post := [[(Value.slice none 0 0)]]) rfl cl0 rfl rfl rfl fill_nil) ?_; intro a hE
      refine s_alloc hE hM goes_none (by decide) ty81 ?_; intro b23 w a hM hE
      refine s_store (seg := cat [[(vB x15.Place)], [(Value.slice none 0 0)]]) (cs' := cat [[(vB x15.Place)], [(Value.slice none 0 0)]]) hE hM goes_none rfl rfl rfl ty81 (cat_len (cl1 (n := 1) (m := 1) rfl (cl1 (n := 1) (m := 0) rfl cl0))) (Nat.le_of_eq ((Nat.zero_add _).trans (Eq.trans (cat_len (cl1 (n := 1) (m := 1) rfl (cl1 (n := 1) (m := 0) rfl cl0))) (Eq.symm (cat_len (cl1 (n := 1) (m := 1) rfl (cl1 (n := 1) (m := 0) rfl cl0))))))) (cat_cell (cc1 (Flat.cell (x15.Place : UInt8)) (cc1 cellNil cc0))) (splice_all (Eq.trans (cat_len (cl1 (n := 1) (m := 1) rfl (cl1 (n := 1) (m := 0) rfl cl0))) (Eq.symm (cat_len (cl1 (n := 1) (m := 1) rfl (cl1 (n := 1) (m := 0) rfl cl0)))))) ?_; intro w a hM hE
      refine c_fin ?_
      refine wp_seq ?_
      refine c_region ?_
      refine s_assign hE goes_none (by decide) rfl ?_; intro a hE
      refine c_fin ?_
      obtain ⟨j25, hl26, hF27⟩ := bind_some hs11
      refine c_cut (fun a w => ∃ (u28 : Value), Env 59 a [(0, v0_1), (1, v1_1), (5, u9), (6, (vI s8.2)), (7, (ptr b23 0))] ∧ M (Old w0) w0 w [raw b23 (cat [[(vB x15.Place)], [u28]]), osl NoB (s8.1 : List GShare) u9, osl NoB (j25 : List UInt8) u28]) ?_ ?_
      · skip
        refine wp_block ?_
        have hM := M.nilS (α := UInt8) NoB noB hM
        have hM := hM.pull (pre := [_, _])
        have hM := hM.pull (pre := [_, _])
        refine c_loop (fun (s30 : (List UInt8) × Int) a w => ∃ (u31 : Value), Env 59 a [(0, v0_1), (1, v1_1), (5, u9), (6, (vI s8.2)), (7, (ptr b23 0)), (8, (vI s30.2))] ∧ M (Old w0) w0 w [raw b23 (cat [[(vB x15.Place)], [u31]]), osl NoB (s8.1 : List GShare) u9, osl NoB (s30.1 : List UInt8) u31]) hl26 ⟨(Value.slice none 0 0), hE.sub ⟨rfl, rfl, rfl, rfl, rfl, rfl, trivial⟩, hM⟩ ?_
        rintro s30 a w ⟨u31, hE, hM⟩ o35 hs33 hx34
        unfold L1_spec_l10Add at hs33
        refine wp_seq ?_
        refine c_region ?_
        refine s_move hE goes_none (by decide) rfl ?_; intro a hE
        refine s_move hE goes_none (by decide) rfl ?_; intro a hE
        refine s_move hE goes_none (by decide) rfl ?_; intro a hE
        obtain ⟨x37, e38, hs33⟩ := bind_some hs33
        have hi39 := idx_some e38
        refine s_indexS hE goes_none (by decide) rfl rfl Try.underlying25 ty81 (hM.rd hv0_1) hi39.1 ?_; intro a hE
        refine s_fieldAddr hE goes_none (by decide) rfl (fd81_1) ?_; intro a hE
        obtain ⟨cs40, hs41, hA42⟩ := sl_atRo hv0_1 hi39.2 -- ^
        obtain ⟨u43, rfl, h44⟩ := un_GShare hs41 -- ^
        refine s_load (v := u43) hE goes_none (by decide) rfl ty29 rfl (At.cat (pre := [[(vB x37.Place)]]) (seg := [u43]) (post := []) (hM.atk hA42 (sl_blk hv0_1 hi39.2)) (cl1 (n := 1) (m := 0) rfl cl0)) ?_; intro a hE
        refine s_len hE goes_none (by decide) rfl Try.underlying29 (hM.rd h44) ?_; intro a hE
        refine s_int hE goes_none (by decide) rfl rfl rfl ?_; intro a hE
        refine c_fin ?_
        refine c_cond hE rfl ?_ ?_
        · intro hb45
          have hs33 := ite_t hs33 hb45
          refine wp_skip ?_
          refine c_nx ?_
          refine wp_seq ?_
          refine wp_block ?_
          obtain ⟨x47, e48, hs33⟩ := bind_some hs33
          have hi49 := idx_some e48
          obtain ⟨cs50, hs51, hA52⟩ := sl_atRo hv0_1 hi49.2 -- ^
          obtain ⟨u53, rfl, h54⟩ := un_GShare hs51 -- ^
          obtain ⟨x55, e56, hs33⟩ := bind_some hs33
          have hi57 := idx_some e56
          obtain ⟨x58, e59, hs33⟩ := bind_some hs33
          have hi60 := idx_some e59
          obtain ⟨cs61, hs62, hA63⟩ := sl_atRo hv1_1 hi60.2 -- ^
          obtain ⟨u64, rfl, h65⟩ := un_GShare hs62 -- ^
          obtain ⟨x66, e67, hs33⟩ := bind_some hs33
          have hi68 := idx_some e67
          refine c_draw2 (n := 59) (hd := [_, _, _, _, _, _, _, _, _, _, _, _, _, _, _, _, _, _, _, _]) (tl := [_, _, _]) (its := [raw b23 (cat [[(vB x15.Place)], [u31]]), osl NoB (s8.1 : List GShare) u9, osl NoB (s30.1 : List UInt8) u31]) hmix rfl rfl [32, 33, 34, 35, 36, 37, 38, 39, 40, 41, 42, 43, 44, 45, 46, 47, 48, 49, 50, 51] (by decide) [(19, fun v => osl NoB (([x55 ^^^ x66] : List UInt8) : List UInt8) v)] rfl (fun j => ([fun v => v = (ptr b23 (0 + 1)), fun v => v = u31, fun v => v = v0_1, fun v => v = (vI s8.2), fun v => v = (ptr (sb v0_1) (so v0_1 + (s8.2).toNat * 2)), fun v => v = (ptr (sb v0_1) (so v0_1 + (s8.2).toNat * 2 + 1)), fun v => v = u53, fun v => v = (vI s30.2), fun v => v = (ptr (sb u53) (so u53 + (s30.2).toNat * 1)), fun v => v = (vB x55), fun v => v = v1_1, fun v => v = (vI s8.2), fun v => v = (ptr (sb v1_1) (so v1_1 + (s8.2).toNat * 2)), fun v => v = (ptr (sb v1_1) (so v1_1 + (s8.2).toNat * 2 + 1)), fun v => v = u64, fun v => v = (vI s30.2), fun v => v = (ptr (sb u64) (so u64 + (s30.2).toNat * 1)), fun v => v = (vB x66), fun v => v = (vB (x55 ^^^ x66)), fun v => True] : List (Value → Prop)).getD j (fun _ => True)) hE hM.drew (steps_of (steps_cons ?_ (steps_cons ?_ (steps_cons ?_ (steps_cons ?_ (steps_cons ?_ (steps_cons ?_ (steps_cons ?_ (steps_cons ?_ (steps_cons ?_ (steps_cons ?_ (steps_cons ?_ (steps_cons ?_ (steps_cons ?_ (steps_cons ?_ (steps_cons ?_ (steps_cons ?_ (steps_cons ?_ (steps_cons ?_ (steps_cons ?_ (steps_cons ?_ steps_nil))))))))))))))))))))) ?_
          · intro a w ux46 D hE hM hD hp
            have hM0 := hM
            refine s_fieldAddr hE goes_none (by decide) rfl (fd81_1) ?_; intro a hE
            exact ⟨_, _, rfl, hE, rfl, hM0.optKeep rfl⟩
          · intro a w ux46 D hE hM hD hp
            have f0 : ux46 0 = (ptr b23 (0 + 1)) := (hp 0 _ rfl rfl).2
            have hM0 := hM
            have hM : M (Old w0) w0 w [raw b23 (cat [[(vB x15.Place)], [u31]]), osl NoB (s8.1 : List GShare) u9, osl NoB (s30.1 : List UInt8) u31, opt (D 19) (osl NoB (([x55 ^^^ x66] : List UInt8) : List UInt8) (ux46 19))] := hM
            refine s_load (v := u31) hE goes_none (by decide) (lk rfl f0) ty29 rfl (At.cat (pre := [[(vB x15.Place)]]) (seg := [u31]) (post := []) (hM.rawAt (pre := [])) (cl1 (n := 1) (m := 0) rfl cl0)) ?_; intro a hE
            exact ⟨_, _, rfl, hE, rfl, hM0.optKeep rfl⟩
          · intro a w ux46 D hE hM hD hp
            have hM0 := hM
            refine s_move hE goes_none (by decide) rfl ?_; intro a hE
            exact ⟨_, _, rfl, hE, rfl, hM0.optKeep rfl⟩
          · intro a w ux46 D hE hM hD hp
            have hM0 := hM
            refine s_move hE goes_none (by decide) rfl ?_; intro a hE
            exact ⟨_, _, rfl, hE, rfl, hM0.optKeep rfl⟩
          · intro a w ux46 D hE hM hD hp
            have f2 : ux46 2 = v0_1 := (hp 0 _ rfl rfl).2
            have f3 : ux46 3 = (vI s8.2) := (hp 1 _ rfl rfl).2
            have hM0 := hM
            have hM : M (Old w0) w0 w [raw b23 (cat [[(vB x15.Place)], [u31]]), osl NoB (s8.1 : List GShare) u9, osl NoB (s30.1 : List UInt8) u31, opt (D 19) (osl NoB (([x55 ^^^ x66] : List UInt8) : List UInt8) (ux46 19))] := hM
            refine s_indexS hE goes_none (by decide) (lk rfl f2) (lk rfl f3) Try.underlying25 ty81 (hM.rd hv0_1) hi49.1 ?_; intro a hE
            exact ⟨_, _, rfl, hE, rfl, hM0.optKeep rfl⟩
          · intro a w ux46 D hE hM hD hp
            have f4 : ux46 4 = (ptr (sb v0_1) (so v0_1 + (s8.2).toNat * 2)) := (hp 0 _ rfl rfl).2
            have hM0 := hM
            refine s_fieldAddr hE goes_none (by decide) (lk rfl f4) (fd81_1) ?_; intro a hE
            exact ⟨_, _, rfl, hE, rfl, hM0.optKeep rfl⟩
          · intro a w ux46 D hE hM hD hp
            have f5 : ux46 5 = (ptr (sb v0_1) (so v0_1 + (s8.2).toNat * 2 + 1)) := (hp 0 _ rfl rfl).2
            have hM0 := hM
            have hM : M (Old w0) w0 w [raw b23 (cat [[(vB x15.Place)], [u31]]), osl NoB (s8.1 : List GShare) u9, osl NoB (s30.1 : List UInt8) u31, opt (D 19) (osl NoB (([x55 ^^^ x66] : List UInt8) : List UInt8) (ux46 19))] := hM
            refine s_load (v := u53) hE goes_none (by decide) (lk rfl f5) ty29 rfl (At.cat (pre := [[(vB x47.Place)]]) (seg := [u53]) (post := []) (hM.atk hA52 (sl_blk hv0_1 hi49.2)) (cl1 (n := 1) (m := 0) rfl cl0)) ?_; intro a hE
            exact ⟨_, _, rfl, hE, rfl, hM0.optKeep rfl⟩
          · intro a w ux46 D hE hM hD hp
            have hM0 := hM
            refine s_move hE goes_none (by decide) rfl ?_; intro a hE
            exact ⟨_, _, rfl, hE, rfl, hM0.optKeep rfl⟩
          · intro a w ux46 D hE hM hD hp
            have f6 : ux46 6 = u53 := (hp 0 _ rfl rfl).2
            have f7 : ux46 7 = (vI s30.2) := (hp 1 _ rfl rfl).2
            have hM0 := hM
            have hM : M (Old w0) w0 w [raw b23 (cat [[(vB x15.Place)], [u31]]), osl NoB (s8.1 : List GShare) u9, osl NoB (s30.1 : List UInt8) u31, opt (D 19) (osl NoB (([x55 ^^^ x66] : List UInt8) : List UInt8) (ux46 19))] := hM
            refine s_indexS hE goes_none (by decide) (lk rfl f6) (lk rfl f7) Try.underlying29 ty5 (hM.rd h54) hi57.1 ?_; intro a hE
            exact ⟨_, _, rfl, hE, rfl, hM0.optKeep rfl⟩
          · intro a w ux46 D hE hM hD hp
            have f8 : ux46 8 = (ptr (sb u53) (so u53 + (s30.2).toNat * 1)) := (hp 0 _ rfl rfl).2
            have hM0 := hM
            have hM : M (Old w0) w0 w [raw b23 (cat [[(vB x15.Place)], [u31]]), osl NoB (s8.1 : List GShare) u9, osl NoB (s30.1 : List UInt8) u31, opt (D 19) (osl NoB (([x55 ^^^ x66] : List UInt8) : List UInt8) (ux46 19))] := hM
            refine s_load (v := (vB x55)) hE goes_none (by decide) (lk rfl f8) ty5 rfl (sl_atF (hM.rd h54) hi57.2) ?_; intro a hE
            exact ⟨_, _, rfl, hE, rfl, hM0.optKeep rfl⟩
          · intro a w ux46 D hE hM hD hp
            have hM0 := hM
            refine s_move hE goes_none (by decide) rfl ?_; intro a hE
            exact ⟨_, _, rfl, hE, rfl, hM0.optKeep rfl⟩
          · intro a w ux46 D hE hM hD hp
            have hM0 := hM
            refine s_move hE goes_none (by decide) rfl ?_; intro a hE
            exact ⟨_, _, rfl, hE, rfl, hM0.optKeep rfl⟩
          · intro a w ux46 D hE hM hD hp
            have f10 : ux46 10 = v1_1 := (hp 0 _ rfl rfl).2
            have f11 : ux46 11 = (vI s8.2) := (hp 1 _ rfl rfl).2
            have hM0 := hM
            have hM : M (Old w0) w0 w [raw b23 (cat [[(vB x15.Place)], [u31]]), osl NoB (s8.1 : List GShare) u9, osl NoB (s30.1 : List UInt8) u31, opt (D 19) (osl NoB (([x55 ^^^ x66] : List UInt8) : List UInt8) (ux46 19))] := hM
            refine s_indexS hE goes_none (by decide) (lk rfl f10) (lk rfl f11) Try.underlying25 ty81 (hM.rd hv1_1) hi60.1 ?_; intro a hE
            exact ⟨_, _, rfl, hE, rfl, hM0.optKeep rfl⟩
          · intro a w ux46 D hE hM hD hp
            have f12 : ux46 12 = (ptr (sb v1_1) (so v1_1 + (s8.2).toNat * 2)) := (hp 0 _ rfl rfl).2
            have hM0 := hM
            refine s_fieldAddr hE goes_none (by decide) (lk rfl f12) (fd81_1) ?_; intro a hE
            exact ⟨_, _, rfl, hE, rfl, hM0.optKeep rfl⟩
          · intro a w ux46 D hE hM hD hp
            have f13 : ux46 13 = (ptr (sb v1_1) (so v1_1 + (s8.2).toNat * 2 + 1)) := (hp 0 _ rfl rfl).2
            have hM0 := hM
            have hM : M (Old w0) w0 w [raw b23 (cat [[(vB x15.Place)], [u31]]), osl NoB (s8.1 : List GShare) u9, osl NoB (s30.1 : List UInt8) u31, opt (D 19) (osl NoB (([x55 ^^^ x66] : List UInt8) : List UInt8) (ux46 19))] := hM
            refine s_load (v := u64) hE goes_none (by decide) (lk rfl f13) ty29 rfl (At.cat (pre := [[(vB x58.Place)]]) (seg := [u64]) (post := []) (hM.atk hA63 (sl_blk hv1_1 hi60.2)) (cl1 (n := 1) (m := 0) rfl cl0)) ?_; intro a hE
            exact ⟨_, _, rfl, hE, rfl, hM0.optKeep rfl⟩
          · intro a w ux46 D hE hM hD hp
            have hM0 := hM
            refine s_move hE goes_none (by decide) rfl ?_; intro a hE
            exact ⟨_, _, rfl, hE, rfl, hM0.optKeep rfl⟩
          · intro a w ux46 D hE hM hD hp
            have f14 : ux46 14 = u64 := (hp 0 _ rfl rfl).2
            have f15 : ux46 15 = (vI s30.2) := (hp 1 _ rfl rfl).2
            have hM0 := hM
            have hM : M (Old w0) w0 w [raw b23 (cat [[(vB x15.Place)], [u31]]), osl NoB (s8.1 : List GShare) u9, osl NoB (s30.1 : List UInt8) u31, opt (D 19) (osl NoB (([x55 ^^^ x66] : List UInt8) : List UInt8) (ux46 19))] := hM
            refine s_indexS hE goes_none (by decide) (lk rfl f14) (lk rfl f15) Try.underlying29 ty5 (hM.rd h65) hi68.1 ?_; intro a hE
            exact ⟨_, _, rfl, hE, rfl, hM0.optKeep rfl⟩
          · intro a w ux46 D hE hM hD hp
            have f16 : ux46 16 = (ptr (sb u64) (so u64 + (s30.2).toNat * 1)) := (hp 0 _ rfl rfl).2
            have hM0 := hM
            have hM : M (Old w0) w0 w [raw b23 (cat [[(vB x15.Place)], [u31]]), osl NoB (s8.1 : List GShare) u9, osl NoB (s30.1 : List UInt8) u31, opt (D 19) (osl NoB (([x55 ^^^ x66] : List UInt8) : List UInt8) (ux46 19))] := hM
            refine s_load (v := (vB x66)) hE goes_none (by decide) (lk rfl f16) ty5 rfl (sl_atF (hM.rd h65) hi68.2) ?_; intro a hE
            exact ⟨_, _, rfl, hE, rfl, hM0.optKeep rfl⟩
          · intro a w ux46 D hE hM hD hp
            have f9 : ux46 9 = (vB x55) := (hp 0 _ rfl rfl).2
            have f17 : ux46 17 = (vB x66) := (hp 1 _ rfl rfl).2
            have hM0 := hM
            refine s_int hE goes_none (by decide) (lk rfl f9) (lk rfl f17) (bB_xor x55 x66) ?_; intro a hE
            exact ⟨_, _, rfl, hE, rfl, hM0.optKeep rfl⟩
          · intro a w ux46 D hE hM hD hp
            have f18 : ux46 18 = (vB (x55 ^^^ x66)) := (hp 0 _ rfl rfl).2
            have hM0 := hM
            have hM : M (Old w0) w0 w [raw b23 (cat [[(vB x15.Place)], [u31]]), osl NoB (s8.1 : List GShare) u9, osl NoB (s30.1 : List UInt8) u31, opt (D 19) (osl NoB (([x55 ^^^ x66] : List UInt8) : List UInt8) (ux46 19))] := hM
            refine s_buildF (xs := [.tmp 50]) (l := ([x55 ^^^ x66] : List UInt8)) (vs := [(vB (x55 ^^^ x66))]) hE hM goes_none (by decide) (evs_of (evsC (lk rfl f18) evsN)) rfl Try.underlying29 ty5 rfl (by decide) rfl ?_; intro u69 w a hM hE
            exact ⟨_, _, rfl, hE, trivial, M.optFill (mk1 := []) (mk2 := []) (f := (fun v => osl NoB (([x55 ^^^ x66] : List UInt8) : List UInt8) v)) hM rfl hD⟩
          · intro a w ux46 hE hM hg
            have f0 : ux46 0 = (ptr b23 (0 + 1)) := hg 0 (by decide)
            have f1 : ux46 1 = u31 := hg 1 (by decide)
            have f2 : ux46 2 = v0_1 := hg 2 (by decide)
            have f3 : ux46 3 = (vI s8.2) := hg 3 (by decide)
            have f4 : ux46 4 = (ptr (sb v0_1) (so v0_1 + (s8.2).toNat * 2)) := hg 4 (by decide)
            have f5 : ux46 5 = (ptr (sb v0_1) (so v0_1 + (s8.2).toNat * 2 + 1)) := hg 5 (by decide)
            have f6 : ux46 6 = u53 := hg 6 (by decide)
            have f7 : ux46 7 = (vI s30.2) := hg 7 (by decide)
            have f8 : ux46 8 = (ptr (sb u53) (so u53 + (s30.2).toNat * 1)) := hg 8 (by decide)
            have f9 : ux46 9 = (vB x55) := hg 9 (by decide)
            have f10 : ux46 10 = v1_1 := hg 10 (by decide)
            have f11 : ux46 11 = (vI s8.2) := hg 11 (by decide)
            have f12 : ux46 12 = (ptr (sb v1_1) (so v1_1 + (s8.2).toNat * 2)) := hg 12 (by decide)
            have f13 : ux46 13 = (ptr (sb v1_1) (so v1_1 + (s8.2).toNat * 2 + 1)) := hg 13 (by decide)
            have f14 : ux46 14 = u64 := hg 14 (by decide)
            have f15 : ux46 15 = (vI s30.2) := hg 15 (by decide)
            have f16 : ux46 16 = (ptr (sb u64) (so u64 + (s30.2).toNat * 1)) := hg 16 (by decide)
            have f17 : ux46 17 = (vB x66) := hg 17 (by decide)
            have f18 : ux46 18 = (vB (x55 ^^^ x66)) := hg 18 (by decide)
            have hM : M (Old w0) w0 w [raw b23 (cat [[(vB x15.Place)], [u31]]), osl NoB (s8.1 : List GShare) u9, osl NoB (s30.1 : List UInt8) u31, osl NoB (([x55 ^^^ x66] : List UInt8) : List UInt8) (ux46 19)] := hM
            have hE := hE.sub (e' := [(32, (ptr b23 (0 + 1))), (33, u31), (34, v0_1), (35, (vI s8.2)), (36, (ptr (sb v0_1) (so v0_1 + (s8.2).toNat * 2))), (37, (ptr (sb v0_1) (so v0_1 + (s8.2).toNat * 2 + 1))), (38, u53), (39, (vI s30.2)), (40, (ptr (sb u53) (so u53 + (s30.2).toNat * 1))), (41, (vB x55)), (42, v1_1), (43, (vI s8.2)), (44, (ptr (sb v1_1) (so v1_1 + (s8.2).toNat * 2))), (45, (ptr (sb v1_1) (so v1_1 + (s8.2).toNat * 2 + 1))), (46, u64), (47, (vI s30.2)), (48, (ptr (sb u64) (so u64 + (s30.2).toNat * 1))), (49, (vB x66)), (50, (vB (x55 ^^^ x66))), (51, (ux46 19)), (0, v0_1), (1, v1_1), (5, u9), (6, (vI s8.2)), (7, (ptr b23 0)), (8, (vI s30.2)), (22, (vI s30.2)), (23, v0_1), (24, (vI s8.2)), (25, (ptr (sb v0_1) (so v0_1 + (s8.2).toNat * 2))), (26, (ptr (sb v0_1) (so v0_1 + (s8.2).toNat * 2 + 1))), (27, u43), (28, (vI (x37.Data.length : Int))), (29, (vT (decide (s30.2 < (x37.Data.length : Int)))))]) ⟨lk rfl f0, lk rfl f1, lk rfl f2, lk rfl f3, lk rfl f4, lk rfl f5, lk rfl f6, lk rfl f7, lk rfl f8, lk rfl f9, lk rfl f10, lk rfl f11, lk rfl f12, lk rfl f13, lk rfl f14, lk rfl f15, lk rfl f16, lk rfl f17, lk rfl f18, rfl, rfl, rfl, rfl, rfl, rfl, rfl, rfl, rfl, rfl, rfl, rfl, rfl, rfl, rfl, trivial⟩
            obtain ⟨l71, e72, hs33⟩ := bind_some hs33
            obtain ⟨e75, rfl⟩ := app_some e72
            have hM := hM.pull (pre := [_, _])
            refine s_appendF hE hM goes_none (by decide) rfl rfl (hM.sl (pre := [_, _, _]) noB) Try.underlying29 ty5 rfl (by decide) e75 ?_; intro u73 w a hM hE
            refine s_fieldAddr hE goes_none (by decide) rfl (fd81_1) ?_; intro a hE
            have hM := hM.pull (pre := [_])
            refine s_store (seg := [u73]) (cs' := cat [[(vB x15.Place)], [u73]]) hE hM goes_none rfl rfl (sl_cells (hM.sl (pre := [_]) noB)) ty29 rfl (fit_cat (pre := [[(vB x15.Place)]]) (seg := [u31]) (post := []) (cl1 (n := 1) (m := 0) rfl cl0) (Eq.trans rfl (Eq.symm rfl))) (Rep.cell (hM.sl (pre := [_]) noB)) (splice_cat (pre := [[(vB x15.Place)]]) (seg := [u31]) (post := []) (cl1 (n := 1) (m := 0) rfl cl0) (Eq.trans rfl (Eq.symm rfl))) ?_; intro w a hM hE
            refine c_fin0 ?_
            refine c_nb ?_
            refine c_nx ?_
            refine wp_region_lit ?_
            refine s_move hE goes_none (by decide) rfl ?_; intro a hE
            refine s_int hE goes_none (by decide) rfl rfl rfl ?_; intro a hE
            refine s_assign hE goes_none (by decide) rfl ?_; intro a hE
            refine c_fin0 ?_
            refine c_mid ?_
            have hM := hM.pull (pre := [_])
            have hM := hM.pull (pre := [_, _])
            have hM := hM.pull (pre := [_, _])
            have hM := M.fst (l := [_, _, _]) hM
            exact ⟨_, (Option.some.inj hs33).symm, u73, hE.sub ⟨rfl, rfl, rfl, rfl, rfl, rfl, trivial⟩, hM⟩
        · intro hb45
          have hs33 := ite_f hs33 hb45
          refine wp_exit (e_then (e_then (e_eq ?_)))
          have ht76 := hx34 _ (Option.some.inj hs33).symm
          subst ht76
          refine c_mid ?_
          exact ⟨u31, hE.sub ⟨rfl, rfl, rfl, rfl, rfl, trivial⟩, hM⟩
      · skip
        rintro a w ⟨u28, hE, hM⟩
        refine c_nx ?_
        refine wp_region_lit ?_
        refine s_move hE goes_none (by decide) rfl ?_; intro a hE
        refine s_loadA (cs := cat [[(vB x15.Place)], [u28]]) hE goes_none (by decide) rfl ty81 rfl (hM.rawAt (pre := [])) (cat_len (cl1 (n := 1) (m := 1) rfl (cl1 (n := 1) (m := 0) rfl cl0))) ?_; intro a hE
        have hM := hM.pull (pre := [_, _])
        have hM := hM.pack1 (it := own NoB (⟨x15.Place, j25⟩ : GShare) (cat [[(vB x15.Place)], [u28]])) (own_loc noB) (fun f0 q0 => (pk_GShare (OwnSl.sat q0) (by simp)))
        refine s_build1 (xs := [.tmp 55]) (seg := cat [[(vB x15.Place)], [u28]]) hE hM noB goes_none (by decide) rfl rfl Try.underlying25 ty81 rfl (by decide) ?_; intro u77 w a hM hE
        obtain ⟨l79, e80, hF27⟩ := bind_some hF27
        obtain ⟨e83, rfl⟩ := app_some e80
        have hM := hM.pull (pre := [_, _])
        refine s_appendR hE hM noB goes_none (by decide) rfl rfl Try.underlying25 ty81 rfl (by decide) e83 ?_; intro u81 w a hM hE
        refine s_assign hE goes_none (by decide) rfl ?_; intro a hE
        refine c_fin0 ?_
        refine c_nb ?_
        refine c_nx ?_
        refine wp_region_lit ?_
        refine s_move hE goes_none (by decide) rfl ?_; intro a hE
        refine s_int hE goes_none (by decide) rfl rfl rfl ?_; intro a hE
        refine s_assign hE goes_none (by decide) rfl ?_; intro a hE
        refine c_fin0 ?_
        refine c_mid ?_
        have hM := M.fst (l := [_]) hM
        exact ⟨_, (Option.some.inj hF27).symm, u81, hE.sub ⟨rfl, rfl, rfl, rfl, trivial⟩, hM⟩
    · intro hb14
      have hs11 := ite_f hs11 hb14
      refine wp_exit (e_then (e_then (e_eq ?_)))
      have ht84 := hx12 _ (Option.some.inj hs11).symm
      subst ht84
      refine c_mid ?_
      exact ⟨u9, hE.sub ⟨rfl, trivial⟩, hM⟩
  · skip
    rintro a w ⟨u6, hE, hM⟩
    refine c_nx ?_
    refine c_region ?_
    refine s_move hE goes_none (by decide) rfl ?_; intro a hE
    refine s_assign hE goes_none (by decide) rfl ?_; intro a hE
    refine c_fin ?_
    have hr := Option.some.inj hF5
    subst hr
    exact wp_ret (k_ret1 hE rfl (res_tmp hE rfl) ⟨_, rfl, u6, rfl, hM.outF (locN1 locN0), hM.kept⟩)
noncomputable def F_spec_AddShares (p0 : Int) (p1 : (List GShare)) (p2 : (List GShare)) : Option ((List GShare) × Int) :=
  (F_spec_l01Field p0).bind fun (r1 : Bool) => if (!r1) = true then (some ([], 1)) else ((F_spec_l10Code p1).bind fun (r5 : Int) => (F_spec_l10Code p2).bind fun (r7 : Int) => (if (r5 == 1) = true then (some true) else (some (r7 == 1)) : Option (Bool)).bind fun (j9 : Bool) => if j9 = true then (some ([], 1)) else ((if (r5 != 0) = true then (some true) else (if (r7 != 0) = true then (some true) else ((F_spec_l10Places p1).bind fun (r25 : (List UInt8)) => (F_spec_l10Places p2).bind fun (r28 : (List UInt8)) => (F_spec_l01Alike r25 r28).bind fun (r31 : Bool) => if (!r31) = true then (some true) else ((idx p1 (0 : Int)).bind fun (x35 : GShare) => (idx p2 (0 : Int)).bind fun (x43 : GShare) => some ((x35.Data.length : Int) != (x43.Data.length : Int))))) : Option (Bool)).bind fun (j17 : Bool) => if j17 = true then (some ([], 2)) else ((F_spec_l10Add p1 p2).bind fun (r54 : (List GShare)) => some (r54, 0))))
set_option maxRecDepth 20000 in
set_option maxHeartbeats 400000 in
theorem c_spec_AddShares (w0 : World) (p0 : Int) (p1 : (List GShare)) (v1_1 : Value) (hv1_1 : Ro w0 p1 [v1_1]) (p2 : (List GShare)) (v2_1 : Value) (hv2_1 : Ro w0 p2 [v2_1]) (r : (List GShare) × Int) (hF : F_spec_AddShares p0 p1 p2 = some r) :
    Calls Try.prog 37 [(vI p0), v1_1, v2_1].toArray w0 (fun en w' => ∃ v, en = .returned v ∧ (∃ (y1 : Value), v = (Value.tuple [y1, (vI r.2)].toArray) ∧ Fr w0 w' [osl NoB (r.1 : List GShare) y1] ∧ Kept (Old w0) w0 w')) := by
  refine c_enter (n := 55) Try.func37 rfl rfl (Nat.le_of_ble_eq_true rfl) rfl ?_
  intro a hE
  have hM := M.start w0
  unfold F_spec_AddShares at hF
  refine c_region ?_
  refine s_assign hE goes_none (by decide) rfl ?_; intro a hE
  refine s_assign hE goes_none (by decide) rfl ?_; intro a hE
  refine c_fin ?_
  refine wp_seq ?_
  refine c_region ?_
  refine s_move hE goes_none (by decide) rfl ?_; intro a hE
  obtain ⟨r1, e2, hF⟩ := bind_some hF
  refine s_call (vs := [(vI p0)]) hE goes_none (by decide) rfl cb65 (c_spec_l01Field _ p0 r1 e2) ?_
  rintro v w a ⟨rfl, hK⟩ hE
  have hM := hM.keep hK
  refine s_not hE goes_none (by decide) rfl ?_; intro a hE
  refine c_fin ?_
  refine c_cond hE rfl ?_ ?_
  · intro hb3
    have hF := ite_t hF hb3
    refine c_region ?_
    refine s_assign hE goes_none (by decide) rfl ?_; intro a hE
    refine s_assign hE goes_none (by decide) rfl ?_; intro a hE
    refine c_fin ?_
    have hM := M.nilS (α := GShare) NoB noB hM
    have hr := Option.some.inj hF
    subst hr
    exact wp_ret (r_then (k_ret2 hE rfl (res_tmp hE rfl) (res_tmp hE rfl) ⟨_, rfl, (Value.slice none 0 0), rfl, hM.outF (locN1 locN0), hM.kept⟩))
  · intro hb3
    have hF := ite_f hF hb3
    refine wp_skip ?_
    refine c_nx ?_
    refine c_region ?_
    refine s_move hE goes_none (by decide) rfl ?_; intro a hE
    obtain ⟨r5, e6, hF⟩ := bind_some hF
    refine s_call (vs := [v1_1]) hE goes_none (by decide) rfl cb54 (c_spec_l10Code _ p1 v1_1 (hM.rdo hv1_1) r5 e6) ?_
    rintro v w a ⟨rfl, hK⟩ hE
    have hM := hM.keep hK
    refine s_move hE goes_none (by decide) rfl ?_; intro a hE
    obtain ⟨r7, e8, hF⟩ := bind_some hF
    refine s_call (vs := [v2_1]) hE goes_none (by decide) rfl cb54 (c_spec_l10Code _ p2 v2_1 (hM.rdo hv2_1) r7 e8) ?_
    rintro v w a ⟨rfl, hK⟩ hE
    have hM := hM.keep hK
    refine s_assign hE goes_none (by decide) rfl ?_; intro a hE
    refine s_assign hE goes_none (by decide) rfl ?_; intro a hE
    refine c_fin ?_
    refine wp_seq ?_
    refine wp_block ?_
    obtain ⟨j9, hl10, hF11⟩ := bind_some hF
    refine c_join (fun a w => Env 55 a [(1, v1_1), (2, v2_1), (8, (vI r5)), (9, (vI r7)), (17, (vT j9))] ∧ M (Old w0) w0 w []) ?_ ?_
    · skip
      refine wp_region_lit ?_
      refine s_move hE goes_none (by decide) rfl ?_; intro a hE
      refine s_int hE goes_none (by decide) rfl rfl rfl ?_; intro a hE
      refine s_move hE goes_none (by decide) rfl ?_; intro a hE
      refine splitB (r5 == 1) (fun hb12 => ?_) (fun hb12 => ?_)
      · have hl10 := ite_t hl10 hb12
        refine s_skip hE rfl (lkb rfl hb12) rfl (by decide) ?_; intro a hE
        refine s_skip hE rfl (lkb rfl hb12) rfl (by decide) ?_; intro a hE
        refine s_pickT hE goes_none (by decide) (lkb rfl hb12) rfl ?_; intro a hE
        refine s_assign hE goes_none (by decide) rfl ?_; intro a hE
        refine c_fin0 ?_
        have ht13 := Option.some.inj hl10
        subst ht13
        refine c_mid ?_
        exact ⟨hE.sub ⟨rfl, rfl, rfl, rfl, rfl, trivial⟩, hM⟩
      · have hl10 := ite_f hl10 hb12
        refine s_move hE (goes_yes hE rfl (lkb rfl hb12)) (by decide) rfl ?_; intro a hE
        refine s_int hE (goes_yes hE rfl (lkb rfl hb12)) (by decide) rfl rfl rfl ?_; intro a hE
        refine s_pickF hE goes_none (by decide) (lkb rfl hb12) rfl ?_; intro a hE
        refine s_assign hE goes_none (by decide) rfl ?_; intro a hE
        refine c_fin0 ?_
        have ht14 := Option.some.inj hl10
        subst ht14
        refine c_mid ?_
        exact ⟨hE.sub ⟨rfl, rfl, rfl, rfl, rfl, trivial⟩, hM⟩
    · skip
      rintro a w ⟨hE, hM⟩
      refine c_cond hE rfl ?_ ?_
      · intro hb15
        have hF11 := ite_t hF11 hb15
        refine c_region ?_
        refine s_assign hE goes_none (by decide) rfl ?_; intro a hE
        refine s_assign hE goes_none (by decide) rfl ?_; intro a hE
        refine c_fin ?_
        have hM := M.nilS (α := GShare) NoB noB hM
        have hr := Option.some.inj hF11
        subst hr
        exact wp_ret (r_inb (r_then (k_ret2 hE rfl (res_tmp hE rfl) (res_tmp hE rfl) ⟨_, rfl, (Value.slice none 0 0), rfl, hM.outF (locN1 locN0), hM.kept⟩)))
      · intro hb15
        have hF11 := ite_f hF11 hb15
        obtain ⟨j17, hl18, hF19⟩ := bind_some hF11
        refine c_join (fun a w => Env 55 a [(1, v1_1), (2, v2_1), (24, (vT j17))] ∧ M (Old w0) w0 w []) ?_ ?_
        · skip
          refine splitB (r5 != 0) (fun hb21 => ?_) (fun hb21 => ?_)
          · have hl18 := ite_t hl18 hb21
            refine c_draw2 (n := 55) (hd := [_, _, _, _, _, _, _, _, _, _, _, _, _, _, _, _, _, _, _, _, _, _, _, _, _]) (tl := [_, _, _]) (its := []) hmix rfl rfl [25, 26, 27, 28, 29, 30, 31, 32, 33, 34, 35, 36, 37, 38, 39, 40, 41, 42, 43, 44, 45, 46, 47, 48, 49] (by decide) [] rfl (fun j => ([fun v => v = (vI r5), fun v => v = (vT (r5 != 0)), fun v => v = (vT (r5 != 0)), fun v => v = undef, fun v => v = undef, fun v => v = (vT true), fun v => v = (vT true), fun v => v = undef, fun v => v = undef, fun v => v = undef, fun v => v = undef, fun v => v = undef, fun v => v = undef, fun v => v = (vT true), fun v => v = (vT true), fun v => v = undef, fun v => v = undef, fun v => v = undef, fun v => v = undef, fun v => v = undef, fun v => v = undef, fun v => v = undef, fun v => v = undef, fun v => v = undef, fun v => v = undef] : List (Value → Prop)).getD j (fun _ => True)) hE hM.drew (steps_of (steps_cons ?_ (steps_cons ?_ (steps_cons ?_ (steps_cons ?_ (steps_cons ?_ (steps_cons ?_ (steps_cons ?_ (steps_cons ?_ (steps_cons ?_ (steps_cons ?_ (steps_cons ?_ (steps_cons ?_ (steps_cons ?_ (steps_cons ?_ (steps_cons ?_ (steps_cons ?_ (steps_cons ?_ (steps_cons ?_ (steps_cons ?_ (steps_cons ?_ (steps_cons ?_ (steps_cons ?_ (steps_cons ?_ (steps_cons ?_ (steps_cons ?_ steps_nil)))))))))))))))))))))))))) ?_
            · intro a w ux20 D hE hM hD hp
              have hM0 := hM
              refine s_move hE goes_none (by decide) rfl ?_; intro a hE
              exact ⟨_, _, rfl, hE, rfl, hM0.optKeep rfl⟩
            · intro a w ux20 D hE hM hD hp
              have f0 : ux20 0 = (vI r5) := (hp 0 _ rfl rfl).2
              have hM0 := hM
              refine s_int hE goes_none (by decide) (lk rfl f0) rfl rfl ?_; intro a hE
              exact ⟨_, _, rfl, hE, rfl, hM0.optKeep rfl⟩
            · intro a w ux20 D hE hM hD hp
              have f1 : ux20 1 = (vT (r5 != 0)) := (hp 0 _ rfl rfl).2
              have hM0 := hM
              refine s_move hE goes_none (by decide) (lk rfl f1) ?_; intro a hE
              exact ⟨_, _, rfl, hE, rfl, hM0.optKeep rfl⟩
            · intro a w ux20 D hE hM hD hp
              have f2 : ux20 2 = (vT (r5 != 0)) := (hp 0 _ rfl rfl).2
              have hM0 := hM
              refine s_skip hE rfl (lkb (lk rfl f2) hb21) rfl (by decide) ?_; intro a hE
              exact ⟨_, _, rfl, hE, rfl, hM0.optKeep rfl⟩
            · intro a w ux20 D hE hM hD hp
              have f2 : ux20 2 = (vT (r5 != 0)) := (hp 1 _ rfl rfl).2
              have f3 : ux20 3 = undef := (hp 0 _ rfl rfl).2
              have hM0 := hM
              refine s_skip hE rfl (lkb (lk rfl f2) hb21) rfl (by decide) ?_; intro a hE
              exact ⟨_, _, rfl, hE, rfl, hM0.optKeep rfl⟩
            · intro a w ux20 D hE hM hD hp
              have f2 : ux20 2 = (vT (r5 != 0)) := (hp 0 _ rfl rfl).2
              have f4 : ux20 4 = undef := (hp 1 _ rfl rfl).2
              have hM0 := hM
              refine s_pickT hE goes_none (by decide) (lkb (lk rfl f2) hb21) rfl ?_; intro a hE
              exact ⟨_, _, rfl, hE, rfl, hM0.optKeep rfl⟩
            · intro a w ux20 D hE hM hD hp
              have f5 : ux20 5 = (vT true) := (hp 0 _ rfl rfl).2
              have hM0 := hM
              refine s_move hE goes_none (by decide) (lk rfl f5) ?_; intro a hE
              exact ⟨_, _, rfl, hE, rfl, hM0.optKeep rfl⟩
            · intro a w ux20 D hE hM hD hp
              have f6 : ux20 6 = (vT true) := (hp 0 _ rfl rfl).2
              have hM0 := hM
              refine s_skip hE rfl (lk rfl f6) rfl (by decide) ?_; intro a hE
              exact ⟨_, _, rfl, hE, rfl, hM0.optKeep rfl⟩
            · intro a w ux20 D hE hM hD hp
              have f6 : ux20 6 = (vT true) := (hp 1 _ rfl rfl).2
              have f7 : ux20 7 = undef := (hp 0 _ rfl rfl).2
              have hM0 := hM
              refine s_skip hE rfl (lk rfl f6) rfl (by decide) ?_; intro a hE
              exact ⟨_, _, rfl, hE, rfl, hM0.optKeep rfl⟩
            · intro a w ux20 D hE hM hD hp
              have f6 : ux20 6 = (vT true) := (hp 0 _ rfl rfl).2
              have hM0 := hM
              refine s_skip hE rfl (lk rfl f6) rfl (by decide) ?_; intro a hE
              exact ⟨_, _, rfl, hE, rfl, hM0.optKeep rfl⟩
            · intro a w ux20 D hE hM hD hp
              have f6 : ux20 6 = (vT true) := (hp 2 _ rfl rfl).2
              have f9 : ux20 9 = undef := (hp 0 _ rfl rfl).2
              have hM0 := hM
              refine s_skip hE rfl (lk rfl f6) rfl (by decide) ?_; intro a hE
              exact ⟨_, _, rfl, hE, rfl, hM0.optKeep rfl⟩
            · intro a w ux20 D hE hM hD hp
              have f6 : ux20 6 = (vT true) := (hp 3 _ rfl rfl).2
              have f8 : ux20 8 = undef := (hp 0 _ rfl rfl).2
              have f10 : ux20 10 = undef := (hp 1 _ rfl rfl).2
              have hM0 := hM
              refine s_skip hE rfl (lk rfl f6) rfl (by decide) ?_; intro a hE
              exact ⟨_, _, rfl, hE, rfl, hM0.optKeep rfl⟩
            · intro a w ux20 D hE hM hD hp
              have f6 : ux20 6 = (vT true) := (hp 1 _ rfl rfl).2
              have f11 : ux20 11 = undef := (hp 0 _ rfl rfl).2
              have hM0 := hM
              refine s_skip hE rfl (lk rfl f6) rfl (by decide) ?_; intro a hE
              exact ⟨_, _, rfl, hE, rfl, hM0.optKeep rfl⟩
            · intro a w ux20 D hE hM hD hp
              have f6 : ux20 6 = (vT true) := (hp 0 _ rfl rfl).2
              have f12 : ux20 12 = undef := (hp 1 _ rfl rfl).2
              have hM0 := hM
              refine s_pickT hE goes_none (by decide) (lk rfl f6) rfl ?_; intro a hE
              exact ⟨_, _, rfl, hE, rfl, hM0.optKeep rfl⟩
            · intro a w ux20 D hE hM hD hp
              have f13 : ux20 13 = (vT true) := (hp 0 _ rfl rfl).2
              have hM0 := hM
              refine s_move hE goes_none (by decide) (lk rfl f13) ?_; intro a hE
              exact ⟨_, _, rfl, hE, rfl, hM0.optKeep rfl⟩
            · intro a w ux20 D hE hM hD hp
              have f14 : ux20 14 = (vT true) := (hp 0 _ rfl rfl).2
              have hM0 := hM
              refine s_skip hE rfl (lk rfl f14) rfl (by decide) ?_; intro a hE
              exact ⟨_, _, rfl, hE, rfl, hM0.optKeep rfl⟩
            · intro a w ux20 D hE hM hD hp
              have f14 : ux20 14 = (vT true) := (hp 1 _ rfl rfl).2
              have f15 : ux20 15 = undef := (hp 0 _ rfl rfl).2
              have hM0 := hM
              refine s_skip hE rfl (lk rfl f14) rfl (by decide) ?_; intro a hE
              exact ⟨_, _, rfl, hE, rfl, hM0.optKeep rfl⟩
            · intro a w ux20 D hE hM hD hp
              have f14 : ux20 14 = (vT true) := (hp 1 _ rfl rfl).2
              have f16 : ux20 16 = undef := (hp 0 _ rfl rfl).2
              have hM0 := hM
              refine s_skip hE rfl (lk rfl f14) rfl (by decide) ?_; intro a hE
              exact ⟨_, _, rfl, hE, rfl, hM0.optKeep rfl⟩
            · intro a w ux20 D hE hM hD hp
              have f14 : ux20 14 = (vT true) := (hp 1 _ rfl rfl).2
              have f17 : ux20 17 = undef := (hp 0 _ rfl rfl).2
              have hM0 := hM
              refine s_skip hE rfl (lk rfl f14) rfl (by decide) ?_; intro a hE
              exact ⟨_, _, rfl, hE, rfl, hM0.optKeep rfl⟩
            · intro a w ux20 D hE hM hD hp
              have f14 : ux20 14 = (vT true) := (hp 1 _ rfl rfl).2
              have f18 : ux20 18 = undef := (hp 0 _ rfl rfl).2
              have hM0 := hM
              refine s_skip hE rfl (lk rfl f14) rfl (by decide) ?_; intro a hE
              exact ⟨_, _, rfl, hE, rfl, hM0.optKeep rfl⟩
            · intro a w ux20 D hE hM hD hp
              have f14 : ux20 14 = (vT true) := (hp 0 _ rfl rfl).2
              have hM0 := hM
              refine s_skip hE rfl (lk rfl f14) rfl (by decide) ?_; intro a hE
              exact ⟨_, _, rfl, hE, rfl, hM0.optKeep rfl⟩
            · intro a w ux20 D hE hM hD hp
              have f14 : ux20 14 = (vT true) := (hp 1 _ rfl rfl).2
              have f20 : ux20 20 = undef := (hp 0 _ rfl rfl).2
              have hM0 := hM
              refine s_skip hE rfl (lk rfl f14) rfl (by decide) ?_; intro a hE
              exact ⟨_, _, rfl, hE, rfl, hM0.optKeep rfl⟩
            · intro a w ux20 D hE hM hD hp
              have f14 : ux20 14 = (vT true) := (hp 1 _ rfl rfl).2
              have f21 : ux20 21 = undef := (hp 0 _ rfl rfl).2
              have hM0 := hM
              refine s_skip hE rfl (lk rfl f14) rfl (by decide) ?_; intro a hE
              exact ⟨_, _, rfl, hE, rfl, hM0.optKeep rfl⟩
            · intro a w ux20 D hE hM hD hp
              have f14 : ux20 14 = (vT true) := (hp 1 _ rfl rfl).2
              have f22 : ux20 22 = undef := (hp 0 _ rfl rfl).2
              have hM0 := hM
              refine s_skip hE rfl (lk rfl f14) rfl (by decide) ?_; intro a hE
              exact ⟨_, _, rfl, hE, rfl, hM0.optKeep rfl⟩
            · intro a w ux20 D hE hM hD hp
              have f14 : ux20 14 = (vT true) := (hp 1 _ rfl rfl).2
              have f23 : ux20 23 = undef := (hp 0 _ rfl rfl).2
              have hM0 := hM
              refine s_skip hE rfl (lk rfl f14) rfl (by decide) ?_; intro a hE
              exact ⟨_, _, rfl, hE, rfl, hM0.optKeep rfl⟩
            · intro a w ux20 hE hM hg
              have f0 : ux20 0 = (vI r5) := hg 0 (by decide)
              have f1 : ux20 1 = (vT (r5 != 0)) := hg 1 (by decide)
              have f2 : ux20 2 = (vT (r5 != 0)) := hg 2 (by decide)
              have f3 : ux20 3 = undef := hg 3 (by decide)
              have f4 : ux20 4 = undef := hg 4 (by decide)
              have f5 : ux20 5 = (vT true) := hg 5 (by decide)
              have f6 : ux20 6 = (vT true) := hg 6 (by decide)
              have f7 : ux20 7 = undef := hg 7 (by decide)
              have f8 : ux20 8 = undef := hg 8 (by decide)
              have f9 : ux20 9 = undef := hg 9 (by decide)
              have f10 : ux20 10 = undef := hg 10 (by decide)
              have f11 : ux20 11 = undef := hg 11 (by decide)
              have f12 : ux20 12 = undef := hg 12 (by decide)
              have f13 : ux20 13 = (vT true) := hg 13 (by decide)
              have f14 : ux20 14 = (vT true) := hg 14 (by decide)
              have f15 : ux20 15 = undef := hg 15 (by decide)
              have f16 : ux20 16 = undef := hg 16 (by decide)
              have f17 : ux20 17 = undef := hg 17 (by decide)
              have f18 : ux20 18 = undef := hg 18 (by decide)
              have f19 : ux20 19 = undef := hg 19 (by decide)
              have f20 : ux20 20 = undef := hg 20 (by decide)
              have f21 : ux20 21 = undef := hg 21 (by decide)
              have f22 : ux20 22 = undef := hg 22 (by decide)
              have f23 : ux20 23 = undef := hg 23 (by decide)
              have f24 : ux20 24 = undef := hg 24 (by decide)
              have hM : M (Old w0) w0 w [] := hM
              have hE := hE.sub (e' := [(25, (vI r5)), (26, (vT (r5 != 0))), (27, (vT (r5 != 0))), (28, undef), (29, undef), (30, (vT true)), (31, (vT true)), (32, undef), (33, undef), (34, undef), (35, undef), (36, undef), (37, undef), (38, (vT true)), (39, (vT true)), (40, undef), (41, undef), (42, undef), (43, undef), (44, undef), (45, undef), (46, undef), (47, undef), (48, undef), (49, undef), (1, v1_1), (2, v2_1), (8, (vI r5)), (9, (vI r7)), (17, (vT j9))]) ⟨lk rfl f0, lk rfl f1, lk rfl f2, lk rfl f3, lk rfl f4, lk rfl f5, lk rfl f6, lk rfl f7, lk rfl f8, lk rfl f9, lk rfl f10, lk rfl f11, lk rfl f12, lk rfl f13, lk rfl f14, lk rfl f15, lk rfl f16, lk rfl f17, lk rfl f18, lk rfl f19, lk rfl f20, lk rfl f21, lk rfl f22, lk rfl f23, lk rfl f24, rfl, rfl, rfl, rfl, rfl, trivial⟩
              refine s_skip hE rfl rfl rfl (by decide) ?_; intro a hE
              refine s_pickT hE goes_none (by decide) rfl rfl ?_; intro a hE
              refine s_assign hE goes_none (by decide) rfl ?_; intro a hE
              refine c_fin0 ?_
              have ht22 := Option.some.inj hl18
              subst ht22
              refine c_mid ?_
              exact ⟨hE.sub ⟨rfl, rfl, rfl, trivial⟩, hM⟩
          · have hl18 := ite_f hl18 hb21
            refine splitB (r7 != 0) (fun hb23 => ?_) (fun hb23 => ?_)
            · have hl18 := ite_t hl18 hb23
              refine c_draw2 (n := 55) (hd := [_, _, _, _, _, _, _, _, _, _, _, _, _, _, _, _, _, _, _, _, _, _, _, _, _]) (tl := [_, _, _]) (its := []) hmix rfl rfl [25, 26, 27, 28, 29, 30, 31, 32, 33, 34, 35, 36, 37, 38, 39, 40, 41, 42, 43, 44, 45, 46, 47, 48, 49] (by decide) [] rfl (fun j => ([fun v => v = (vI r5), fun v => v = (vT (r5 != 0)), fun v => v = (vT (r5 != 0)), fun v => v = (vI r7), fun v => v = (vT (r7 != 0)), fun v => v = (vT (r7 != 0)), fun v => v = (vT (r7 != 0)), fun v => v = undef, fun v => v = undef, fun v => v = undef, fun v => v = undef, fun v => v = undef, fun v => v = undef, fun v => v = (vT true), fun v => v = (vT true), fun v => v = undef, fun v => v = undef, fun v => v = undef, fun v => v = undef, fun v => v = undef, fun v => v = undef, fun v => v = undef, fun v => v = undef, fun v => v = undef, fun v => v = undef] : List (Value → Prop)).getD j (fun _ => True)) hE hM.drew (steps_of (steps_cons ?_ (steps_cons ?_ (steps_cons ?_ (steps_cons ?_ (steps_cons ?_ (steps_cons ?_ (steps_cons ?_ (steps_cons ?_ (steps_cons ?_ (steps_cons ?_ (steps_cons ?_ (steps_cons ?_ (steps_cons ?_ (steps_cons ?_ (steps_cons ?_ (steps_cons ?_ (steps_cons ?_ (steps_cons ?_ (steps_cons ?_ (steps_cons ?_ (steps_cons ?_ (steps_cons ?_ (steps_cons ?_ (steps_cons ?_ (steps_cons ?_ steps_nil)))))))))))))))))))))))))) ?_
              · intro a w ux20 D hE hM hD hp
                have hM0 := hM
                refine s_move hE goes_none (by decide) rfl ?_; intro a hE
                exact ⟨_, _, rfl, hE, rfl, hM0.optKeep rfl⟩
              · intro a w ux20 D hE hM hD hp
                have f0 : ux20 0 = (vI r5) := (hp 0 _ rfl rfl).2
                have hM0 := hM
                refine s_int hE goes_none (by decide) (lk rfl f0) rfl rfl ?_; intro a hE
                exact ⟨_, _, rfl, hE, rfl, hM0.optKeep rfl⟩
              · intro a w ux20 D hE hM hD hp
                have f1 : ux20 1 = (vT (r5 != 0)) := (hp 0 _ rfl rfl).2
                have hM0 := hM
                refine s_move hE goes_none (by decide) (lk rfl f1) ?_; intro a hE
                exact ⟨_, _, rfl, hE, rfl, hM0.optKeep rfl⟩
              · intro a w ux20 D hE hM hD hp
                have f2 : ux20 2 = (vT (r5 != 0)) := (hp 0 _ rfl rfl).2
                have hM0 := hM
                refine s_move hE (goes_yes hE rfl (lkb (lk rfl f2) hb21)) (by decide) rfl ?_; intro a hE
                exact ⟨_, _, rfl, hE, rfl, hM0.optKeep rfl⟩
              · intro a w ux20 D hE hM hD hp
                have f2 : ux20 2 = (vT (r5 != 0)) := (hp 1 _ rfl rfl).2
                have f3 : ux20 3 = (vI r7) := (hp 0 _ rfl rfl).2
                have hM0 := hM
                refine s_int hE (goes_yes hE rfl (lkb (lk rfl f2) hb21)) (by decide) (lk rfl f3) rfl rfl ?_; intro a hE
                exact ⟨_, _, rfl, hE, rfl, hM0.optKeep rfl⟩
              · intro a w ux20 D hE hM hD hp
                have f2 : ux20 2 = (vT (r5 != 0)) := (hp 0 _ rfl rfl).2
                have f4 : ux20 4 = (vT (r7 != 0)) := (hp 1 _ rfl rfl).2
                have hM0 := hM
                refine s_pickF hE goes_none (by decide) (lkb (lk rfl f2) hb21) (lk rfl f4) ?_; intro a hE
                exact ⟨_, _, rfl, hE, rfl, hM0.optKeep rfl⟩
              · intro a w ux20 D hE hM hD hp
                have f5 : ux20 5 = (vT (r7 != 0)) := (hp 0 _ rfl rfl).2
                have hM0 := hM
                refine s_move hE goes_none (by decide) (lk rfl f5) ?_; intro a hE
                exact ⟨_, _, rfl, hE, rfl, hM0.optKeep rfl⟩
              · intro a w ux20 D hE hM hD hp
                have f6 : ux20 6 = (vT (r7 != 0)) := (hp 0 _ rfl rfl).2
                have hM0 := hM
                refine s_skip hE rfl (lkb (lk rfl f6) hb23) rfl (by decide) ?_; intro a hE
                exact ⟨_, _, rfl, hE, rfl, hM0.optKeep rfl⟩
              · intro a w ux20 D hE hM hD hp
                have f6 : ux20 6 = (vT (r7 != 0)) := (hp 1 _ rfl rfl).2
                have f7 : ux20 7 = undef := (hp 0 _ rfl rfl).2
                have hM0 := hM
                refine s_skip hE rfl (lkb (lk rfl f6) hb23) rfl (by decide) ?_; intro a hE
                exact ⟨_, _, rfl, hE, rfl, hM0.optKeep rfl⟩
              · intro a w ux20 D hE hM hD hp
                have f6 : ux20 6 = (vT (r7 != 0)) := (hp 0 _ rfl rfl).2
                have hM0 := hM
                refine s_skip hE rfl (lkb (lk rfl f6) hb23) rfl (by decide) ?_; intro a hE
                exact ⟨_, _, rfl, hE, rfl, hM0.optKeep rfl⟩
              · intro a w ux20 D hE hM hD hp
                have f6 : ux20 6 = (vT (r7 != 0)) := (hp 2 _ rfl rfl).2
                have f9 : ux20 9 = undef := (hp 0 _ rfl rfl).2
                have hM0 := hM
                refine s_skip hE rfl (lkb (lk rfl f6) hb23) rfl (by decide) ?_; intro a hE
                exact ⟨_, _, rfl, hE, rfl, hM0.optKeep rfl⟩
              · intro a w ux20 D hE hM hD hp
                have f6 : ux20 6 = (vT (r7 != 0)) := (hp 3 _ rfl rfl).2
                have f8 : ux20 8 = undef := (hp 0 _ rfl rfl).2
                have f10 : ux20 10 = undef := (hp 1 _ rfl rfl).2
                have hM0 := hM
                refine s_skip hE rfl (lkb (lk rfl f6) hb23) rfl (by decide) ?_; intro a hE
                exact ⟨_, _, rfl, hE, rfl, hM0.optKeep rfl⟩
              · intro a w ux20 D hE hM hD hp
                have f6 : ux20 6 = (vT (r7 != 0)) := (hp 1 _ rfl rfl).2
                have f11 : ux20 11 = undef := (hp 0 _ rfl rfl).2
                have hM0 := hM
                refine s_skip hE rfl (lkb (lk rfl f6) hb23) rfl (by decide) ?_; intro a hE
                exact ⟨_, _, rfl, hE, rfl, hM0.optKeep rfl⟩
              · intro a w ux20 D hE hM hD hp
                have f6 : ux20 6 = (vT (r7 != 0)) := (hp 0 _ rfl rfl).2
                have f12 : ux20 12 = undef := (hp 1 _ rfl rfl).2
                have hM0 := hM
                refine s_pickT hE goes_none (by decide) (lkb (lk rfl f6) hb23) rfl ?_; intro a hE
                exact ⟨_, _, rfl, hE, rfl, hM0.optKeep rfl⟩
              · intro a w ux20 D hE hM hD hp
                have f13 : ux20 13 = (vT true) := (hp 0 _ rfl rfl).2
                have hM0 := hM
                refine s_move hE goes_none (by decide) (lk rfl f13) ?_; intro a hE
                exact ⟨_, _, rfl, hE, rfl, hM0.optKeep rfl⟩
              · intro a w ux20 D hE hM hD hp
                have f14 : ux20 14 = (vT true) := (hp 0 _ rfl rfl).2
                have hM0 := hM
                refine s_skip hE rfl (lk rfl f14) rfl (by decide) ?_; intro a hE
                exact ⟨_, _, rfl, hE, rfl, hM0.optKeep rfl⟩
              · intro a w ux20 D hE hM hD hp
                have f14 : ux20 14 = (vT true) := (hp 1 _ rfl rfl).2
                have f15 : ux20 15 = undef := (hp 0 _ rfl rfl).2
                have hM0 := hM
                refine s_skip hE rfl (lk rfl f14) rfl (by decide) ?_; intro a hE
                exact ⟨_, _, rfl, hE, rfl, hM0.optKeep rfl⟩
              · intro a w ux20 D hE hM hD hp
                have f14 : ux20 14 = (vT true) := (hp 1 _ rfl rfl).2
                have f16 : ux20 16 = undef := (hp 0 _ rfl rfl).2
                have hM0 := hM
                refine s_skip hE rfl (lk rfl f14) rfl (by decide) ?_; intro a hE
                exact ⟨_, _, rfl, hE, rfl, hM0.optKeep rfl⟩
              · intro a w ux20 D hE hM hD hp
                have f14 : ux20 14 = (vT true) := (hp 1 _ rfl rfl).2
                have f17 : ux20 17 = undef := (hp 0 _ rfl rfl).2
                have hM0 := hM
                refine s_skip hE rfl (lk rfl f14) rfl (by decide) ?_; intro a hE
                exact ⟨_, _, rfl, hE, rfl, hM0.optKeep rfl⟩
              · intro a w ux20 D hE hM hD hp
                have f14 : ux20 14 = (vT true) := (hp 1 _ rfl rfl).2
                have f18 : ux20 18 = undef := (hp 0 _ rfl rfl).2
                have hM0 := hM
                refine s_skip hE rfl (lk rfl f14) rfl (by decide) ?_; intro a hE
                exact ⟨_, _, rfl, hE, rfl, hM0.optKeep rfl⟩
              · intro a w ux20 D hE hM hD hp
                have f14 : ux20 14 = (vT true) := (hp 0 _ rfl rfl).2
                have hM0 := hM
                refine s_skip hE rfl (lk rfl f14) rfl (by decide) ?_; intro a hE
                exact ⟨_, _, rfl, hE, rfl, hM0.optKeep rfl⟩
              · intro a w ux20 D hE hM hD hp
                have f14 : ux20 14 = (vT true) := (hp 1 _ rfl rfl).2
                have f20 : ux20 20 = undef := (hp 0 _ rfl rfl).2
                have hM0 := hM
                refine s_skip hE rfl (lk rfl f14) rfl (by decide) ?_; intro a hE
                exact ⟨_, _, rfl, hE, rfl, hM0.optKeep rfl⟩
              · intro a w ux20 D hE hM hD hp
                have f14 : ux20 14 = (vT true) := (hp 1 _ rfl rfl).2
                have f21 : ux20 21 = undef := (hp 0 _ rfl rfl).2
                have hM0 := hM
                refine s_skip hE rfl (lk rfl f14) rfl (by decide) ?_; intro a hE
                exact ⟨_, _, rfl, hE, rfl, hM0.optKeep rfl⟩
              · intro a w ux20 D hE hM hD hp
                have f14 : ux20 14 = (vT true) := (hp 1 _ rfl rfl).2
                have f22 : ux20 22 = undef := (hp 0 _ rfl rfl).2
                have hM0 := hM
                refine s_skip hE rfl (lk rfl f14) rfl (by decide) ?_; intro a hE
                exact ⟨_, _, rfl, hE, rfl, hM0.optKeep rfl⟩
              · intro a w ux20 D hE hM hD hp
                have f14 : ux20 14 = (vT true) := (hp 1 _ rfl rfl).2
                have f23 : ux20 23 = undef := (hp 0 _ rfl rfl).2
                have hM0 := hM
                refine s_skip hE rfl (lk rfl f14) rfl (by decide) ?_; intro a hE
                exact ⟨_, _, rfl, hE, rfl, hM0.optKeep rfl⟩
              · intro a w ux20 hE hM hg
                have f0 : ux20 0 = (vI r5) := hg 0 (by decide)
                have f1 : ux20 1 = (vT (r5 != 0)) := hg 1 (by decide)
                have f2 : ux20 2 = (vT (r5 != 0)) := hg 2 (by decide)
                have f3 : ux20 3 = (vI r7) := hg 3 (by decide)
                have f4 : ux20 4 = (vT (r7 != 0)) := hg 4 (by decide)
                have f5 : ux20 5 = (vT (r7 != 0)) := hg 5 (by decide)
                have f6 : ux20 6 = (vT (r7 != 0)) := hg 6 (by decide)
                have f7 : ux20 7 = undef := hg 7 (by decide)
                have f8 : ux20 8 = undef := hg 8 (by decide)
                have f9 : ux20 9 = undef := hg 9 (by decide)
                have f10 : ux20 10 = undef := hg 10 (by decide)
                have f11 : ux20 11 = undef := hg 11 (by decide)
                have f12 : ux20 12 = undef := hg 12 (by decide)
                have f13 : ux20 13 = (vT true) := hg 13 (by decide)
                have f14 : ux20 14 = (vT true) := hg 14 (by decide)
                have f15 : ux20 15 = undef := hg 15 (by decide)
                have f16 : ux20 16 = undef := hg 16 (by decide)
                have f17 : ux20 17 = undef := hg 17 (by decide)
                have f18 : ux20 18 = undef := hg 18 (by decide)
                have f19 : ux20 19 = undef := hg 19 (by decide)
                have f20 : ux20 20 = undef := hg 20 (by decide)
                have f21 : ux20 21 = undef := hg 21 (by decide)
                have f22 : ux20 22 = undef := hg 22 (by decide)
                have f23 : ux20 23 = undef := hg 23 (by decide)
                have f24 : ux20 24 = undef := hg 24 (by decide)
                have hM : M (Old w0) w0 w [] := hM
                have hE := hE.sub (e' := [(25, (vI r5)), (26, (vT (r5 != 0))), (27, (vT (r5 != 0))), (28, (vI r7)), (29, (vT (r7 != 0))), (30, (vT (r7 != 0))), (31, (vT (r7 != 0))), (32, undef), (33, undef), (34, undef), (35, undef), (36, undef), (37, undef), (38, (vT true)), (39, (vT true)), (40, undef), (41, undef), (42, undef), (43, undef), (44, undef), (45, undef), (46, undef), (47, undef), (48, undef), (49, undef), (1, v1_1), (2, v2_1), (8, (vI r5)), (9, (vI r7)), (17, (vT j9))]) ⟨lk rfl f0, lk rfl f1, lk rfl f2, lk rfl f3, lk rfl f4, lk rfl f5, lk rfl f6, lk rfl f7, lk rfl f8, lk rfl f9, lk rfl f10, lk rfl f11, lk rfl f12, lk rfl f13, lk rfl f14, lk rfl f15, lk rfl f16, lk rfl f17, lk rfl f18, lk rfl f19, lk rfl f20, lk rfl f21, lk rfl f22, lk rfl f23, lk rfl f24, rfl, rfl, rfl, rfl, rfl, trivial⟩
                refine s_skip hE rfl rfl rfl (by decide) ?_; intro a hE
                refine s_pickT hE goes_none (by decide) rfl rfl ?_; intro a hE
                refine s_assign hE goes_none (by decide) rfl ?_; intro a hE
                refine c_fin0 ?_
                have ht24 := Option.some.inj hl18
                subst ht24
                refine c_mid ?_
                exact ⟨hE.sub ⟨rfl, rfl, rfl, trivial⟩, hM⟩
            · have hl18 := ite_f hl18 hb23
              obtain ⟨r25, e26, hl18⟩ := bind_some hl18
              obtain ⟨r28, e29, hl18⟩ := bind_some hl18
              obtain ⟨r31, e32, hl18⟩ := bind_some hl18
              refine splitB (!r31) (fun hb33 => ?_) (fun hb33 => ?_)
              · have hl18 := ite_t hl18 hb33
                refine c_draw2 (n := 55) (hd := [_, _, _, _, _, _, _, _, _, _, _, _, _, _, _, _, _, _, _, _, _, _, _, _, _]) (tl := [_, _, _]) (its := []) hmix rfl rfl [25, 26, 27, 28, 29, 30, 31, 32, 33, 34, 35, 36, 37, 38, 39, 40, 41, 42, 43, 44, 45, 46, 47, 48, 49] (by decide) [(8, fun v => osl NoB (r25 : List UInt8) v), (10, fun v => osl NoB (r28 : List UInt8) v)] rfl (fun j => ([fun v => v = (vI r5), fun v => v = (vT (r5 != 0)), fun v => v = (vT (r5 != 0)), fun v => v = (vI r7), fun v => v = (vT (r7 != 0)), fun v => v = (vT (r7 != 0)), fun v => v = (vT (r7 != 0)), fun v => v = v1_1, fun v => True, fun v => v = v2_1, fun v => True, fun v => v = (vT r31), fun v => v = (vT (!r31)), fun v => v = (vT (!r31)), fun v => v = (vT (!r31)), fun v => v = undef, fun v => v = undef, fun v => v = undef, fun v => v = undef, fun v => v = undef, fun v => v = undef, fun v => v = undef, fun v => v = undef, fun v => v = undef, fun v => v = undef] : List (Value → Prop)).getD j (fun _ => True)) hE hM.drew (steps_of (steps_cons ?_ (steps_cons ?_ (steps_cons ?_ (steps_cons ?_ (steps_cons ?_ (steps_cons ?_ (steps_cons ?_ (steps_cons ?_ (steps_cons ?_ (steps_cons ?_ (steps_cons ?_ (steps_cons ?_ (steps_cons ?_ (steps_cons ?_ (steps_cons ?_ (steps_cons ?_ (steps_cons ?_ (steps_cons ?_ (steps_cons ?_ (steps_cons ?_ (steps_cons ?_ (steps_cons ?_ (steps_cons ?_ (steps_cons ?_ (steps_cons ?_ steps_nil)))))))))))))))))))))))))) ?_
                · intro a w ux20 D hE hM hD hp
                  have hM0 := hM
                  refine s_move hE goes_none (by decide) rfl ?_; intro a hE
                  exact ⟨_, _, rfl, hE, rfl, hM0.optKeep rfl⟩
                · intro a w ux20 D hE hM hD hp
                  have f0 : ux20 0 = (vI r5) := (hp 0 _ rfl rfl).2
                  have hM0 := hM
                  refine s_int hE goes_none (by decide) (lk rfl f0) rfl rfl ?_; intro a hE
                  exact ⟨_, _, rfl, hE, rfl, hM0.optKeep rfl⟩
                · intro a w ux20 D hE hM hD hp
                  have f1 : ux20 1 = (vT (r5 != 0)) := (hp 0 _ rfl rfl).2
                  have hM0 := hM
                  refine s_move hE goes_none (by decide) (lk rfl f1) ?_; intro a hE
                  exact ⟨_, _, rfl, hE, rfl, hM0.optKeep rfl⟩
                · intro a w ux20 D hE hM hD hp
                  have f2 : ux20 2 = (vT (r5 != 0)) := (hp 0 _ rfl rfl).2
                  have hM0 := hM
                  refine s_move hE (goes_yes hE rfl (lkb (lk rfl f2) hb21)) (by decide) rfl ?_; intro a hE
                  exact ⟨_, _, rfl, hE, rfl, hM0.optKeep rfl⟩
                · intro a w ux20 D hE hM hD hp
                  have f2 : ux20 2 = (vT (r5 != 0)) := (hp 1 _ rfl rfl).2
                  have f3 : ux20 3 = (vI r7) := (hp 0 _ rfl rfl).2
                  have hM0 := hM
                  refine s_int hE (goes_yes hE rfl (lkb (lk rfl f2) hb21)) (by decide) (lk rfl f3) rfl rfl ?_; intro a hE
                  exact ⟨_, _, rfl, hE, rfl, hM0.optKeep rfl⟩
                · intro a w ux20 D hE hM hD hp
                  have f2 : ux20 2 = (vT (r5 != 0)) := (hp 0 _ rfl rfl).2
                  have f4 : ux20 4 = (vT (r7 != 0)) := (hp 1 _ rfl rfl).2
                  have hM0 := hM
                  refine s_pickF hE goes_none (by decide) (lkb (lk rfl f2) hb21) (lk rfl f4) ?_; intro a hE
                  exact ⟨_, _, rfl, hE, rfl, hM0.optKeep rfl⟩
                · intro a w ux20 D hE hM hD hp
                  have f5 : ux20 5 = (vT (r7 != 0)) := (hp 0 _ rfl rfl).2
                  have hM0 := hM
                  refine s_move hE goes_none (by decide) (lk rfl f5) ?_; intro a hE
                  exact ⟨_, _, rfl, hE, rfl, hM0.optKeep rfl⟩
                · intro a w ux20 D hE hM hD hp
                  have f6 : ux20 6 = (vT (r7 != 0)) := (hp 0 _ rfl rfl).2
                  have hM0 := hM
                  refine s_move hE (goes_yes hE rfl (lkb (lk rfl f6) hb23)) (by decide) rfl ?_; intro a hE
                  exact ⟨_, _, rfl, hE, rfl, hM0.optKeep rfl⟩
                · intro a w ux20 D hE hM hD hp
                  have f6 : ux20 6 = (vT (r7 != 0)) := (hp 1 _ rfl rfl).2
                  have f7 : ux20 7 = v1_1 := (hp 0 _ rfl rfl).2
                  have hM0 := hM
                  have hM : M (Old w0) w0 w [opt (D 8) (osl NoB (r25 : List UInt8) (ux20 8)), opt (D 10) (osl NoB (r28 : List UInt8) (ux20 10))] := hM
                  refine s_call (vs := [v1_1]) hE (goes_yes hE rfl (lkb (lk rfl f6) hb23)) (by decide) (evs_of (evsC (lk rfl f7) evsN)) cb95 (c_spec_l10Places _ p1 v1_1 (hM.rdo hv1_1) r25 e26) ?_
                  rintro _ w a ⟨_, rfl, hFr, hK⟩ hE
                  have hM := hM0.add hK hFr
                  exact ⟨_, _, rfl, hE, trivial, M.optFill (mk1 := []) (mk2 := [_]) (f := (fun v => osl NoB (r25 : List UInt8) v)) hM rfl hD⟩
                · intro a w ux20 D hE hM hD hp
                  have f6 : ux20 6 = (vT (r7 != 0)) := (hp 0 _ rfl rfl).2
                  have hM0 := hM
                  refine s_move hE (goes_yes hE rfl (lkb (lk rfl f6) hb23)) (by decide) rfl ?_; intro a hE
                  exact ⟨_, _, rfl, hE, rfl, hM0.optKeep rfl⟩
                · intro a w ux20 D hE hM hD hp
                  have f6 : ux20 6 = (vT (r7 != 0)) := (hp 2 _ rfl rfl).2
                  have f9 : ux20 9 = v2_1 := (hp 0 _ rfl rfl).2
                  have hM0 := hM
                  have hM : M (Old w0) w0 w [opt (D 8) (osl NoB (r25 : List UInt8) (ux20 8)), opt (D 10) (osl NoB (r28 : List UInt8) (ux20 10))] := hM
                  refine s_call (vs := [v2_1]) hE (goes_yes hE rfl (lkb (lk rfl f6) hb23)) (by decide) (evs_of (evsC (lk rfl f9) evsN)) cb95 (c_spec_l10Places _ p2 v2_1 (hM.rdo hv2_1) r28 e29) ?_
                  rintro _ w a ⟨_, rfl, hFr, hK⟩ hE
                  have hM := hM0.add hK hFr
                  exact ⟨_, _, rfl, hE, trivial, M.optFill (mk1 := [_]) (mk2 := []) (f := (fun v => osl NoB (r28 : List UInt8) v)) hM rfl hD⟩
                · intro a w ux20 D hE hM hD hp
                  have f6 : ux20 6 = (vT (r7 != 0)) := (hp 3 _ rfl rfl).2
                  have d8 := (hp 0 _ rfl rfl).1
                  have d10 := (hp 1 _ rfl rfl).1
                  have hM0 := hM
                  have hM : M (Old w0) w0 w [opt (D 8) (osl NoB (r25 : List UInt8) (ux20 8)), opt (D 10) (osl NoB (r28 : List UInt8) (ux20 10))] := hM
                  have hM := hM.sure (pre := []) d8
                  have hM := hM.sure (pre := [_]) d10
                  refine s_call (vs := [(ux20 8), (ux20 10)]) hE (goes_yes hE rfl (lkb (lk rfl f6) hb23)) (by decide) rfl cb94 (c_spec_l01Alike _ r25 (ux20 8) (hM.sl (pre := []) noB) r28 (ux20 10) (hM.sl (pre := [_]) noB) r31 e32) ?_
                  rintro v w a ⟨rfl, hK⟩ hE
                  exact ⟨_, _, rfl, hE, rfl, (hM0.keep hK).optKeep rfl⟩
                · intro a w ux20 D hE hM hD hp
                  have f6 : ux20 6 = (vT (r7 != 0)) := (hp 1 _ rfl rfl).2
                  have f11 : ux20 11 = (vT r31) := (hp 0 _ rfl rfl).2
                  have hM0 := hM
                  refine s_not hE (goes_yes hE rfl (lkb (lk rfl f6) hb23)) (by decide) (lk rfl f11) ?_; intro a hE
                  exact ⟨_, _, rfl, hE, rfl, hM0.optKeep rfl⟩
                · intro a w ux20 D hE hM hD hp
                  have f6 : ux20 6 = (vT (r7 != 0)) := (hp 0 _ rfl rfl).2
                  have f12 : ux20 12 = (vT (!r31)) := (hp 1 _ rfl rfl).2
                  have hM0 := hM
                  refine s_pickF hE goes_none (by decide) (lkb (lk rfl f6) hb23) (lk rfl f12) ?_; intro a hE
                  exact ⟨_, _, rfl, hE, rfl, hM0.optKeep rfl⟩
                · intro a w ux20 D hE hM hD hp
                  have f13 : ux20 13 = (vT (!r31)) := (hp 0 _ rfl rfl).2
                  have hM0 := hM
                  refine s_move hE goes_none (by decide) (lk rfl f13) ?_; intro a hE
                  exact ⟨_, _, rfl, hE, rfl, hM0.optKeep rfl⟩
                · intro a w ux20 D hE hM hD hp
                  have f14 : ux20 14 = (vT (!r31)) := (hp 0 _ rfl rfl).2
                  have hM0 := hM
                  refine s_skip hE rfl (lkb (lk rfl f14) hb33) rfl (by decide) ?_; intro a hE
                  exact ⟨_, _, rfl, hE, rfl, hM0.optKeep rfl⟩
                · intro a w ux20 D hE hM hD hp
                  have f14 : ux20 14 = (vT (!r31)) := (hp 1 _ rfl rfl).2
                  have f15 : ux20 15 = undef := (hp 0 _ rfl rfl).2
                  have hM0 := hM
                  refine s_skip hE rfl (lkb (lk rfl f14) hb33) rfl (by decide) ?_; intro a hE
                  exact ⟨_, _, rfl, hE, rfl, hM0.optKeep rfl⟩
                · intro a w ux20 D hE hM hD hp
                  have f14 : ux20 14 = (vT (!r31)) := (hp 1 _ rfl rfl).2
                  have f16 : ux20 16 = undef := (hp 0 _ rfl rfl).2
                  have hM0 := hM
                  refine s_skip hE rfl (lkb (lk rfl f14) hb33) rfl (by decide) ?_; intro a hE
                  exact ⟨_, _, rfl, hE, rfl, hM0.optKeep rfl⟩
                · intro a w ux20 D hE hM hD hp
                  have f14 : ux20 14 = (vT (!r31)) := (hp 1 _ rfl rfl).2
                  have f17 : ux20 17 = undef := (hp 0 _ rfl rfl).2
                  have hM0 := hM
                  refine s_skip hE rfl (lkb (lk rfl f14) hb33) rfl (by decide) ?_; intro a hE
                  exact ⟨_, _, rfl, hE, rfl, hM0.optKeep rfl⟩
                · intro a w ux20 D hE hM hD hp
                  have f14 : ux20 14 = (vT (!r31)) := (hp 1 _ rfl rfl).2
                  have f18 : ux20 18 = undef := (hp 0 _ rfl rfl).2
                  have hM0 := hM
                  refine s_skip hE rfl (lkb (lk rfl f14) hb33) rfl (by decide) ?_; intro a hE
                  exact ⟨_, _, rfl, hE, rfl, hM0.optKeep rfl⟩
                · intro a w ux20 D hE hM hD hp
                  have f14 : ux20 14 = (vT (!r31)) := (hp 0 _ rfl rfl).2
                  have hM0 := hM
                  refine s_skip hE rfl (lkb (lk rfl f14) hb33) rfl (by decide) ?_; intro a hE
                  exact ⟨_, _, rfl, hE, rfl, hM0.optKeep rfl⟩
                · intro a w ux20 D hE hM hD hp
                  have f14 : ux20 14 = (vT (!r31)) := (hp 1 _ rfl rfl).2
                  have f20 : ux20 20 = undef := (hp 0 _ rfl rfl).2
                  have hM0 := hM
                  refine s_skip hE rfl (lkb (lk rfl f14) hb33) rfl (by decide) ?_; intro a hE
                  exact ⟨_, _, rfl, hE, rfl, hM0.optKeep rfl⟩
                · intro a w ux20 D hE hM hD hp
                  have f14 : ux20 14 = (vT (!r31)) := (hp 1 _ rfl rfl).2
                  have f21 : ux20 21 = undef := (hp 0 _ rfl rfl).2
                  have hM0 := hM
                  refine s_skip hE rfl (lkb (lk rfl f14) hb33) rfl (by decide) ?_; intro a hE
                  exact ⟨_, _, rfl, hE, rfl, hM0.optKeep rfl⟩
                · intro a w ux20 D hE hM hD hp
                  have f14 : ux20 14 = (vT (!r31)) := (hp 1 _ rfl rfl).2
                  have f22 : ux20 22 = undef := (hp 0 _ rfl rfl).2
                  have hM0 := hM
                  refine s_skip hE rfl (lkb (lk rfl f14) hb33) rfl (by decide) ?_; intro a hE
                  exact ⟨_, _, rfl, hE, rfl, hM0.optKeep rfl⟩
                · intro a w ux20 D hE hM hD hp
                  have f14 : ux20 14 = (vT (!r31)) := (hp 1 _ rfl rfl).2
                  have f23 : ux20 23 = undef := (hp 0 _ rfl rfl).2
                  have hM0 := hM
                  refine s_skip hE rfl (lkb (lk rfl f14) hb33) rfl (by decide) ?_; intro a hE
                  exact ⟨_, _, rfl, hE, rfl, hM0.optKeep rfl⟩
                · intro a w ux20 hE hM hg
                  have f0 : ux20 0 = (vI r5) := hg 0 (by decide)
                  have f1 : ux20 1 = (vT (r5 != 0)) := hg 1 (by decide)
                  have f2 : ux20 2 = (vT (r5 != 0)) := hg 2 (by decide)
                  have f3 : ux20 3 = (vI r7) := hg 3 (by decide)
                  have f4 : ux20 4 = (vT (r7 != 0)) := hg 4 (by decide)
                  have f5 : ux20 5 = (vT (r7 != 0)) := hg 5 (by decide)
                  have f6 : ux20 6 = (vT (r7 != 0)) := hg 6 (by decide)
                  have f7 : ux20 7 = v1_1 := hg 7 (by decide)
                  have f9 : ux20 9 = v2_1 := hg 9 (by decide)
                  have f11 : ux20 11 = (vT r31) := hg 11 (by decide)
                  have f12 : ux20 12 = (vT (!r31)) := hg 12 (by decide)
                  have f13 : ux20 13 = (vT (!r31)) := hg 13 (by decide)
                  have f14 : ux20 14 = (vT (!r31)) := hg 14 (by decide)
                  have f15 : ux20 15 = undef := hg 15 (by decide)
                  have f16 : ux20 16 = undef := hg 16 (by decide)
                  have f17 : ux20 17 = undef := hg 17 (by decide)
                  have f18 : ux20 18 = undef := hg 18 (by decide)
                  have f19 : ux20 19 = undef := hg 19 (by decide)
                  have f20 : ux20 20 = undef := hg 20 (by decide)
                  have f21 : ux20 21 = undef := hg 21 (by decide)
                  have f22 : ux20 22 = undef := hg 22 (by decide)
                  have f23 : ux20 23 = undef := hg 23 (by decide)
                  have f24 : ux20 24 = undef := hg 24 (by decide)
                  have hM : M (Old w0) w0 w [osl NoB (r25 : List UInt8) (ux20 8), osl NoB (r28 : List UInt8) (ux20 10)] := hM
                  have hE := hE.sub (e' := [(25, (vI r5)), (26, (vT (r5 != 0))), (27, (vT (r5 != 0))), (28, (vI r7)), (29, (vT (r7 != 0))), (30, (vT (r7 != 0))), (31, (vT (r7 != 0))), (32, v1_1), (33, (ux20 8)), (34, v2_1), (35, (ux20 10)), (36, (vT r31)), (37, (vT (!r31))), (38, (vT (!r31))), (39, (vT (!r31))), (40, undef), (41, undef), (42, undef), (43, undef), (44, undef), (45, undef), (46, undef), (47, undef), (48, undef), (49, undef), (1, v1_1), (2, v2_1), (8, (vI r5)), (9, (vI r7)), (17, (vT j9))]) ⟨lk rfl f0, lk rfl f1, lk rfl f2, lk rfl f3, lk rfl f4, lk rfl f5, lk rfl f6, lk rfl f7, rfl, lk rfl f9, rfl, lk rfl f11, lk rfl f12, lk rfl f13, lk rfl f14, lk rfl f15, lk rfl f16, lk rfl f17, lk rfl f18, lk rfl f19, lk rfl f20, lk rfl f21, lk rfl f22, lk rfl f23, lk rfl f24, rfl, rfl, rfl, rfl, rfl, trivial⟩
                  refine s_skip hE rfl (lkb rfl hb33) rfl (by decide) ?_; intro a hE
                  refine s_pickT hE goes_none (by decide) (lkb rfl hb33) rfl ?_; intro a hE
                  refine s_assign hE goes_none (by decide) rfl ?_; intro a hE
                  refine c_fin0 ?_
                  have ht34 := Option.some.inj hl18
                  subst ht34
                  refine c_mid ?_
                  have hM := M.fst (l := []) hM
                  exact ⟨hE.sub ⟨rfl, rfl, rfl, trivial⟩, hM⟩
              · have hl18 := ite_f hl18 hb33
                obtain ⟨x35, e36, hl18⟩ := bind_some hl18
                have hi37 := idx_some e36
                obtain ⟨cs38, hs39, hA40⟩ := sl_atRo hv1_1 hi37.2 -- ^
                obtain ⟨u41, rfl, h42⟩ := un_GShare hs39 -- ^
                obtain ⟨x43, e44, hl18⟩ := bind_some hl18
                have hi45 := idx_some e44
                obtain ⟨cs46, hs47, hA48⟩ := sl_atRo hv2_1 hi45.2 -- ^
                obtain ⟨u49, rfl, h50⟩ := un_GShare hs47 -- ^
                refine c_draw2 (n := 55) (hd := [_, _, _, _, _, _, _, _, _, _, _, _, _, _, _, _, _, _, _, _, _, _, _, _, _]) (tl := [_, _, _]) (its := []) hmix rfl rfl [25, 26, 27, 28, 29, 30, 31, 32, 33, 34, 35, 36, 37, 38, 39, 40, 41, 42, 43, 44, 45, 46, 47, 48, 49] (by decide) [(8, fun v => osl NoB (r25 : List UInt8) v), (10, fun v => osl NoB (r28 : List UInt8) v)] rfl (fun j => ([fun v => v = (vI r5), fun v => v = (vT (r5 != 0)), fun v => v = (vT (r5 != 0)), fun v => v = (vI r7), fun v => v = (vT (r7 != 0)), fun v => v = (vT (r7 != 0)), fun v => v = (vT (r7 != 0)), fun v => v = v1_1, fun v => True, fun v => v = v2_1, fun v => True, fun v => v = (vT r31), fun v => v = (vT (!r31)), fun v => v = (vT (!r31)), fun v => v = (vT (!r31)), fun v => v = v1_1, fun v => v = (ptr (sb v1_1) (so v1_1 + ((0 : Int)).toNat * 2)), fun v => v = (ptr (sb v1_1) (so v1_1 + ((0 : Int)).toNat * 2 + 1)), fun v => v = u41, fun v => v = (vI (x35.Data.length : Int)), fun v => v = v2_1, fun v => v = (ptr (sb v2_1) (so v2_1 + ((0 : Int)).toNat * 2)), fun v => v = (ptr (sb v2_1) (so v2_1 + ((0 : Int)).toNat * 2 + 1)), fun v => v = u49, fun v => v = (vI (x43.Data.length : Int))] : List (Value → Prop)).getD j (fun _ => True)) hE hM.drew (steps_of (steps_cons ?_ (steps_cons ?_ (steps_cons ?_ (steps_cons ?_ (steps_cons ?_ (steps_cons ?_ (steps_cons ?_ (steps_cons ?_ (steps_cons ?_ (steps_cons ?_ (steps_cons ?_ (steps_cons ?_ (steps_cons ?_ (steps_cons ?_ (steps_cons ?_ (steps_cons ?_ (steps_cons ?_ (steps_cons ?_ (steps_cons ?_ (steps_cons ?_ (steps_cons ?_ (steps_cons ?_ (steps_cons ?_ (steps_cons ?_ (steps_cons ?_ steps_nil)))))))))))))))))))))))))) ?_
                · intro a w ux20 D hE hM hD hp
                  have hM0 := hM
                  refine s_move hE goes_none (by decide) rfl ?_; intro a hE
                  exact ⟨_, _, rfl, hE, rfl, hM0.optKeep rfl⟩
                · intro a w ux20 D hE hM hD hp
                  have f0 : ux20 0 = (vI r5) := (hp 0 _ rfl rfl).2
                  have hM0 := hM
                  refine s_int hE goes_none (by decide) (lk rfl f0) rfl rfl ?_; intro a hE
                  exact ⟨_, _, rfl, hE, rfl, hM0.optKeep rfl⟩
                · intro a w ux20 D hE hM hD hp
                  have f1 : ux20 1 = (vT (r5 != 0)) := (hp 0 _ rfl rfl).2
                  have hM0 := hM
                  refine s_move hE goes_none (by decide) (lk rfl f1) ?_; intro a hE
                  exact ⟨_, _, rfl, hE, rfl, hM0.optKeep rfl⟩
                · intro a w ux20 D hE hM hD hp
                  have f2 : ux20 2 = (vT (r5 != 0)) := (hp 0 _ rfl rfl).2
                  have hM0 := hM
                  refine s_move hE (goes_yes hE rfl (lkb (lk rfl f2) hb21)) (by decide) rfl ?_; intro a hE
                  exact ⟨_, _, rfl, hE, rfl, hM0.optKeep rfl⟩
                · intro a w ux20 D hE hM hD hp
                  have f2 : ux20 2 = (vT (r5 != 0)) := (hp 1 _ rfl rfl).2
                  have f3 : ux20 3 = (vI r7) := (hp 0 _ rfl rfl).2
                  have hM0 := hM
                  refine s_int hE (goes_yes hE rfl (lkb (lk rfl f2) hb21)) (by decide) (lk rfl f3) rfl rfl ?_; intro a hE
                  exact ⟨_, _, rfl, hE, rfl, hM0.optKeep rfl⟩
                · intro a w ux20 D hE hM hD hp
                  have f2 : ux20 2 = (vT (r5 != 0)) := (hp 0 _ rfl rfl).2
                  have f4 : ux20 4 = (vT (r7 != 0)) := (hp 1 _ rfl rfl).2
                  have hM0 := hM
                  refine s_pickF hE goes_none (by decide) (lkb (lk rfl f2) hb21) (lk rfl f4) ?_; intro a hE
                  exact ⟨_, _, rfl, hE, rfl, hM0.optKeep rfl⟩
                · intro a w ux20 D hE hM hD hp
                  have f5 : ux20 5 = (vT (r7 != 0)) := (hp 0 _ rfl rfl).2
                  have hM0 := hM
                  refine s_move hE goes_none (by decide) (lk rfl f5) ?_; intro a hE
                  exact ⟨_, _, rfl, hE, rfl, hM0.optKeep rfl⟩
                · intro a w ux20 D hE hM hD hp
                  have f6 : ux20 6 = (vT (r7 != 0)) := (hp 0 _ rfl rfl).2
                  have hM0 := hM
                  refine s_move hE (goes_yes hE rfl (lkb (lk rfl f6) hb23)) (by decide) rfl ?_; intro a hE
                  exact ⟨_, _, rfl, hE, rfl, hM0.optKeep rfl⟩
                · intro a w ux20 D hE hM hD hp
                  have f6 : ux20 6 = (vT (r7 != 0)) := (hp 1 _ rfl rfl).2
                  have f7 : ux20 7 = v1_1 := (hp 0 _ rfl rfl).2
                  have hM0 := hM
                  have hM : M (Old w0) w0 w [opt (D 8) (osl NoB (r25 : List UInt8) (ux20 8)), opt (D 10) (osl NoB (r28 : List UInt8) (ux20 10))] := hM
                  refine s_call (vs := [v1_1]) hE (goes_yes hE rfl (lkb (lk rfl f6) hb23)) (by decide) (evs_of (evsC (lk rfl f7) evsN)) cb95 (c_spec_l10Places _ p1 v1_1 (hM.rdo hv1_1) r25 e26) ?_
                  rintro _ w a ⟨_, rfl, hFr, hK⟩ hE
                  have hM := hM0.add hK hFr
                  exact ⟨_, _, rfl, hE, trivial, M.optFill (mk1 := []) (mk2 := [_]) (f := (fun v => osl NoB (r25 : List UInt8) v)) hM rfl hD⟩
                · intro a w ux20 D hE hM hD hp
                  have f6 : ux20 6 = (vT (r7 != 0)) := (hp 0 _ rfl rfl).2
                  have hM0 := hM
                  refine s_move hE (goes_yes hE rfl (lkb (lk rfl f6) hb23)) (by decide) rfl ?_; intro a hE
                  exact ⟨_, _, rfl, hE, rfl, hM0.optKeep rfl⟩
                · intro a w ux20 D hE hM hD hp
                  have f6 : ux20 6 = (vT (r7 != 0)) := (hp 2 _ rfl rfl).2
                  have f9 : ux20 9 = v2_1 := (hp 0 _ rfl rfl).2
                  have hM0 := hM
                  have hM : M (Old w0) w0 w [opt (D 8) (osl NoB (r25 : List UInt8) (ux20 8)), opt (D 10) (osl NoB (r28 : List UInt8) (ux20 10))] := hM
                  refine s_call (vs := [v2_1]) hE (goes_yes hE rfl (lkb (lk rfl f6) hb23)) (by decide) (evs_of (evsC (lk rfl f9) evsN)) cb95 (c_spec_l10Places _ p2 v2_1 (hM.rdo hv2_1) r28 e29) ?_
                  rintro _ w a ⟨_, rfl, hFr, hK⟩ hE
                  have hM := hM0.add hK hFr
                  exact ⟨_, _, rfl, hE, trivial, M.optFill (mk1 := [_]) (mk2 := []) (f := (fun v => osl NoB (r28 : List UInt8) v)) hM rfl hD⟩
                · intro a w ux20 D hE hM hD hp
                  have f6 : ux20 6 = (vT (r7 != 0)) := (hp 3 _ rfl rfl).2
                  have d8 := (hp 0 _ rfl rfl).1
                  have d10 := (hp 1 _ rfl rfl).1
                  have hM0 := hM
                  have hM : M (Old w0) w0 w [opt (D 8) (osl NoB (r25 : List UInt8) (ux20 8)), opt (D 10) (osl NoB (r28 : List UInt8) (ux20 10))] := hM
                  have hM := hM.sure (pre := []) d8
                  have hM := hM.sure (pre := [_]) d10
                  refine s_call (vs := [(ux20 8), (ux20 10)]) hE (goes_yes hE rfl (lkb (lk rfl f6) hb23)) (by decide) rfl cb94 (c_spec_l01Alike _ r25 (ux20 8) (hM.sl (pre := []) noB) r28 (ux20 10) (hM.sl (pre := [_]) noB) r31 e32) ?_
                  rintro v w a ⟨rfl, hK⟩ hE
                  exact ⟨_, _, rfl, hE, rfl, (hM0.keep hK).optKeep rfl⟩
                · intro a w ux20 D hE hM hD hp
                  have f6 : ux20 6 = (vT (r7 != 0)) := (hp 1 _ rfl rfl).2
                  have f11 : ux20 11 = (vT r31) := (hp 0 _ rfl rfl).2
                  have hM0 := hM
                  refine s_not hE (goes_yes hE rfl (lkb (lk rfl f6) hb23)) (by decide) (lk rfl f11) ?_; intro a hE
                  exact ⟨_, _, rfl, hE, rfl, hM0.optKeep rfl⟩
                · intro a w ux20 D hE hM hD hp
                  have f6 : ux20 6 = (vT (r7 != 0)) := (hp 0 _ rfl rfl).2
                  have f12 : ux20 12 = (vT (!r31)) := (hp 1 _ rfl rfl).2
                  have hM0 := hM
                  refine s_pickF hE goes_none (by decide) (lkb (lk rfl f6) hb23) (lk rfl f12) ?_; intro a hE
                  exact ⟨_, _, rfl, hE, rfl, hM0.optKeep rfl⟩
                · intro a w ux20 D hE hM hD hp
                  have f13 : ux20 13 = (vT (!r31)) := (hp 0 _ rfl rfl).2
                  have hM0 := hM
                  refine s_move hE goes_none (by decide) (lk rfl f13) ?_; intro a hE
                  exact ⟨_, _, rfl, hE, rfl, hM0.optKeep rfl⟩
                · intro a w ux20 D hE hM hD hp
                  have f14 : ux20 14 = (vT (!r31)) := (hp 0 _ rfl rfl).2
                  have hM0 := hM
                  refine s_move hE (goes_yes hE rfl (lkb (lk rfl f14) hb33)) (by decide) rfl ?_; intro a hE
                  exact ⟨_, _, rfl, hE, rfl, hM0.optKeep rfl⟩
                · intro a w ux20 D hE hM hD hp
                  have f14 : ux20 14 = (vT (!r31)) := (hp 1 _ rfl rfl).2
                  have f15 : ux20 15 = v1_1 := (hp 0 _ rfl rfl).2
                  have hM0 := hM
                  have hM : M (Old w0) w0 w [opt (D 8) (osl NoB (r25 : List UInt8) (ux20 8)), opt (D 10) (osl NoB (r28 : List UInt8) (ux20 10))] := hM
                  refine s_indexS hE (goes_yes hE rfl (lkb (lk rfl f14) hb33)) (by decide) (lk rfl f15) rfl Try.underlying25 ty81 (hM.rd hv1_1) hi37.1 ?_; intro a hE
                  exact ⟨_, _, rfl, hE, rfl, hM0.optKeep rfl⟩
                · intro a w ux20 D hE hM hD hp
                  have f14 : ux20 14 = (vT (!r31)) := (hp 1 _ rfl rfl).2
                  have f16 : ux20 16 = (ptr (sb v1_1) (so v1_1 + ((0 : Int)).toNat * 2)) := (hp 0 _ rfl rfl).2
                  have hM0 := hM
                  refine s_fieldAddr hE (goes_yes hE rfl (lkb (lk rfl f14) hb33)) (by decide) (lk rfl f16) (fd81_1) ?_; intro a hE
                  exact ⟨_, _, rfl, hE, rfl, hM0.optKeep rfl⟩
                · intro a w ux20 D hE hM hD hp
                  have f14 : ux20 14 = (vT (!r31)) := (hp 1 _ rfl rfl).2
                  have f17 : ux20 17 = (ptr (sb v1_1) (so v1_1 + ((0 : Int)).toNat * 2 + 1)) := (hp 0 _ rfl rfl).2
                  have hM0 := hM
                  have hM : M (Old w0) w0 w [opt (D 8) (osl NoB (r25 : List UInt8) (ux20 8)), opt (D 10) (osl NoB (r28 : List UInt8) (ux20 10))] := hM
                  refine s_load (v := u41) hE (goes_yes hE rfl (lkb (lk rfl f14) hb33)) (by decide) (lk rfl f17) ty29 rfl (At.cat (pre := [[(vB x35.Place)]]) (seg := [u41]) (post := []) (hM.atk hA40 (sl_blk hv1_1 hi37.2)) (cl1 (n := 1) (m := 0) rfl cl0)) ?_; intro a hE
                  exact ⟨_, _, rfl, hE, rfl, hM0.optKeep rfl⟩
                · intro a w ux20 D hE hM hD hp
                  have f14 : ux20 14 = (vT (!r31)) := (hp 1 _ rfl rfl).2
                  have f18 : ux20 18 = u41 := (hp 0 _ rfl rfl).2
                  have hM0 := hM
                  have hM : M (Old w0) w0 w [opt (D 8) (osl NoB (r25 : List UInt8) (ux20 8)), opt (D 10) (osl NoB (r28 : List UInt8) (ux20 10))] := hM
                  refine s_len hE (goes_yes hE rfl (lkb (lk rfl f14) hb33)) (by decide) (lk rfl f18) Try.underlying29 (hM.rd h42) ?_; intro a hE
                  exact ⟨_, _, rfl, hE, rfl, hM0.optKeep rfl⟩
                · intro a w ux20 D hE hM hD hp
                  have f14 : ux20 14 = (vT (!r31)) := (hp 0 _ rfl rfl).2
                  have hM0 := hM
                  refine s_move hE (goes_yes hE rfl (lkb (lk rfl f14) hb33)) (by decide) rfl ?_; intro a hE
                  exact ⟨_, _, rfl, hE, rfl, hM0.optKeep rfl⟩
                · intro a w ux20 D hE hM hD hp
                  have f14 : ux20 14 = (vT (!r31)) := (hp 1 _ rfl rfl).2
                  have f20 : ux20 20 = v2_1 := (hp 0 _ rfl rfl).2
                  have hM0 := hM
                  have hM : M (Old w0) w0 w [opt (D 8) (osl NoB (r25 : List UInt8) (ux20 8)), opt (D 10) (osl NoB (r28 : List UInt8) (ux20 10))] := hM
                  refine s_indexS hE (goes_yes hE rfl (lkb (lk rfl f14) hb33)) (by decide) (lk rfl f20) rfl Try.underlying25 ty81 (hM.rd hv2_1) hi45.1 ?_; intro a hE
                  exact ⟨_, _, rfl, hE, rfl, hM0.optKeep rfl⟩
                · intro a w ux20 D hE hM hD hp
                  have f14 : ux20 14 = (vT (!r31)) := (hp 1 _ rfl rfl).2
                  have f21 : ux20 21 = (ptr (sb v2_1) (so v2_1 + ((0 : Int)).toNat * 2)) := (hp 0 _ rfl rfl).2
                  have hM0 := hM
                  refine s_fieldAddr hE (goes_yes hE rfl (lkb (lk rfl f14) hb33)) (by decide) (lk rfl f21) (fd81_1) ?_; intro a hE
                  exact ⟨_, _, rfl, hE, rfl, hM0.optKeep rfl⟩
                · intro a w ux20 D hE hM hD hp
                  have f14 : ux20 14 = (vT (!r31)) := (hp 1 _ rfl rfl).2
                  have f22 : ux20 22 = (ptr (sb v2_1) (so v2_1 + ((0 : Int)).toNat * 2 + 1)) := (hp 0 _ rfl rfl).2
                  have hM0 := hM
                  have hM : M (Old w0) w0 w [opt (D 8) (osl NoB (r25 : List UInt8) (ux20 8)), opt (D 10) (osl NoB (r28 : List UInt8) (ux20 10))] := hM
                  refine s_load (v := u49) hE (goes_yes hE rfl (lkb (lk rfl f14) hb33)) (by decide) (lk rfl f22) ty29 rfl (At.cat (pre := [[(vB x43.Place)]]) (seg := [u49]) (post := []) (hM.atk hA48 (sl_blk hv2_1 hi45.2)) (cl1 (n := 1) (m := 0) rfl cl0)) ?_; intro a hE
                  exact ⟨_, _, rfl, hE, rfl, hM0.optKeep rfl⟩
                · intro a w ux20 D hE hM hD hp
                  have f14 : ux20 14 = (vT (!r31)) := (hp 1 _ rfl rfl).2
                  have f23 : ux20 23 = u49 := (hp 0 _ rfl rfl).2
                  have hM0 := hM
                  have hM : M (Old w0) w0 w [opt (D 8) (osl NoB (r25 : List UInt8) (ux20 8)), opt (D 10) (osl NoB (r28 : List UInt8) (ux20 10))] := hM
                  refine s_len hE (goes_yes hE rfl (lkb (lk rfl f14) hb33)) (by decide) (lk rfl f23) Try.underlying29 (hM.rd h50) ?_; intro a hE
                  exact ⟨_, _, rfl, hE, rfl, hM0.optKeep rfl⟩
                · intro a w ux20 hE hM hg
                  have f0 : ux20 0 = (vI r5) := hg 0 (by decide)
                  have f1 : ux20 1 = (vT (r5 != 0)) := hg 1 (by decide)
                  have f2 : ux20 2 = (vT (r5 != 0)) := hg 2 (by decide)
                  have f3 : ux20 3 = (vI r7) := hg 3 (by decide)
                  have f4 : ux20 4 = (vT (r7 != 0)) := hg 4 (by decide)
                  have f5 : ux20 5 = (vT (r7 != 0)) := hg 5 (by decide)
                  have f6 : ux20 6 = (vT (r7 != 0)) := hg 6 (by decide)
                  have f7 : ux20 7 = v1_1 := hg 7 (by decide)
                  have f9 : ux20 9 = v2_1 := hg 9 (by decide)
                  have f11 : ux20 11 = (vT r31) := hg 11 (by decide)
                  have f12 : ux20 12 = (vT (!r31)) := hg 12 (by decide)
                  have f13 : ux20 13 = (vT (!r31)) := hg 13 (by decide)
                  have f14 : ux20 14 = (vT (!r31)) := hg 14 (by decide)
                  have f15 : ux20 15 = v1_1 := hg 15 (by decide)
                  have f16 : ux20 16 = (ptr (sb v1_1) (so v1_1 + ((0 : Int)).toNat * 2)) := hg 16 (by decide)
                  have f17 : ux20 17 = (ptr (sb v1_1) (so v1_1 + ((0 : Int)).toNat * 2 + 1)) := hg 17 (by decide)
                  have f18 : ux20 18 = u41 := hg 18 (by decide)
                  have f19 : ux20 19 = (vI (x35.Data.length : Int)) := hg 19 (by decide)
                  have f20 : ux20 20 = v2_1 := hg 20 (by decide)
                  have f21 : ux20 21 = (ptr (sb v2_1) (so v2_1 + ((0 : Int)).toNat * 2)) := hg 21 (by decide)
                  have f22 : ux20 22 = (ptr (sb v2_1) (so v2_1 + ((0 : Int)).toNat * 2 + 1)) := hg 22 (by decide)
                  have f23 : ux20 23 = u49 := hg 23 (by decide)
                  have f24 : ux20 24 = (vI (x43.Data.length : Int)) := hg 24 (by decide)
                  have hM : M (Old w0) w0 w [osl NoB (r25 : List UInt8) (ux20 8), osl NoB (r28 : List UInt8) (ux20 10)] := hM
                  have hE := hE.sub (e' := [(25, (vI r5)), (26, (vT (r5 != 0))), (27, (vT (r5 != 0))), (28, (vI r7)), (29, (vT (r7 != 0))), (30, (vT (r7 != 0))), (31, (vT (r7 != 0))), (32, v1_1), (33, (ux20 8)), (34, v2_1), (35, (ux20 10)), (36, (vT r31)), (37, (vT (!r31))), (38, (vT (!r31))), (39, (vT (!r31))), (40, v1_1), (41, (ptr (sb v1_1) (so v1_1 + ((0 : Int)).toNat * 2))), (42, (ptr (sb v1_1) (so v1_1 + ((0 : Int)).toNat * 2 + 1))), (43, u41), (44, (vI (x35.Data.length : Int))), (45, v2_1), (46, (ptr (sb v2_1) (so v2_1 + ((0 : Int)).toNat * 2))), (47, (ptr (sb v2_1) (so v2_1 + ((0 : Int)).toNat * 2 + 1))), (48, u49), (49, (vI (x43.Data.length : Int))), (1, v1_1), (2, v2_1), (8, (vI r5)), (9, (vI r7)), (17, (vT j9))]) ⟨lk rfl f0, lk rfl f1, lk rfl f2, lk rfl f3, lk rfl f4, lk rfl f5, lk rfl f6, lk rfl f7, rfl, lk rfl f9, rfl, lk rfl f11, lk rfl f12, lk rfl f13, lk rfl f14, lk rfl f15, lk rfl f16, lk rfl f17, lk rfl f18, lk rfl f19, lk rfl f20, lk rfl f21, lk rfl f22, lk rfl f23, lk rfl f24, rfl, rfl, rfl, rfl, rfl, trivial⟩
                  refine s_int hE (goes_yes hE rfl (lkb rfl hb33)) (by decide) rfl rfl rfl ?_; intro a hE
                  refine s_pickF hE goes_none (by decide) (lkb rfl hb33) rfl ?_; intro a hE
                  refine s_assign hE goes_none (by decide) rfl ?_; intro a hE
                  refine c_fin0 ?_
                  have ht51 := Option.some.inj hl18
                  subst ht51
                  refine c_mid ?_
                  have hM := M.fst (l := []) hM
                  exact ⟨hE.sub ⟨rfl, rfl, rfl, trivial⟩, hM⟩
        · skip
          rintro a w ⟨hE, hM⟩
          refine c_cond hE rfl ?_ ?_
          · intro hb52
            have hF19 := ite_t hF19 hb52
            refine c_region ?_
            refine s_assign hE goes_none (by decide) rfl ?_; intro a hE
            refine s_assign hE goes_none (by decide) rfl ?_; intro a hE
            refine c_fin ?_
            have hM := M.nilS (α := GShare) NoB noB hM
            have hr := Option.some.inj hF19
            subst hr
            exact wp_ret (r_inb (r_then (k_ret2 hE rfl (res_tmp hE rfl) (res_tmp hE rfl) ⟨_, rfl, (Value.slice none 0 0), rfl, hM.outF (locN1 locN0), hM.kept⟩)))
          · intro hb52
            have hF19 := ite_f hF19 hb52
            refine wp_skip ?_
            refine c_nb ?_
            refine c_nx ?_
            refine c_region ?_
            refine s_move hE goes_none (by decide) rfl ?_; intro a hE
            refine s_move hE goes_none (by decide) rfl ?_; intro a hE
            obtain ⟨r54, e55, hF19⟩ := bind_some hF19
            refine s_call (vs := [v1_1, v2_1]) hE goes_none (by decide) rfl cb96 (c_spec_l10Add _ p1 v1_1 (hM.rdo hv1_1) p2 v2_1 (hM.rdo hv2_1) r54 e55) ?_
            rintro u56 w a ⟨_, rfl, hFr, hK⟩ hE
            have hM := hM.add hK hFr
            refine s_assign hE goes_none (by decide) rfl ?_; intro a hE
            refine s_assign hE goes_none (by decide) rfl ?_; intro a hE
            refine c_fin ?_
            have hr := Option.some.inj hF19
            subst hr
            exact wp_ret (k_ret2 hE rfl (res_tmp hE rfl) (res_tmp hE rfl) ⟨_, rfl, u56, rfl, hM.outF (locN1 locN0), hM.kept⟩)
noncomputable def F_impl_inRange (p0 : Int) (p1 : Int) (p2 : Int) : Option (Bool) :=
  (if (decide (p1 ≤ p0)) = true then (some (decide (p0 ≤ p2))) else (some false) : Option (Bool)).bind fun (j1 : Bool) => some j1
set_option maxRecDepth 20000 in
set_option maxHeartbeats 400000 in
theorem c_impl_inRange (w0 : World) (p0 : Int) (p1 : Int) (p2 : Int) (r : Bool) (hF : F_impl_inRange p0 p1 p2 = some r) :
    Calls Try.prog 56 [(vI p0), (vI p1), (vI p2)].toArray w0 (fun en w' => ∃ v, en = .returned v ∧ (v = (vT r) ∧ Kept (Old w0) w0 w')) := by
  refine c_enter (n := 15) Try.func56 rfl rfl (Nat.le_of_ble_eq_true rfl) rfl ?_
  intro a hE
  have hM := M.start w0
  unfold F_impl_inRange at hF
  refine c_region ?_
  refine s_assign hE goes_none (by decide) rfl ?_; intro a hE
  refine c_fin ?_
  obtain ⟨j1, hl2, hF3⟩ := bind_some hF
  refine c_join (fun a w => Env 15 a [(6, (vT j1))] ∧ M (Old w0) w0 w []) ?_ ?_
  · skip
    refine wp_region_lit ?_
    refine s_move hE goes_none (by decide) rfl ?_; intro a hE
    refine s_move hE goes_none (by decide) rfl ?_; intro a hE
    refine s_int hE goes_none (by decide) rfl rfl rfl ?_; intro a hE
    refine s_move hE goes_none (by decide) rfl ?_; intro a hE
    refine splitB (decide (p1 ≤ p0)) (fun hb4 => ?_) (fun hb4 => ?_)
    · have hl2 := ite_t hl2 hb4
      refine s_move hE (goes_yes hE rfl (lkb rfl hb4)) (by decide) rfl ?_; intro a hE
      refine s_move hE (goes_yes hE rfl (lkb rfl hb4)) (by decide) rfl ?_; intro a hE
      refine s_int hE (goes_yes hE rfl (lkb rfl hb4)) (by decide) rfl rfl rfl ?_; intro a hE
      refine s_pickT hE goes_none (by decide) (lkb rfl hb4) rfl ?_; intro a hE
      refine s_assign hE goes_none (by decide) rfl ?_; intro a hE
      refine c_fin0 ?_
      have ht5 := Option.some.inj hl2
      subst ht5
      refine c_mid ?_
      exact ⟨hE.sub ⟨rfl, trivial⟩, hM⟩
    · have hl2 := ite_f hl2 hb4
      refine s_skip hE rfl (lkb rfl hb4) rfl (by decide) ?_; intro a hE
      refine s_skip hE rfl (lkb rfl hb4) rfl (by decide) ?_; intro a hE
      refine s_skip hE rfl (lkb rfl hb4) rfl (by decide) ?_; intro a hE
      refine s_pickF hE goes_none (by decide) (lkb rfl hb4) rfl ?_; intro a hE
      refine s_assign hE goes_none (by decide) rfl ?_; intro a hE
      refine c_fin0 ?_
      have ht6 := Option.some.inj hl2
      subst ht6
      refine c_mid ?_
      exact ⟨hE.sub ⟨rfl, trivial⟩, hM⟩
  · skip
    rintro a w ⟨hE, hM⟩
    have hr := Option.some.inj hF3
    subst hr
    exact wp_ret (k_ret1 hE rfl (res_tmp hE rfl) ⟨_, rfl, rfl, hM.kept⟩)
noncomputable def L0_impl_rest (p1 : Int) (p2 : Int) (s4 : Int × Int) : Option (Fl (Int × Int) Int) :=
  if (decide (s4.2 ≥ p2)) = true then (((nonneg s4.2).bind fun _ => (if ((andI (shrI s4.1 s4.2) 1) == 1) = true then ((nonneg (wr (s4.2 - p2))).bind fun _ => some (xorI s4.1 (shlI p1 (wr (s4.2 - p2))))) else (some s4.1) : Option (Int)).bind fun (j13 : Int) => some j13 : Option (Int)).bind fun (j9 : Int) => some (Fl.nx (j9, wr (s4.2 - 1)))) else (some (Fl.ex s4.1))
noncomputable def F_impl_rest (p0 : Int) (p1 : Int) (p2 : Int) : Option (Int) :=
  (iter (L0_impl_rest p1 p2) (p0, 15) : Option (Int)).bind fun (j1 : Int) => some j1
set_option maxRecDepth 20000 in
set_option maxHeartbeats 400000 in
theorem c_impl_rest (w0 : World) (p0 : Int) (p1 : Int) (p2 : Int) (r : Int) (hF : F_impl_rest p0 p1 p2 = some r) :
    Calls Try.prog 123 [(vI p0), (vI p1), (vI p2)].toArray w0 (fun en w' => ∃ v, en = .returned v ∧ (v = (vI r) ∧ Kept (Old w0) w0 w')) := by
  refine c_enter (n := 26) Try.func123 rfl rfl (Nat.le_of_ble_eq_true rfl) rfl ?_
  intro a hE
  have hM := M.start w0
  unfold F_impl_rest at hF
  refine c_region ?_
  refine s_assign hE goes_none (by decide) rfl ?_; intro a hE
  refine c_fin ?_
  refine wp_seq ?_
  refine c_region ?_
  refine s_assign hE goes_none (by decide) rfl ?_; intro a hE
  refine c_fin ?_
  obtain ⟨j1, hl2, hF3⟩ := bind_some hF
  refine c_cut (fun a w => Env 26 a [(0, (vI j1))] ∧ M (Old w0) w0 w []) ?_ ?_
  · skip
    refine wp_block ?_
    refine c_loop (fun (s4 : Int × Int) a w => Env 26 a [(0, (vI s4.1)), (1, (vI p1)), (2, (vI p2)), (7, (vI s4.2))] ∧ M (Old w0) w0 w []) hl2 ⟨hE.sub ⟨rfl, rfl, rfl, rfl, trivial⟩, hM⟩ ?_
    rintro s4 a w ⟨hE, hM⟩ o7 hs5 hx6
    unfold L0_impl_rest at hs5
    refine wp_seq ?_
    refine c_region ?_
    refine s_move hE goes_none (by decide) rfl ?_; intro a hE
    refine s_move hE goes_none (by decide) rfl ?_; intro a hE
    refine s_int hE goes_none (by decide) rfl rfl rfl ?_; intro a hE
    refine c_fin ?_
    refine c_cond hE rfl ?_ ?_
    · intro hb8
      have hs5 := ite_t hs5 hb8
      refine wp_skip ?_
      refine c_nx ?_
      obtain ⟨j9, hl10, hF11⟩ := bind_some hs5
      refine c_join (fun a w => Env 26 a [(0, (vI j9)), (1, (vI p1)), (2, (vI p2)), (7, (vI s4.2))] ∧ M (Old w0) w0 w []) ?_ ?_
      · skip
        refine wp_block ?_
        refine c_region ?_
        refine s_move hE goes_none (by decide) rfl ?_; intro a hE
        refine s_move hE goes_none (by decide) rfl ?_; intro a hE
        obtain ⟨_, e12, hl10⟩ := bind_some hl10
        have e12 := nonneg_some e12
        refine s_sh hE goes_none (by decide) rfl rfl (bI_shr _ _ e12) ?_; intro a hE
        refine s_int hE goes_none (by decide) rfl rfl rfl ?_; intro a hE
        refine s_int hE goes_none (by decide) rfl rfl rfl ?_; intro a hE
        refine c_fin ?_
        obtain ⟨j13, hl14, hF15⟩ := bind_some hl10
        refine c_cut (fun a w => Env 26 a [(0, (vI j13)), (1, (vI p1)), (2, (vI p2)), (7, (vI s4.2))] ∧ M (Old w0) w0 w []) ?_ ?_
        · skip
          refine c_cond hE rfl ?_ ?_
          · intro hb16
            have hl14 := ite_t hl14 hb16
            refine wp_region_lit ?_
            refine s_move hE goes_none (by decide) rfl ?_; intro a hE
            refine s_move hE goes_none (by decide) rfl ?_; intro a hE
            refine s_move hE goes_none (by decide) rfl ?_; intro a hE
            refine s_move hE goes_none (by decide) rfl ?_; intro a hE
            refine s_int hE goes_none (by decide) rfl rfl rfl ?_; intro a hE
            obtain ⟨_, e17, hl14⟩ := bind_some hl14
            have e17 := nonneg_some e17
            refine s_sh hE goes_none (by decide) rfl rfl (bI_shl _ _ e17) ?_; intro a hE
            refine s_int hE goes_none (by decide) rfl rfl rfl ?_; intro a hE
            refine s_assign hE goes_none (by decide) rfl ?_; intro a hE
            refine c_fin0 ?_
            have ht18 := Option.some.inj hl14
            subst ht18
            refine c_mid ?_
            exact ⟨hE.sub ⟨rfl, rfl, rfl, rfl, trivial⟩, hM⟩
          · intro hb16
            have hl14 := ite_f hl14 hb16
            refine wp_skip ?_
            have ht19 := Option.some.inj hl14
            subst ht19
            refine c_mid ?_
            exact ⟨hE.sub ⟨rfl, rfl, rfl, rfl, trivial⟩, hM⟩
        · skip
          rintro a w ⟨hE, hM⟩
          refine c_nb ?_
          have ht20 := Option.some.inj hF15
          subst ht20
          refine c_mid ?_
          exact ⟨hE.sub ⟨rfl, rfl, rfl, rfl, trivial⟩, hM⟩
      · skip
        rintro a w ⟨hE, hM⟩
        refine wp_region_lit ?_
        refine s_move hE goes_none (by decide) rfl ?_; intro a hE
        refine s_int hE goes_none (by decide) rfl rfl rfl ?_; intro a hE
        refine s_assign hE goes_none (by decide) rfl ?_; intro a hE
        refine c_fin0 ?_
        refine c_mid ?_
        exact ⟨_, (Option.some.inj hF11).symm, hE.sub ⟨rfl, rfl, rfl, rfl, trivial⟩, hM⟩
    · intro hb8
      have hs5 := ite_f hs5 hb8
      refine wp_exit (e_then (e_then (e_eq ?_)))
      have ht21 := hx6 _ (Option.some.inj hs5).symm
      subst ht21
      refine c_mid ?_
      exact ⟨hE.sub ⟨rfl, trivial⟩, hM⟩
  · skip
    rintro a w ⟨hE, hM⟩
    refine c_nx ?_
    refine c_region ?_
    refine s_move hE goes_none (by decide) rfl ?_; intro a hE
    refine s_assign hE goes_none (by decide) rfl ?_; intro a hE
    refine c_fin ?_
    have hr := Option.some.inj hF3
    subst hr
    exact wp_ret (k_ret1 hE rfl (res_tmp hE rfl) ⟨_, rfl, rfl, hM.kept⟩)
noncomputable def L1_impl_IsField (p0 : Int) (s8 : Int) (s18 : Int) : Option (Fl Int (Fl Unit Bool)) :=
  (nonneg s8).bind fun _ => if (decide (s18 < (shlI 2 s8))) = true then ((F_impl_rest p0 s18 s8).bind fun (r24 : Int) => if (r24 == 0) = true then (some (Fl.ex (Fl.ex false))) else (some (Fl.nx (wr (s18 + 1))))) else (some (Fl.ex (Fl.nx ())))
noncomputable def L0_impl_IsField (p0 : Int) (s8 : Int) : Option (Fl Int (Fl Unit Bool)) :=
  if (decide (s8 ≤ 4)) = true then ((nonneg s8).bind fun _ => (iter (L1_impl_IsField p0 s8) (shlI 1 s8) : Option (Fl Unit Bool)).bind fun (j14 : Fl Unit Bool) => j14.el (fun (s17 : Unit) => some (Fl.nx (wr (s8 + 1)))) (fun r => some (Fl.ex (Fl.ex r)))) else (some (Fl.ex (Fl.nx ())))
noncomputable def F_impl_IsField (p0 : Int) : Option (Bool) :=
  (F_impl_inRange p0 256 511).bind fun (r1 : Bool) => if (!r1) = true then (some false) else ((iter (L0_impl_IsField p0) 1 : Option (Fl Unit Bool)).bind fun (j4 : Fl Unit Bool) => j4.el (fun (s7 : Unit) => some true) (fun r => some r))
set_option maxRecDepth 20000 in
set_option maxHeartbeats 400000 in
theorem c_impl_IsField (w0 : World) (p0 : Int) (r : Bool) (hF : F_impl_IsField p0 = some r) :
    Calls Try.prog 68 [(vI p0)].toArray w0 (fun en w' => ∃ v, en = .returned v ∧ (v = (vT r) ∧ Kept (Old w0) w0 w')) := by
  refine c_enter (n := 25) Try.func68 rfl rfl (Nat.le_of_ble_eq_true rfl) rfl ?_
  intro a hE
  have hM := M.start w0
  unfold F_impl_IsField at hF
  refine c_region ?_
  refine s_assign hE goes_none (by decide) rfl ?_; intro a hE
  refine c_fin ?_
  refine wp_seq ?_
  refine c_region ?_
  refine s_move hE goes_none (by decide) rfl ?_; intro a hE
  obtain ⟨r1, e2, hF⟩ := bind_some hF
  refine s_call (vs := [(vI p0), (vI 256), (vI 511)]) hE goes_none (by decide) rfl cb56 (c_impl_inRange _ p0 256 511 r1 e2) ?_
  rintro v w a ⟨rfl, hK⟩ hE
  have hM := hM.keep hK
  refine s_not hE goes_none (by decide) rfl ?_; intro a hE
  refine c_fin ?_
  refine c_cond hE rfl ?_ ?_
  · intro hb3
    have hF := ite_t hF hb3
    refine c_region ?_
    refine s_assign hE goes_none (by decide) rfl ?_; intro a hE
    refine c_fin ?_
    have hr := Option.some.inj hF
    subst hr
    exact wp_ret (r_then (k_ret1 hE rfl (res_tmp hE rfl) ⟨_, rfl, rfl, hM.kept⟩))
  · intro hb3
    have hF := ite_f hF hb3
    refine wp_skip ?_
    refine c_nx ?_
    refine wp_seq ?_
    refine c_region ?_
    refine s_assign hE goes_none (by decide) rfl ?_; intro a hE
    refine c_fin ?_
    obtain ⟨j4, hl5, hF6⟩ := bind_some hF
    refine c_cut (fun a w => ∃ s7 : Unit, j4 = Fl.nx s7 ∧ Env 25 a [] ∧ M (Old w0) w0 w []) ?_ ?_
    · skip
      refine wp_block ?_
      refine c_loop (fun (s8 : Int) a w => Env 25 a [(0, (vI p0)), (3, (vI s8))] ∧ M (Old w0) w0 w []) hl5 ⟨hE.sub ⟨rfl, rfl, trivial⟩, hM⟩ ?_
      rintro s8 a w ⟨hE, hM⟩ o11 hs9 hx10
      unfold L0_impl_IsField at hs9
      refine wp_seq ?_
      refine c_region ?_
      refine s_move hE goes_none (by decide) rfl ?_; intro a hE
      refine s_int hE goes_none (by decide) rfl rfl rfl ?_; intro a hE
      refine c_fin ?_
      refine c_cond hE rfl ?_ ?_
      · intro hb12
        have hs9 := ite_t hs9 hb12
        refine wp_skip ?_
        refine c_nx ?_
        refine wp_seq ?_
        refine wp_block ?_
        refine c_region ?_
        refine s_move hE goes_none (by decide) rfl ?_; intro a hE
        obtain ⟨_, e13, hs9⟩ := bind_some hs9
        have e13 := nonneg_some e13
        refine s_sh hE goes_none (by decide) rfl rfl (bI_shl _ _ e13) ?_; intro a hE
        refine s_assign hE goes_none (by decide) rfl ?_; intro a hE
        refine c_fin ?_
        obtain ⟨j14, hl15, hF16⟩ := bind_some hs9
        refine c_cut (fun a w => ∃ s17 : Unit, j14 = Fl.nx s17 ∧ Env 25 a [(0, (vI p0)), (3, (vI s8))] ∧ M (Old w0) w0 w []) ?_ ?_
        · skip
          refine wp_block ?_
          refine c_loop (fun (s18 : Int) a w => Env 25 a [(0, (vI p0)), (3, (vI s8)), (4, (vI s18))] ∧ M (Old w0) w0 w []) hl15 ⟨hE.sub ⟨rfl, rfl, rfl, trivial⟩, hM⟩ ?_
          rintro s18 a w ⟨hE, hM⟩ o21 hs19 hx20
          unfold L1_impl_IsField at hs19
          refine wp_seq ?_
          refine c_region ?_
          refine s_move hE goes_none (by decide) rfl ?_; intro a hE
          refine s_move hE goes_none (by decide) rfl ?_; intro a hE
          obtain ⟨_, e22, hs19⟩ := bind_some hs19
          have e22 := nonneg_some e22
          refine s_sh hE goes_none (by decide) rfl rfl (bI_shl _ _ e22) ?_; intro a hE
          refine s_int hE goes_none (by decide) rfl rfl rfl ?_; intro a hE
          refine c_fin ?_
          refine c_cond hE rfl ?_ ?_
          · intro hb23
            have hs19 := ite_t hs19 hb23
            refine wp_skip ?_
            refine c_nx ?_
            refine wp_seq ?_
            refine wp_block ?_
            refine c_region ?_
            refine s_move hE goes_none (by decide) rfl ?_; intro a hE
            refine s_move hE goes_none (by decide) rfl ?_; intro a hE
            refine s_move hE goes_none (by decide) rfl ?_; intro a hE
            obtain ⟨r24, e25, hs19⟩ := bind_some hs19
            refine s_call (vs := [(vI p0), (vI s18), (vI s8)]) hE goes_none (by decide) rfl cb123 (c_impl_rest _ p0 s18 s8 r24 e25) ?_
            rintro v w a ⟨rfl, hK⟩ hE
            have hM := hM.keep hK
            refine s_int hE goes_none (by decide) rfl rfl rfl ?_; intro a hE
            refine c_fin ?_
            refine c_cond hE rfl ?_ ?_
            · intro hb26
              have hs19 := ite_t hs19 hb26
              refine c_region ?_
              refine s_assign hE goes_none (by decide) rfl ?_; intro a hE
              refine c_fin ?_
              have ht27 := hx20 _ (Option.some.inj hs19).symm
              subst ht27
              have ht28 := hx10 _ (Option.some.inj hF16).symm
              subst ht28
              have hr := Option.some.inj hF6
              subst hr
              exact wp_ret (r_inb (r_then (r_then (r_inb (r_then (r_inb (r_then (r_then (r_inb (r_then (r_then (k_ret1 hE rfl (res_tmp hE rfl) ⟨_, rfl, rfl, hM.kept⟩))))))))))))
            · intro hb26
              have hs19 := ite_f hs19 hb26
              refine wp_skip ?_
              refine c_nb ?_
              refine c_nx ?_
              refine wp_region_lit ?_
              refine s_move hE goes_none (by decide) rfl ?_; intro a hE
              refine s_int hE goes_none (by decide) rfl rfl rfl ?_; intro a hE
              refine s_assign hE goes_none (by decide) rfl ?_; intro a hE
              refine c_fin0 ?_
              refine c_mid ?_
              exact ⟨_, (Option.some.inj hs19).symm, hE.sub ⟨rfl, rfl, rfl, trivial⟩, hM⟩
          · intro hb23
            have hs19 := ite_f hs19 hb23
            refine wp_exit (e_then (e_then (e_eq ?_)))
            have ht29 := hx20 _ (Option.some.inj hs19).symm
            subst ht29
            refine c_mid ?_
            exact ⟨(), rfl, hE.sub ⟨rfl, rfl, trivial⟩, hM⟩
        · skip
          rintro a w ⟨s17, ht, hE, hM⟩
          subst ht
          refine c_nb ?_
          refine c_nx ?_
          refine wp_region_lit ?_
          refine s_move hE goes_none (by decide) rfl ?_; intro a hE
          refine s_int hE goes_none (by decide) rfl rfl rfl ?_; intro a hE
          refine s_assign hE goes_none (by decide) rfl ?_; intro a hE
          refine c_fin0 ?_
          refine c_mid ?_
          exact ⟨_, (Option.some.inj hF16).symm, hE.sub ⟨rfl, rfl, trivial⟩, hM⟩
      · intro hb12
        have hs9 := ite_f hs9 hb12
        refine wp_exit (e_then (e_then (e_eq ?_)))
        have ht30 := hx10 _ (Option.some.inj hs9).symm
        subst ht30
        refine c_mid ?_
        exact ⟨(), rfl, hE.sub trivial, hM⟩
    · skip
      rintro a w ⟨s7, ht, hE, hM⟩
      subst ht
      refine c_nx ?_
      refine c_region ?_
      refine s_assign hE goes_none (by decide) rfl ?_; intro a hE
      refine c_fin ?_
      have hr := Option.some.inj hF6
      subst hr
      exact wp_ret (k_ret1 hE rfl (res_tmp hE rfl) ⟨_, rfl, rfl, hM.kept⟩)
noncomputable def L0_slices_IndexFunc_impl_Share_impl_Share (p0 : (List GShare)) (p1 : GShare → Option (Bool)) (s5 : Int) : Option (Fl Int (Fl Unit Int)) :=
  if (decide (s5 < (p0.length : Int))) = true then ((idx p0 s5).bind fun (x10 : GShare) => ((p1 x10)).bind fun (r18 : Bool) => if r18 = true then (some (Fl.ex (Fl.ex s5))) else (some (Fl.nx (wr (s5 + 1))))) else (some (Fl.ex (Fl.nx ())))
noncomputable def F_slices_IndexFunc_impl_Share_impl_Share (p0 : (List GShare)) (p1 : GShare → Option (Bool)) : Option (Int) :=
  (iter (L0_slices_IndexFunc_impl_Share_impl_Share p0 p1) 0 : Option (Fl Unit Int)).bind fun (j1 : Fl Unit Int) => j1.el (fun (s4 : Unit) => some (-1)) (fun r => some r)
set_option maxRecDepth 20000 in
set_option maxHeartbeats 400000 in
theorem c_slices_IndexFunc_impl_Share_impl_Share (w0 : World) (p0 : (List GShare)) (v0_1 : Value) (hv0_1 : Ro w0 p0 [v0_1]) (p1 : GShare → Option (Bool)) (k1 : Nat) (q1 : List Value) (hcb1 : Callable Try.prog k1) (hg1 : ∀ (w2 : World), Kept (Old w0) w0 w2 → ∀ (z0 : GShare) (zu1 : Value) (_ : Ro w2 z0.Data [zu1]) (zr : Bool), p1 z0 = some zr → Calls Try.prog k1 ([(Value.agg (cat [[(vB z0.Place)], [zu1]]).toArray)] ++ q1).toArray w2 (fun en w3 => ∃ v, en = .returned v ∧ (v = (vT zr) ∧ Kept (Old w2) w2 w3))) (r : Int) (hF : F_slices_IndexFunc_impl_Share_impl_Share p0 p1 = some r) :
    Calls Try.prog 115 [v0_1, (Value.func (.func k1) #[] q1.toArray)].toArray w0 (fun en w' => ∃ v, en = .returned v ∧ (v = (vI r) ∧ Kept (Old w0) w0 w')) := by
  refine c_enter (n := 19) Try.func115 rfl rfl (Nat.le_of_ble_eq_true rfl) rfl ?_
  intro a hE
  have hM := M.start w0
  unfold F_slices_IndexFunc_impl_Share_impl_Share at hF
  refine c_region ?_
  refine s_assign hE goes_none (by decide) rfl ?_; intro a hE
  refine c_fin ?_
  refine wp_seq ?_
  refine c_region ?_
  refine s_move hE goes_none (by decide) rfl ?_; intro a hE
  refine s_len hE goes_none (by decide) rfl Try.underlying25 (hM.rd hv0_1) ?_; intro a hE
  refine s_move hE goes_none (by decide) rfl ?_; intro a hE
  refine c_fin ?_
  obtain ⟨j1, hl2, hF3⟩ := bind_some hF
  refine c_cut (fun a w => ∃ s4 : Unit, j1 = Fl.nx s4 ∧ Env 19 a [] ∧ M (Old w0) w0 w []) ?_ ?_
  · skip
    refine wp_block ?_
    refine c_loop (fun (s5 : Int) a w => Env 19 a [(0, v0_1), (1, (Value.func (.func k1) #[] q1.toArray)), (7, (vI (p0.length : Int))), (8, (vI s5))] ∧ M (Old w0) w0 w []) hl2 ⟨hE.sub ⟨rfl, rfl, rfl, rfl, trivial⟩, hM⟩ ?_
    rintro s5 a w ⟨hE, hM⟩ o8 hs6 hx7
    unfold L0_slices_IndexFunc_impl_Share_impl_Share at hs6
    refine c_region ?_
    refine s_int hE goes_none (by decide) rfl rfl rfl ?_; intro a hE
    refine c_fin ?_
    refine wp_seq ?_
    refine c_cond hE rfl ?_ ?_
    · intro hb9
      have hs6 := ite_t hs6 hb9
      refine wp_skip ?_
      refine c_nx ?_
      refine wp_seq ?_
      refine wp_block ?_
      refine c_region ?_
      refine s_move hE goes_none (by decide) rfl ?_; intro a hE
      refine s_assign hE goes_none (by decide) rfl ?_; intro a hE
      refine c_fin ?_
      refine c_region ?_
      refine s_move hE goes_none (by decide) rfl ?_; intro a hE
      refine s_move hE goes_none (by decide) rfl ?_; intro a hE
      refine s_move hE goes_none (by decide) rfl ?_; intro a hE
      obtain ⟨x10, e11, hs6⟩ := bind_some hs6
      have hi12 := idx_some e11
      refine s_indexS hE goes_none (by decide) rfl rfl Try.underlying25 ty81 (hM.rd hv0_1) hi12.1 ?_; intro a hE
      obtain ⟨cs13, hs14, hA15⟩ := sl_atRo hv0_1 hi12.2 -- ^
      obtain ⟨u16, rfl, h17⟩ := un_GShare hs14 -- ^
      refine s_loadA (cs := cat [[(vB x10.Place)], [u16]]) hE goes_none (by decide) rfl ty81 rfl (hM.atk hA15 (sl_blk hv0_1 hi12.2)) (cat_len (cl1 (n := 1) (m := 1) rfl (cl1 (n := 1) (m := 0) rfl cl0))) ?_; intro a hE
      obtain ⟨r18, e19, hs6⟩ := bind_some hs6
      refine s_callv2 (vs := [(Value.agg (cat [[(vB x10.Place)], [u16]]).toArray)]) hE goes_none (by decide) rfl rfl hcb1 (hg1 _ hM.kept x10 u16 (hM.rdo h17) r18 e19) ?_
      rintro v w a ⟨rfl, hK⟩ hE
      have hM := hM.keep hK
      refine c_fin ?_
      refine c_cond hE rfl ?_ ?_
      · intro hb20
        have hs6 := ite_t hs6 hb20
        refine c_region ?_
        refine s_move hE goes_none (by decide) rfl ?_; intro a hE
        refine s_assign hE goes_none (by decide) rfl ?_; intro a hE
        refine c_fin ?_
        have ht21 := hx7 _ (Option.some.inj hs6).symm
        subst ht21
        have hr := Option.some.inj hF3
        subst hr
        exact wp_ret (r_inb (r_then (r_then (r_inb (r_then (r_then (k_ret1 hE rfl (res_tmp hE rfl) ⟨_, rfl, rfl, hM.kept⟩)))))))
      · intro hb20
        have hs6 := ite_f hs6 hb20
        refine wp_skip ?_
        refine c_nb ?_
        refine c_nx ?_
        refine wp_region_lit ?_
        refine s_int hE goes_none (by decide) rfl rfl rfl ?_; intro a hE
        refine s_move hE goes_none (by decide) rfl ?_; intro a hE
        refine c_fin0 ?_
        refine c_mid ?_
        exact ⟨_, (Option.some.inj hs6).symm, hE.sub ⟨rfl, rfl, rfl, rfl, trivial⟩, hM⟩
    · intro hb9
      have hs6 := ite_f hs6 hb9
      refine wp_exit (e_then (e_then (e_eq ?_)))
      have ht22 := hx7 _ (Option.some.inj hs6).symm
      subst ht22
      refine c_mid ?_
      exact ⟨(), rfl, hE.sub trivial, hM⟩
  · skip
    rintro a w ⟨s4, ht, hE, hM⟩
    subst ht
    refine c_nx ?_
    refine c_region ?_
    refine s_assign hE goes_none (by decide) rfl ?_; intro a hE
    refine c_fin ?_
    have hr := Option.some.inj hF3
    subst hr
    exact wp_ret (k_ret1 hE rfl (res_tmp hE rfl) ⟨_, rfl, rfl, hM.kept⟩)
noncomputable def F_slices_ContainsFunc_impl_Share_impl_Share (p0 : (List GShare)) (p1 : GShare → Option (Bool)) : Option (Bool) :=
  (F_slices_IndexFunc_impl_Share_impl_Share p0 p1).bind fun (r1 : Int) => some (decide (r1 ≥ 0))
set_option maxRecDepth 20000 in
set_option maxHeartbeats 400000 in
theorem c_slices_ContainsFunc_impl_Share_impl_Share (w0 : World) (p0 : (List GShare)) (v0_1 : Value) (hv0_1 : Ro w0 p0 [v0_1]) (p1 : GShare → Option (Bool)) (k1 : Nat) (q1 : List Value) (hcb1 : Callable Try.prog k1) (hg1 : ∀ (w2 : World), Kept (Old w0) w0 w2 → ∀ (z0 : GShare) (zu1 : Value) (_ : Ro w2 z0.Data [zu1]) (zr : Bool), p1 z0 = some zr → Calls Try.prog k1 ([(Value.agg (cat [[(vB z0.Place)], [zu1]]).toArray)] ++ q1).toArray w2 (fun en w3 => ∃ v, en = .returned v ∧ (v = (vT zr) ∧ Kept (Old w2) w2 w3))) (r : Bool) (hF : F_slices_ContainsFunc_impl_Share_impl_Share p0 p1 = some r) :
    Calls Try.prog 58 [v0_1, (Value.func (.func k1) #[] q1.toArray)].toArray w0 (fun en w' => ∃ v, en = .returned v ∧ (v = (vT r) ∧ Kept (Old w0) w0 w')) := by
  refine c_enter (n := 9) Try.func58 rfl rfl (Nat.le_of_ble_eq_true rfl) rfl ?_
  intro a hE
  have hM := M.start w0
  unfold F_slices_ContainsFunc_impl_Share_impl_Share at hF
  refine c_region ?_
  refine s_assign hE goes_none (by decide) rfl ?_; intro a hE
  refine c_fin ?_
  refine c_region ?_
  refine s_move hE goes_none (by decide) rfl ?_; intro a hE
  refine s_move hE goes_none (by decide) rfl ?_; intro a hE
  obtain ⟨r1, e2, hF⟩ := bind_some hF
  refine s_call (vs := [v0_1, (Value.func (.func k1) #[] q1.toArray)]) hE goes_none (by decide) rfl cb115 (c_slices_IndexFunc_impl_Share_impl_Share _ p0 v0_1 (hM.rdo hv0_1) p1 k1 q1 hcb1 (fun w2 hk2 => hg1 w2 (hM.kept.trans hk2)) r1 e2) ?_
  rintro v w a ⟨rfl, hK⟩ hE
  have hM := hM.keep hK
  refine s_int hE goes_none (by decide) rfl rfl rfl ?_; intro a hE
  refine s_assign hE goes_none (by decide) rfl ?_; intro a hE
  refine c_fin ?_
  have hr := Option.some.inj hF
  subst hr
  exact wp_ret (k_ret1 hE rfl (res_tmp hE rfl) ⟨_, rfl, rfl, hM.kept⟩)
noncomputable def F_impl_isShare (p0 : GShare) : Option (Bool) :=
  (if (p0.Place != 0) = true then (some (decide ((p0.Data.length : Int) ≤ 100))) else (some false) : Option (Bool)).bind fun (j3 : Bool) => some j3
set_option maxRecDepth 20000 in
set_option maxHeartbeats 400000 in
theorem c_impl_isShare (w0 : World) (p0 : GShare) (v0_1 : Value) (hv0_1 : Ro w0 p0.Data [v0_1]) (r : Bool) (hF : F_impl_isShare p0 = some r) :
    Calls Try.prog 60 [(Value.agg (cat [[(vB p0.Place)], [v0_1]]).toArray)].toArray w0 (fun en w' => ∃ v, en = .returned v ∧ (v = (vT r) ∧ Kept (Old w0) w0 w')) := by
  refine c_enter (n := 12) Try.func60 rfl rfl (Nat.le_of_ble_eq_true rfl) rfl ?_
  intro a hE
  have hM := M.start w0
  unfold F_impl_isShare at hF
  refine c_region ?_
  refine s_box (cs := cat [[(vB p0.Place)], [v0_1]]) hE hM goes_none (by decide) rfl rfl ?_; intro b1 w a hM hE
  refine s_assign hE goes_none (by decide) rfl ?_; intro a hE
  refine c_fin ?_
  obtain ⟨j3, hl4, hF5⟩ := bind_some hF
  refine c_join (fun a w => Env 12 a [(2, (vT j3))] ∧ M (Old w0) w0 w []) ?_ ?_
  · skip
    refine wp_region_lit ?_
    refine s_fieldAddr hE goes_none (by decide) rfl (fd81_0) ?_; intro a hE
    refine s_load (v := (vB p0.Place)) hE goes_none (by decide) rfl ty5 rfl (At.cat (pre := []) (seg := [(vB p0.Place)]) (post := [[v0_1]]) (hM.rawAt (pre := [])) cl0) ?_; intro a hE
    refine s_int hE goes_none (by decide) rfl rfl (bB_neq p0.Place 0) ?_; intro a hE
    refine s_move hE goes_none (by decide) rfl ?_; intro a hE
    refine splitB (p0.Place != 0) (fun hb6 => ?_) (fun hb6 => ?_)
    · have hl4 := ite_t hl4 hb6
      refine s_fieldAddr hE (goes_yes hE rfl (lkb rfl hb6)) (by decide) rfl (fd81_1) ?_; intro a hE
      refine s_load (v := v0_1) hE (goes_yes hE rfl (lkb rfl hb6)) (by decide) rfl ty29 rfl (At.cat (pre := [[(vB p0.Place)]]) (seg := [v0_1]) (post := []) (hM.rawAt (pre := [])) (cl1 (n := 1) (m := 0) rfl cl0)) ?_; intro a hE
      refine s_len hE (goes_yes hE rfl (lkb rfl hb6)) (by decide) rfl Try.underlying29 (hM.rd hv0_1) ?_; intro a hE
      refine s_int hE (goes_yes hE rfl (lkb rfl hb6)) (by decide) rfl rfl rfl ?_; intro a hE
      refine s_pickT hE goes_none (by decide) (lkb rfl hb6) rfl ?_; intro a hE
      refine s_assign hE goes_none (by decide) rfl ?_; intro a hE
      refine c_fin0 ?_
      have ht7 := Option.some.inj hl4
      subst ht7
      refine c_mid ?_
      have hM := M.fst (l := []) hM
      exact ⟨hE.sub ⟨rfl, trivial⟩, hM⟩
    · have hl4 := ite_f hl4 hb6
      refine s_skip hE rfl (lkb rfl hb6) rfl (by decide) ?_; intro a hE
      refine s_skip hE rfl (lkb rfl hb6) rfl (by decide) ?_; intro a hE
      refine s_skip hE rfl (lkb rfl hb6) rfl (by decide) ?_; intro a hE
      refine s_skip hE rfl (lkb rfl hb6) rfl (by decide) ?_; intro a hE
      refine s_pickF hE goes_none (by decide) (lkb rfl hb6) rfl ?_; intro a hE
      refine s_assign hE goes_none (by decide) rfl ?_; intro a hE
      refine c_fin0 ?_
      have ht8 := Option.some.inj hl4
      subst ht8
      refine c_mid ?_
      have hM := M.fst (l := []) hM
      exact ⟨hE.sub ⟨rfl, trivial⟩, hM⟩
  · skip
    rintro a w ⟨hE, hM⟩
    have hr := Option.some.inj hF5
    subst hr
    exact wp_ret (k_ret1 hE rfl (res_tmp hE rfl) ⟨_, rfl, rfl, hM.kept⟩)
noncomputable def F_impl_checkShares_1 (p0 : GShare) : Option (Bool) :=
  (F_impl_isShare p0).bind fun (r3 : Bool) => some (!r3)
set_option maxRecDepth 20000 in
set_option maxHeartbeats 400000 in
theorem c_impl_checkShares_1 (w0 : World) (p0 : GShare) (v0_1 : Value) (hv0_1 : Ro w0 p0.Data [v0_1]) (r : Bool) (hF : F_impl_checkShares_1 p0 = some r) :
    Calls Try.prog 139 [(Value.agg (cat [[(vB p0.Place)], [v0_1]]).toArray)].toArray w0 (fun en w' => ∃ v, en = .returned v ∧ (v = (vT r) ∧ Kept (Old w0) w0 w')) := by
  refine c_enter (n := 6) Try.func139 rfl rfl (Nat.le_of_ble_eq_true rfl) rfl ?_
  intro a hE
  have hM := M.start w0
  unfold F_impl_checkShares_1 at hF
  refine c_region ?_
  refine s_box (cs := cat [[(vB p0.Place)], [v0_1]]) hE hM goes_none (by decide) rfl rfl ?_; intro b1 w a hM hE
  refine s_assign hE goes_none (by decide) rfl ?_; intro a hE
  refine c_fin ?_
  refine c_region ?_
  refine s_loadA (cs := cat [[(vB p0.Place)], [v0_1]]) hE goes_none (by decide) rfl ty81 rfl (hM.rawAt (pre := [])) (cat_len (cl1 (n := 1) (m := 1) rfl (cl1 (n := 1) (m := 0) rfl cl0))) ?_; intro a hE
  obtain ⟨r3, e4, hF⟩ := bind_some hF
  refine s_call (vs := [(Value.agg (cat [[(vB p0.Place)], [v0_1]]).toArray)]) hE goes_none (by decide) rfl cb60 (c_impl_isShare _ p0 v0_1 (hM.rdo hv0_1) r3 e4) ?_
  rintro v w a ⟨rfl, hK⟩ hE
  have hM := hM.keep hK
  refine s_not hE goes_none (by decide) rfl ?_; intro a hE
  refine s_assign hE goes_none (by decide) rfl ?_; intro a hE
  refine c_fin ?_
  have hr := Option.some.inj hF
  subst hr
  have hM := M.fst (l := []) hM
  exact wp_ret (k_ret1 hE rfl (res_tmp hE rfl) ⟨_, rfl, rfl, hM.kept⟩)
noncomputable def L0_impl_placesOf (p0 : (List GShare)) (s8 : (List UInt8) × Int) : Option (Fl ((List UInt8) × Int) (List UInt8)) :=
  if (decide (s8.2 < (p0.length : Int))) = true then ((idx p0 s8.2).bind fun (x15 : GShare) => (app 1 s8.1 ([x15.Place] : List UInt8)).bind fun (l27 : (List UInt8)) => some (Fl.nx ((s8.1 ++ ([x15.Place] : List UInt8)), wr (s8.2 + 1)))) else (some (Fl.ex s8.1))
noncomputable def F_impl_placesOf (p0 : (List GShare)) : Option ((List UInt8)) :=
  (iter (L0_impl_placesOf p0) (([] : List UInt8), 0) : Option ((List UInt8))).bind fun (j3 : (List UInt8)) => some j3
set_option maxRecDepth 20000 in
set_option maxHeartbeats 400000 in
theorem c_impl_placesOf (w0 : World) (p0 : (List GShare)) (v0_1 : Value) (hv0_1 : Ro w0 p0 [v0_1]) (r : (List UInt8)) (hF : F_impl_placesOf p0 = some r) :
    Calls Try.prog 62 [v0_1].toArray w0 (fun en w' => ∃ v, en = .returned v ∧ (∃ (y1 : Value), v = y1 ∧ Fr w0 w' [osl NoB (r : List UInt8) y1] ∧ Kept (Old w0) w0 w')) := by
  refine c_enter (n := 20) Try.func62 rfl rfl (Nat.le_of_ble_eq_true rfl) rfl ?_
  intro a hE
  have hM := M.start w0
  unfold F_impl_placesOf at hF
  refine c_region ?_
  refine s_assign hE goes_none (by decide) rfl ?_; intro a hE
  refine c_fin ?_
  refine c_region ?_
  refine s_buildF (xs := []) (l := ([] : List UInt8)) (vs := []) hE hM goes_none (by decide) rfl rfl Try.underlying29 ty5 rfl (by decide) rfl ?_; intro u1 w a hM hE
  refine s_assign hE goes_none (by decide) rfl ?_; intro a hE
  refine c_fin ?_
  refine wp_seq ?_
  refine c_region ?_
  refine s_move hE goes_none (by decide) rfl ?_; intro a hE
  refine s_len hE goes_none (by decide) rfl Try.underlying25 (hM.rd hv0_1) ?_; intro a hE
  refine s_move hE goes_none (by decide) rfl ?_; intro a hE
  refine c_fin ?_
  obtain ⟨j3, hl4, hF5⟩ := bind_some hF
  refine c_cut (fun a w => ∃ (u6 : Value), Env 20 a [(3, u6)] ∧ M (Old w0) w0 w [osl NoB (j3 : List UInt8) u6]) ?_ ?_
  · skip
    refine wp_block ?_
    refine c_loop (fun (s8 : (List UInt8) × Int) a w => ∃ (u9 : Value), Env 20 a [(3, u9), (7, v0_1), (8, (vI (p0.length : Int))), (9, (vI s8.2))] ∧ M (Old w0) w0 w [osl NoB (s8.1 : List UInt8) u9]) hl4 ⟨u1, hE.sub ⟨rfl, rfl, rfl, rfl, trivial⟩, hM⟩ ?_
    rintro s8 a w ⟨u9, hE, hM⟩ o13 hs11 hx12
    unfold L0_impl_placesOf at hs11
    refine c_region ?_
    refine s_int hE goes_none (by decide) rfl rfl rfl ?_; intro a hE
    refine c_fin ?_
    refine wp_seq ?_
    refine c_cond hE rfl ?_ ?_
    · intro hb14
      have hs11 := ite_t hs11 hb14
      refine wp_skip ?_
      refine c_nx ?_
      refine wp_seq ?_
      refine wp_block ?_
      refine c_region ?_
      obtain ⟨x15, e16, hs11⟩ := bind_some hs11
      have hi17 := idx_some e16
      refine s_indexS hE goes_none (by decide) rfl rfl Try.underlying25 ty81 (hM.rd hv0_1) hi17.1 ?_; intro a hE
      obtain ⟨cs18, hs19, hA20⟩ := sl_atRo hv0_1 hi17.2 -- ^
      obtain ⟨u21, rfl, h22⟩ := un_GShare hs19 -- ^
      refine s_loadA (cs := cat [[(vB x15.Place)], [u21]]) hE goes_none (by decide) rfl ty81 rfl (hM.atk hA20 (sl_blk hv0_1 hi17.2)) (cat_len (cl1 (n := 1) (m := 1) rfl (cl1 (n := 1) (m := 0) rfl cl0))) ?_; intro a hE
      refine s_alloc hE hM goes_none (by decide) ty81 ?_; intro b23 w a hM hE
      refine s_store (seg := cat [[(vB x15.Place)], [u21]]) (cs' := cat [[(vB x15.Place)], [u21]]) hE hM goes_none rfl rfl rfl ty81 (cat_len (cl1 (n := 1) (m := 1) rfl (cl1 (n := 1) (m := 0) rfl cl0))) (Nat.le_of_eq ((Nat.zero_add _).trans (Eq.trans (cat_len (cl1 (n := 1) (m := 1) rfl (cl1 (n := 1) (m := 0) rfl cl0))) (Eq.symm (cat_len (cl1 (n := 1) (m := 1) rfl (cl1 (n := 1) (m := 0) rfl cl0))))))) (cat_cell (cc1 (Flat.cell (x15.Place : UInt8)) (cc1 (Rep.cell (hM.rd h22)) cc0))) (splice_all (Eq.trans (cat_len (cl1 (n := 1) (m := 1) rfl (cl1 (n := 1) (m := 0) rfl cl0))) (Eq.symm (cat_len (cl1 (n := 1) (m := 1) rfl (cl1 (n := 1) (m := 0) rfl cl0)))))) ?_; intro w a hM hE
      refine c_fin ?_
      refine wp_region_lit ?_
      refine s_move hE goes_none (by decide) rfl ?_; intro a hE
      refine s_fieldAddr hE goes_none (by decide) rfl (fd81_0) ?_; intro a hE
      refine s_load (v := (vB x15.Place)) hE goes_none (by decide) rfl ty5 rfl (At.cat (pre := []) (seg := [(vB x15.Place)]) (post := [[u21]]) (hM.rawAt (pre := [])) cl0) ?_; intro a hE
      refine s_buildF (xs := [.tmp 15]) (l := ([x15.Place] : List UInt8)) (vs := [(vB x15.Place)]) hE hM goes_none (by decide) rfl rfl Try.underlying29 ty5 rfl (by decide) rfl ?_; intro u25 w a hM hE
      obtain ⟨l27, e28, hs11⟩ := bind_some hs11
      obtain ⟨e31, rfl⟩ := app_some e28
      have hM := hM.pull (pre := [_, _])
      refine s_appendF hE hM goes_none (by decide) rfl rfl (hM.sl (pre := [_]) noB) Try.underlying29 ty5 rfl (by decide) e31 ?_; intro u29 w a hM hE
      refine s_assign hE goes_none (by decide) rfl ?_; intro a hE
      refine c_fin0 ?_
      refine c_nb ?_
      refine c_nx ?_
      refine wp_region_lit ?_
      refine s_int hE goes_none (by decide) rfl rfl rfl ?_; intro a hE
      refine s_move hE goes_none (by decide) rfl ?_; intro a hE
      refine c_fin0 ?_
      refine c_mid ?_
      have hM := M.fst (l := [_]) hM
      exact ⟨_, (Option.some.inj hs11).symm, u29, hE.sub ⟨rfl, rfl, rfl, rfl, trivial⟩, hM⟩
    · intro hb14
      have hs11 := ite_f hs11 hb14
      refine wp_exit (e_then (e_then (e_eq ?_)))
      have ht32 := hx12 _ (Option.some.inj hs11).symm
      subst ht32
      refine c_mid ?_
      exact ⟨u9, hE.sub ⟨rfl, trivial⟩, hM⟩
  · skip
    rintro a w ⟨u6, hE, hM⟩
    refine c_nx ?_
    refine c_region ?_
    refine s_move hE goes_none (by decide) rfl ?_; intro a hE
    refine s_assign hE goes_none (by decide) rfl ?_; intro a hE
    refine c_fin ?_
    have hr := Option.some.inj hF5
    subst hr
    exact wp_ret (k_ret1 hE rfl (res_tmp hE rfl) ⟨_, rfl, u6, rfl, hM.outF (locN1 locN0), hM.kept⟩)
noncomputable def F_bytes_IndexByte (p0 : (List UInt8)) (p1 : UInt8) : Option (Int) :=
  some (indexByte p0 p1)
set_option maxRecDepth 20000 in
set_option maxHeartbeats 400000 in
theorem c_bytes_IndexByte (w0 : World) (p0 : (List UInt8)) (v0_1 : Value) (hv0_1 : Ro w0 p0 [v0_1]) (p1 : UInt8) (r : Int) (hF : F_bytes_IndexByte p0 p1 = some r) :
    Calls Try.prog 116 [v0_1, (vB p1)].toArray w0 (fun en w' => ∃ v, en = .returned v ∧ (v = (vI r) ∧ Kept (Old w0) w0 w')) := by
  refine c_enter (n := 8) Try.func116 rfl rfl (Nat.le_of_ble_eq_true rfl) rfl ?_
  intro a hE
  have hM := M.start w0
  unfold F_bytes_IndexByte at hF
  refine c_region ?_
  refine s_assign hE goes_none (by decide) rfl ?_; intro a hE
  refine c_fin ?_
  refine c_region ?_
  refine s_move hE goes_none (by decide) rfl ?_; intro a hE
  refine s_move hE goes_none (by decide) rfl ?_; intro a hE
  refine s_indexByte hE goes_none (by decide) rfl Try.func144 rfl (by decide) (by kernel_rfl) (by kernel_rfl) (hM.rd hv0_1) ?_; intro a hE
  refine s_assign hE goes_none (by decide) rfl ?_; intro a hE
  refine c_fin ?_
  have hr := Option.some.inj hF
  subst hr
  exact wp_ret (k_ret1 hE rfl (res_tmp hE rfl) ⟨_, rfl, rfl, hM.kept⟩)
noncomputable def L0_impl_areDifferent (p0 : (List UInt8)) (s5 : Int) : Option (Fl Int (Fl Unit Bool)) :=
  if (decide (s5 < (p0.length : Int))) = true then ((idx p0 s5).bind fun (x10 : UInt8) => (slc p0 (0 : Int) s5).bind fun (l13 : (List UInt8)) => (F_bytes_IndexByte l13 x10).bind fun (r16 : Int) => if (decide (r16 ≥ 0)) = true then (some (Fl.ex (Fl.ex false))) else (some (Fl.nx (wr (s5 + 1))))) else (some (Fl.ex (Fl.nx ())))
noncomputable def F_impl_areDifferent (p0 : (List UInt8)) : Option (Bool) :=
  (iter (L0_impl_areDifferent p0) 0 : Option (Fl Unit Bool)).bind fun (j1 : Fl Unit Bool) => j1.el (fun (s4 : Unit) => some true) (fun r => some r)
set_option maxRecDepth 20000 in
set_option maxHeartbeats 400000 in
theorem c_impl_areDifferent (w0 : World) (p0 : (List UInt8)) (v0_1 : Value) (hv0_1 : Ro w0 p0 [v0_1]) (r : Bool) (hF : F_impl_areDifferent p0 = some r) :
    Calls Try.prog 61 [v0_1].toArray w0 (fun en w' => ∃ v, en = .returned v ∧ (v = (vT r) ∧ Kept (Old w0) w0 w')) := by
  refine c_enter (n := 19) Try.func61 rfl rfl (Nat.le_of_ble_eq_true rfl) rfl ?_
  intro a hE
  have hM := M.start w0
  unfold F_impl_areDifferent at hF
  refine c_region ?_
  refine s_assign hE goes_none (by decide) rfl ?_; intro a hE
  refine c_fin ?_
  refine wp_seq ?_
  refine c_region ?_
  refine s_move hE goes_none (by decide) rfl ?_; intro a hE
  refine s_len hE goes_none (by decide) rfl Try.underlying29 (hM.rd hv0_1) ?_; intro a hE
  refine s_move hE goes_none (by decide) rfl ?_; intro a hE
  refine c_fin ?_
  obtain ⟨j1, hl2, hF3⟩ := bind_some hF
  refine c_cut (fun a w => ∃ s4 : Unit, j1 = Fl.nx s4 ∧ Env 19 a [] ∧ M (Old w0) w0 w []) ?_ ?_
  · skip
    refine wp_block ?_
    refine c_loop (fun (s5 : Int) a w => Env 19 a [(0, v0_1), (5, v0_1), (6, (vI (p0.length : Int))), (7, (vI s5))] ∧ M (Old w0) w0 w []) hl2 ⟨hE.sub ⟨rfl, rfl, rfl, rfl, trivial⟩, hM⟩ ?_
    rintro s5 a w ⟨hE, hM⟩ o8 hs6 hx7
    unfold L0_impl_areDifferent at hs6
    refine c_region ?_
    refine s_int hE goes_none (by decide) rfl rfl rfl ?_; intro a hE
    refine c_fin ?_
    refine wp_seq ?_
    refine c_cond hE rfl ?_ ?_
    · intro hb9
      have hs6 := ite_t hs6 hb9
      refine wp_skip ?_
      refine c_nx ?_
      refine wp_seq ?_
      refine wp_block ?_
      refine c_region ?_
      refine s_move hE goes_none (by decide) rfl ?_; intro a hE
      obtain ⟨x10, e11, hs6⟩ := bind_some hs6
      have hi12 := idx_some e11
      refine s_indexS hE goes_none (by decide) rfl rfl Try.underlying29 ty5 (hM.rd hv0_1) hi12.1 ?_; intro a hE
      refine s_load (v := (vB x10)) hE goes_none (by decide) rfl ty5 rfl (sl_atF (hM.rd hv0_1) hi12.2) ?_; intro a hE
      refine s_assign hE goes_none (by decide) rfl ?_; intro a hE
      refine s_assign hE goes_none (by decide) rfl ?_; intro a hE
      refine c_fin ?_
      refine c_region ?_
      refine s_move hE goes_none (by decide) rfl ?_; intro a hE
      refine s_move hE goes_none (by decide) rfl ?_; intro a hE
      obtain ⟨l13, e14, hs6⟩ := bind_some hs6
      refine s_slice hE goes_none (by decide) rfl rfl rfl rfl rfl Try.underlying29 ty5 (hM.rd hv0_1) e14 ?_; intro a hE
      have h15 : Rep.sat (Old w0) w0 l13 [(sliceV v0_1 ((0 : Int)).toNat (s5).toNat 1)] [] := ro_slice hv0_1 e14 -- ^
      refine s_move hE goes_none (by decide) rfl ?_; intro a hE
      obtain ⟨r16, e17, hs6⟩ := bind_some hs6
      refine s_call (vs := [(sliceV v0_1 ((0 : Int)).toNat (s5).toNat 1), (vB x10)]) hE goes_none (by decide) rfl cb116 (c_bytes_IndexByte _ l13 (sliceV v0_1 ((0 : Int)).toNat (s5).toNat 1) (hM.rdo h15) x10 r16 e17) ?_
      rintro v w a ⟨rfl, hK⟩ hE
      have hM := hM.keep hK
      refine s_int hE goes_none (by decide) rfl rfl rfl ?_; intro a hE
      refine c_fin ?_
      refine c_cond hE rfl ?_ ?_
      · intro hb18
        have hs6 := ite_t hs6 hb18
        refine c_region ?_
        refine s_assign hE goes_none (by decide) rfl ?_; intro a hE
        refine c_fin ?_
        have ht19 := hx7 _ (Option.some.inj hs6).symm
        subst ht19
        have hr := Option.some.inj hF3
        subst hr
        exact wp_ret (r_inb (r_then (r_then (r_inb (r_then (r_then (k_ret1 hE rfl (res_tmp hE rfl) ⟨_, rfl, rfl, hM.kept⟩)))))))
      · intro hb18
        have hs6 := ite_f hs6 hb18
        refine wp_skip ?_
        refine c_nb ?_
        refine c_nx ?_
        refine wp_region_lit ?_
        refine s_int hE goes_none (by decide) rfl rfl rfl ?_; intro a hE
        refine s_move hE goes_none (by decide) rfl ?_; intro a hE
        refine c_fin0 ?_
        refine c_mid ?_
        exact ⟨_, (Option.some.inj hs6).symm, hE.sub ⟨rfl, rfl, rfl, rfl, trivial⟩, hM⟩
    · intro hb9
      have hs6 := ite_f hs6 hb9
      refine wp_exit (e_then (e_then (e_eq ?_)))
      have ht20 := hx7 _ (Option.some.inj hs6).symm
      subst ht20
      refine c_mid ?_
      exact ⟨(), rfl, hE.sub trivial, hM⟩
  · skip
    rintro a w ⟨s4, ht, hE, hM⟩
    subst ht
    refine c_nx ?_
    refine c_region ?_
    refine s_assign hE goes_none (by decide) rfl ?_; intro a hE
    refine c_fin ?_
    have hr := Option.some.inj hF3
    subst hr
    exact wp_ret (k_ret1 hE rfl (res_tmp hE rfl) ⟨_, rfl, rfl, hM.kept⟩)
noncomputable def F_impl_length_impl_Share (p0 : (List GShare)) : Option (Int) :=
  some (p0.length : Int)
set_option maxRecDepth 20000 in
set_option maxHeartbeats 400000 in
theorem c_impl_length_impl_Share (w0 : World) (p0 : (List GShare)) (v0_1 : Value) (hv0_1 : Ro w0 p0 [v0_1]) (r : Int) (hF : F_impl_length_impl_Share p0 = some r) :
    Calls Try.prog 57 [v0_1].toArray w0 (fun en w' => ∃ v, en = .returned v ∧ (v = (vI r) ∧ Kept (Old w0) w0 w')) := by
  refine c_enter (n := 5) Try.func57 rfl rfl (Nat.le_of_ble_eq_true rfl) rfl ?_
  intro a hE
  have hM := M.start w0
  unfold F_impl_length_impl_Share at hF
  refine c_region ?_
  refine s_assign hE goes_none (by decide) rfl ?_; intro a hE
  refine c_fin ?_
  refine c_region ?_
  refine s_move hE goes_none (by decide) rfl ?_; intro a hE
  refine s_len hE goes_none (by decide) rfl Try.underlying25 (hM.rd hv0_1) ?_; intro a hE
  refine s_assign hE goes_none (by decide) rfl ?_; intro a hE
  refine c_fin ?_
  have hr := Option.some.inj hF
  subst hr
  exact wp_ret (k_ret1 hE rfl (res_tmp hE rfl) ⟨_, rfl, rfl, hM.kept⟩)
noncomputable def F_impl_areEven_1 (p0 : GShare) (p1 : (List GShare)) : Option (Bool) :=
  ((idx p1 (0 : Int)).bind fun (x7 : GShare) => some ((p0.Data.length : Int) != (x7.Data.length : Int)) : Option (Bool)).bind fun (j3 : Bool) => some j3
set_option maxRecDepth 20000 in
set_option maxHeartbeats 400000 in
theorem c_impl_areEven_1 (w0 : World) (p0 : GShare) (v0_1 : Value) (hv0_1 : Ro w0 p0.Data [v0_1]) (pb1 : Nat) (p1 : (List GShare)) (v1_2 : Value) (hv1_2 : Ro w0 p1 [v1_2]) (hA1 : At w0 pb1 0 ([v1_2])) (hB1 : Old w0 pb1) (r : Bool) (hF : F_impl_areEven_1 p0 p1 = some r) :
    Calls Try.prog 117 [(Value.agg (cat [[(vB p0.Place)], [v0_1]]).toArray), (ptr pb1 0)].toArray w0 (fun en w' => ∃ v, en = .returned v ∧ (v = (vT r) ∧ Kept (Old w0) w0 w')) := by
  refine c_enter (n := 13) Try.func117 rfl rfl (Nat.le_of_ble_eq_true rfl) rfl ?_
  intro a hE
  have hM := M.start w0
  unfold F_impl_areEven_1 at hF
  refine c_region ?_
  refine s_box (cs := cat [[(vB p0.Place)], [v0_1]]) hE hM goes_none (by decide) rfl rfl ?_; intro b1 w a hM hE
  refine s_assign hE goes_none (by decide) rfl ?_; intro a hE
  refine c_fin ?_
  obtain ⟨j3, hl4, hF5⟩ := bind_some hF
  refine c_join (fun a w => Env 13 a [(3, (vT j3))] ∧ M (Old w0) w0 w []) ?_ ?_
  · skip
    obtain ⟨x7, e8, hl4⟩ := bind_some hl4
    have hi9 := idx_some e8
    obtain ⟨cs10, hs11, hA12⟩ := sl_atRo hv1_2 hi9.2 -- ^
    obtain ⟨u13, rfl, h14⟩ := un_GShare hs11 -- ^
    refine c_draw (n := 13) (hd := [_, _, _, _, _, _, _, _, _, _]) (tl := []) hmix rfl rfl [4, 5, 6, 7, 8, 9, 10, 11, 12, 3] (by decide) (fun w => M (Old w0) w0 w [raw b1 (cat [[(vB p0.Place)], [v0_1]])]) (fun j => ([fun v _ => v = (ptr b1 (0 + 1)), fun v _ => v = v0_1, fun v _ => v = (vI (p0.Data.length : Int)), fun v _ => v = v1_2, fun v _ => v = (ptr (sb v1_2) (so v1_2 + ((0 : Int)).toNat * 2)), fun v _ => v = (ptr (sb v1_2) (so v1_2 + ((0 : Int)).toNat * 2 + 1)), fun v _ => v = u13, fun v _ => v = (vI (x7.Data.length : Int)), fun v _ => v = (vT ((p0.Data.length : Int) != (x7.Data.length : Int))), fun v _ => v = (vT ((p0.Data.length : Int) != (x7.Data.length : Int)))] : List (Value → World → Prop)).getD j (fun _ _ => True)) (fun _ _ h hk => h.keep hk) (gup (gupE (gupE (gupE (gupE (gupE (gupE (gupE (gupE (gupE (gupE gupN))))))))))) hE hM.drew (steps_of (steps_cons ?_ (steps_cons ?_ (steps_cons ?_ (steps_cons ?_ (steps_cons ?_ (steps_cons ?_ (steps_cons ?_ (steps_cons ?_ (steps_cons ?_ (steps_cons ?_ steps_nil))))))))))) ?_
    · intro a w ux6 hE hM hp
      refine s_fieldAddr hE goes_none (by decide) rfl (fd81_1) ?_; intro a hE
      exact ⟨Kept.refl _ _, _, _, rfl, hE, rfl⟩
    · intro a w ux6 hE hM hp
      have f0 : ux6 0 = (ptr b1 (0 + 1)) := hp 0 _ rfl rfl
      refine s_load (v := v0_1) hE goes_none (by decide) (lk rfl f0) ty29 rfl (At.cat (pre := [[(vB p0.Place)]]) (seg := [v0_1]) (post := []) (hM.rawAt (pre := [])) (cl1 (n := 1) (m := 0) rfl cl0)) ?_; intro a hE
      exact ⟨Kept.refl _ _, _, _, rfl, hE, rfl⟩
    · intro a w ux6 hE hM hp
      have f1 : ux6 1 = v0_1 := hp 0 _ rfl rfl
      refine s_len hE goes_none (by decide) (lk rfl f1) Try.underlying29 (hM.rd hv0_1) ?_; intro a hE
      exact ⟨Kept.refl _ _, _, _, rfl, hE, rfl⟩
    · intro a w ux6 hE hM hp
      refine s_load (v := v1_2) hE goes_none (by decide) rfl ty25 rfl (hM.atk hA1 hB1) ?_; intro a hE
      exact ⟨Kept.refl _ _, _, _, rfl, hE, rfl⟩
    · intro a w ux6 hE hM hp
      have f3 : ux6 3 = v1_2 := hp 0 _ rfl rfl
      refine s_indexS hE goes_none (by decide) (lk rfl f3) rfl Try.underlying25 ty81 (hM.rd hv1_2) hi9.1 ?_; intro a hE
      exact ⟨Kept.refl _ _, _, _, rfl, hE, rfl⟩
    · intro a w ux6 hE hM hp
      have f4 : ux6 4 = (ptr (sb v1_2) (so v1_2 + ((0 : Int)).toNat * 2)) := hp 0 _ rfl rfl
      refine s_fieldAddr hE goes_none (by decide) (lk rfl f4) (fd81_1) ?_; intro a hE
      exact ⟨Kept.refl _ _, _, _, rfl, hE, rfl⟩
    · intro a w ux6 hE hM hp
      have f5 : ux6 5 = (ptr (sb v1_2) (so v1_2 + ((0 : Int)).toNat * 2 + 1)) := hp 0 _ rfl rfl
      refine s_load (v := u13) hE goes_none (by decide) (lk rfl f5) ty29 rfl (At.cat (pre := [[(vB x7.Place)]]) (seg := [u13]) (post := []) (hM.atk hA12 (sl_blk hv1_2 hi9.2)) (cl1 (n := 1) (m := 0) rfl cl0)) ?_; intro a hE
      exact ⟨Kept.refl _ _, _, _, rfl, hE, rfl⟩
    · intro a w ux6 hE hM hp
      have f6 : ux6 6 = u13 := hp 0 _ rfl rfl
      refine s_len hE goes_none (by decide) (lk rfl f6) Try.underlying29 (hM.rd h14) ?_; intro a hE
      exact ⟨Kept.refl _ _, _, _, rfl, hE, rfl⟩
    · intro a w ux6 hE hM hp
      have f2 : ux6 2 = (vI (p0.Data.length : Int)) := hp 0 _ rfl rfl
      have f7 : ux6 7 = (vI (x7.Data.length : Int)) := hp 1 _ rfl rfl
      refine s_int hE goes_none (by decide) (lk rfl f2) (lk rfl f7) rfl ?_; intro a hE
      exact ⟨Kept.refl _ _, _, _, rfl, hE, rfl⟩
    · intro a w ux6 hE hM hp
      have f8 : ux6 8 = (vT ((p0.Data.length : Int) != (x7.Data.length : Int))) := hp 0 _ rfl rfl
      refine s_assign hE goes_none (by decide) (lk rfl f8) ?_; intro a hE
      exact ⟨Kept.refl _ _, _, _, rfl, hE, rfl⟩
    · intro a w ux6 hE hM hg
      have f0 : ux6 0 = (ptr b1 (0 + 1)) := hg 0 (by decide)
      have f1 : ux6 1 = v0_1 := hg 1 (by decide)
      have f2 : ux6 2 = (vI (p0.Data.length : Int)) := hg 2 (by decide)
      have f3 : ux6 3 = v1_2 := hg 3 (by decide)
      have f4 : ux6 4 = (ptr (sb v1_2) (so v1_2 + ((0 : Int)).toNat * 2)) := hg 4 (by decide)
      have f5 : ux6 5 = (ptr (sb v1_2) (so v1_2 + ((0 : Int)).toNat * 2 + 1)) := hg 5 (by decide)
      have f6 : ux6 6 = u13 := hg 6 (by decide)
      have f7 : ux6 7 = (vI (x7.Data.length : Int)) := hg 7 (by decide)
      have f8 : ux6 8 = (vT ((p0.Data.length : Int) != (x7.Data.length : Int))) := hg 8 (by decide)
      have f9 : ux6 9 = (vT ((p0.Data.length : Int) != (x7.Data.length : Int))) := hg 9 (by decide)
      have hE := hE.sub (e' := [(4, (ptr b1 (0 + 1))), (5, v0_1), (6, (vI (p0.Data.length : Int))), (7, v1_2), (8, (ptr (sb v1_2) (so v1_2 + ((0 : Int)).toNat * 2))), (9, (ptr (sb v1_2) (so v1_2 + ((0 : Int)).toNat * 2 + 1))), (10, u13), (11, (vI (x7.Data.length : Int))), (12, (vT ((p0.Data.length : Int) != (x7.Data.length : Int)))), (3, (vT ((p0.Data.length : Int) != (x7.Data.length : Int)))), (0, (Value.agg (cat [[(vB p0.Place)], [v0_1]]).toArray)), (1, (ptr pb1 0)), (2, (ptr b1 0))]) ⟨lk rfl f0, lk rfl f1, lk rfl f2, lk rfl f3, lk rfl f4, lk rfl f5, lk rfl f6, lk rfl f7, lk rfl f8, lk rfl f9, rfl, rfl, rfl, trivial⟩
      refine c_fin0 ?_
      have ht15 := Option.some.inj hl4
      subst ht15
      refine c_mid ?_
      have hM := M.fst (l := []) hM
      exact ⟨hE.sub ⟨rfl, trivial⟩, hM⟩
  · skip
    rintro a w ⟨hE, hM⟩
    have hr := Option.some.inj hF5
    subst hr
    exact wp_ret (k_ret1 hE rfl (res_tmp hE rfl) ⟨_, rfl, rfl, hM.kept⟩)
noncomputable def F_impl_areEven (p0 : (List GShare)) : Option (Bool) :=
  (F_slices_ContainsFunc_impl_Share_impl_Share p0 (fun z0 => F_impl_areEven_1 z0 p0)).bind fun (r3 : Bool) => some (!r3)
set_option maxRecDepth 20000 in
set_option maxHeartbeats 400000 in
theorem c_impl_areEven (w0 : World) (p0 : (List GShare)) (v0_1 : Value) (hv0_1 : Ro w0 p0 [v0_1]) (r : Bool) (hF : F_impl_areEven p0 = some r) :
    Calls Try.prog 63 [v0_1].toArray w0 (fun en w' => ∃ v, en = .returned v ∧ (v = (vT r) ∧ Kept (Old w0) w0 w')) := by
  refine c_enter (n := 7) Try.func63 rfl rfl (Nat.le_of_ble_eq_true rfl) rfl ?_
  intro a hE
  have hM := M.start w0
  unfold F_impl_areEven at hF
  refine c_region ?_
  refine s_box (cs := [v0_1]) hE hM goes_none (by decide) rfl (sl_cells (hM.rd hv0_1)) ?_; intro b1 w a hM hE
  refine s_assign hE goes_none (by decide) rfl ?_; intro a hE
  refine c_fin ?_
  refine c_region ?_
  refine s_load (v := v0_1) hE goes_none (by decide) rfl ty25 rfl (hM.rawAt (pre := [])) ?_; intro a hE
  refine s_makeFunc hE goes_none (by decide) rfl ?_; intro a hE
  obtain ⟨r3, e4, hF⟩ := bind_some hF
  refine s_call (vs := [v0_1, (Value.func (.func 117) #[] [(ptr b1 0)].toArray)]) hE goes_none (by decide) rfl cb58 (c_slices_ContainsFunc_impl_Share_impl_Share _ p0 v0_1 (hM.rdo hv0_1) (fun z0 => F_impl_areEven_1 z0 p0) 117 [(ptr b1 0)] cb117 (fun w2 hk2 z0 zu0_0 zh0_0 zr zhr => c_impl_areEven_1 w2 z0 zu0_0 zh0_0 b1 p0 v0_1 (ro_later (hM.rdo hv0_1) hk2) (at_later (hM.rawAt (pre := [])) hk2 (by simp [cat])) (at_lt_later (hM.rawAt (pre := [])) hk2 (by simp [cat])) zr zhr) r3 e4) ?_
  rintro v w a ⟨rfl, hK⟩ hE
  have hM := hM.keep hK
  refine s_not hE goes_none (by decide) rfl ?_; intro a hE
  refine s_assign hE goes_none (by decide) rfl ?_; intro a hE
  refine c_fin ?_
  have hr := Option.some.inj hF
  subst hr
  have hM := M.fst (l := []) hM
  exact wp_ret (k_ret1 hE rfl (res_tmp hE rfl) ⟨_, rfl, rfl, hM.kept⟩)
noncomputable def F_impl_checkShares (p0 : Int) (p1 : (List GShare)) (p2 : Int) : Option (Int) :=
  ((F_impl_IsField p0).bind fun (r4 : Bool) => if (!r4) = true then (some true) else ((F_slices_ContainsFunc_impl_Share_impl_Share p1 (fun z0 => F_impl_checkShares_1 z0)).bind fun (r8 : Bool) => if r8 = true then (some true) else ((F_impl_placesOf p1).bind fun (r12 : (List UInt8)) => (F_impl_areDifferent r12).bind fun (r15 : Bool) => some (!r15))) : Option (Bool)).bind fun (j1 : Bool) => if j1 = true then (some 1) else (((F_impl_length_impl_Share p1).bind fun (r22 : Int) => (F_impl_inRange r22 1 12).bind fun (r24 : Bool) => if (!r24) = true then (some true) else ((F_impl_areEven p1).bind fun (r28 : Bool) => if (!r28) = true then (some true) else ((F_impl_inRange p2 1 8).bind fun (r32 : Bool) => some (!r32))) : Option (Bool)).bind fun (j19 : Bool) => if j19 = true then (some 2) else (some 0))
set_option maxRecDepth 20000 in
set_option maxHeartbeats 400000 in
theorem c_impl_checkShares (w0 : World) (p0 : Int) (p1 : (List GShare)) (v1_1 : Value) (hv1_1 : Ro w0 p1 [v1_1]) (p2 : Int) (r : Int) (hF : F_impl_checkShares p0 p1 p2 = some r) :
    Calls Try.prog 97 [(vI p0), v1_1, (vI p2)].toArray w0 (fun en w' => ∃ v, en = .returned v ∧ (v = (vI r) ∧ Kept (Old w0) w0 w')) := by
  refine c_enter (n := 36) Try.func97 rfl rfl (Nat.le_of_ble_eq_true rfl) rfl ?_
  intro a hE
  have hM := M.start w0
  unfold F_impl_checkShares at hF
  refine c_region ?_
  refine s_assign hE goes_none (by decide) rfl ?_; intro a hE
  refine c_fin ?_
  refine wp_seq ?_
  refine wp_block ?_
  obtain ⟨j1, hl2, hF3⟩ := bind_some hF
  refine c_join (fun a w => Env 36 a [(1, v1_1), (2, (vI p2)), (7, (vT j1))] ∧ M (Old w0) w0 w []) ?_ ?_
  · skip
    refine wp_region_lit ?_
    refine s_move hE goes_none (by decide) rfl ?_; intro a hE
    obtain ⟨r4, e5, hl2⟩ := bind_some hl2
    refine s_call (vs := [(vI p0)]) hE goes_none (by decide) rfl cb68 (c_impl_IsField _ p0 r4 e5) ?_
    rintro v w a ⟨rfl, hK⟩ hE
    have hM := hM.keep hK
    refine s_not hE goes_none (by decide) rfl ?_; intro a hE
    refine s_move hE goes_none (by decide) rfl ?_; intro a hE
    refine splitB (!r4) (fun hb6 => ?_) (fun hb6 => ?_)
    · have hl2 := ite_t hl2 hb6
      refine s_skip hE rfl (lkb rfl hb6) rfl (by decide) ?_; intro a hE
      refine s_skip hE rfl (lkb rfl hb6) rfl (by decide) ?_; intro a hE
      refine s_pickT hE goes_none (by decide) (lkb rfl hb6) rfl ?_; intro a hE
      refine s_move hE goes_none (by decide) rfl ?_; intro a hE
      refine s_skip hE rfl rfl rfl (by decide) ?_; intro a hE
      refine s_skip hE rfl rfl rfl (by decide) ?_; intro a hE
      refine s_skip hE rfl rfl rfl (by decide) ?_; intro a hE
      refine s_skip hE rfl rfl rfl (by decide) ?_; intro a hE
      refine s_pickT hE goes_none (by decide) rfl rfl ?_; intro a hE
      refine s_assign hE goes_none (by decide) rfl ?_; intro a hE
      refine c_fin0 ?_
      have ht7 := Option.some.inj hl2
      subst ht7
      refine c_mid ?_
      exact ⟨hE.sub ⟨rfl, rfl, rfl, trivial⟩, hM⟩
    · have hl2 := ite_f hl2 hb6
      refine s_move hE (goes_yes hE rfl (lkb rfl hb6)) (by decide) rfl ?_; intro a hE
      obtain ⟨r8, e9, hl2⟩ := bind_some hl2
      refine s_call (vs := [v1_1, (Value.func (.func 139) #[] [].toArray)]) hE (goes_yes hE rfl (lkb rfl hb6)) (by decide) rfl cb58 (c_slices_ContainsFunc_impl_Share_impl_Share _ p1 v1_1 (hM.rdo hv1_1) (fun z0 => F_impl_checkShares_1 z0) 139 [] cb139 (fun w2 hk2 z0 zu0_0 zh0_0 zr zhr => c_impl_checkShares_1 w2 z0 zu0_0 zh0_0 zr zhr) r8 e9) ?_
      rintro v w a ⟨rfl, hK⟩ hE
      have hM := hM.keep hK
      refine s_pickF hE goes_none (by decide) (lkb rfl hb6) rfl ?_; intro a hE
      refine s_move hE goes_none (by decide) rfl ?_; intro a hE
      refine splitB r8 (fun hb10 => ?_) (fun hb10 => ?_)
      · have hl2 := ite_t hl2 hb10
        refine s_skip hE rfl (lkb rfl hb10) rfl (by decide) ?_; intro a hE
        refine s_skip hE rfl (lkb rfl hb10) rfl (by decide) ?_; intro a hE
        refine s_skip hE rfl (lkb rfl hb10) rfl (by decide) ?_; intro a hE
        refine s_skip hE rfl (lkb rfl hb10) rfl (by decide) ?_; intro a hE
        refine s_pickT hE goes_none (by decide) (lkb rfl hb10) rfl ?_; intro a hE
        refine s_assign hE goes_none (by decide) rfl ?_; intro a hE
        refine c_fin0 ?_
        have ht11 := Option.some.inj hl2
        subst ht11
        refine c_mid ?_
        exact ⟨hE.sub ⟨rfl, rfl, rfl, trivial⟩, hM⟩
      · have hl2 := ite_f hl2 hb10
        refine s_move hE (goes_yes hE rfl (lkb rfl hb10)) (by decide) rfl ?_; intro a hE
        obtain ⟨r12, e13, hl2⟩ := bind_some hl2
        refine s_call (vs := [v1_1]) hE (goes_yes hE rfl (lkb rfl hb10)) (by decide) rfl cb62 (c_impl_placesOf _ p1 v1_1 (hM.rdo hv1_1) r12 e13) ?_
        rintro u14 w a ⟨_, rfl, hFr, hK⟩ hE
        have hM := hM.add hK hFr
        obtain ⟨r15, e16, hl2⟩ := bind_some hl2
        refine s_call (vs := [u14]) hE (goes_yes hE rfl (lkb rfl hb10)) (by decide) rfl cb61 (c_impl_areDifferent _ r12 u14 (hM.sl (pre := []) noB) r15 e16) ?_
        rintro v w a ⟨rfl, hK⟩ hE
        have hM := hM.keep hK
        refine s_not hE (goes_yes hE rfl (lkb rfl hb10)) (by decide) rfl ?_; intro a hE
        refine s_pickF hE goes_none (by decide) (lkb rfl hb10) rfl ?_; intro a hE
        refine s_assign hE goes_none (by decide) rfl ?_; intro a hE
        refine c_fin0 ?_
        have ht17 := Option.some.inj hl2
        subst ht17
        refine c_mid ?_
        have hM := M.fst (l := []) hM
        exact ⟨hE.sub ⟨rfl, rfl, rfl, trivial⟩, hM⟩
  · skip
    rintro a w ⟨hE, hM⟩
    refine c_cond hE rfl ?_ ?_
    · intro hb18
      have hF3 := ite_t hF3 hb18
      refine c_region ?_
      refine s_assign hE goes_none (by decide) rfl ?_; intro a hE
      refine c_fin ?_
      have hr := Option.some.inj hF3
      subst hr
      exact wp_ret (r_inb (r_then (k_ret1 hE rfl (res_tmp hE rfl) ⟨_, rfl, rfl, hM.kept⟩)))
    · intro hb18
      have hF3 := ite_f hF3 hb18
      obtain ⟨j19, hl20, hF21⟩ := bind_some hF3
      refine c_join (fun a w => Env 36 a [(21, (vT j19))] ∧ M (Old w0) w0 w []) ?_ ?_
      · skip
        refine wp_region_lit ?_
        refine s_move hE goes_none (by decide) rfl ?_; intro a hE
        obtain ⟨r22, e23, hl20⟩ := bind_some hl20
        refine s_call (vs := [v1_1]) hE goes_none (by decide) rfl cb57 (c_impl_length_impl_Share _ p1 v1_1 (hM.rdo hv1_1) r22 e23) ?_
        rintro v w a ⟨rfl, hK⟩ hE
        have hM := hM.keep hK
        obtain ⟨r24, e25, hl20⟩ := bind_some hl20
        refine s_call (vs := [(vI r22), (vI 1), (vI 12)]) hE goes_none (by decide) rfl cb56 (c_impl_inRange _ r22 1 12 r24 e25) ?_
        rintro v w a ⟨rfl, hK⟩ hE
        have hM := hM.keep hK
        refine s_not hE goes_none (by decide) rfl ?_; intro a hE
        refine s_move hE goes_none (by decide) rfl ?_; intro a hE
        refine splitB (!r24) (fun hb26 => ?_) (fun hb26 => ?_)
        · have hl20 := ite_t hl20 hb26
          refine s_skip hE rfl (lkb rfl hb26) rfl (by decide) ?_; intro a hE
          refine s_skip hE rfl (lkb rfl hb26) rfl (by decide) ?_; intro a hE
          refine s_skip hE rfl (lkb rfl hb26) rfl (by decide) ?_; intro a hE
          refine s_pickT hE goes_none (by decide) (lkb rfl hb26) rfl ?_; intro a hE
          refine s_move hE goes_none (by decide) rfl ?_; intro a hE
          refine s_skip hE rfl rfl rfl (by decide) ?_; intro a hE
          refine s_skip hE rfl rfl rfl (by decide) ?_; intro a hE
          refine s_skip hE rfl rfl rfl (by decide) ?_; intro a hE
          refine s_pickT hE goes_none (by decide) rfl rfl ?_; intro a hE
          refine s_assign hE goes_none (by decide) rfl ?_; intro a hE
          refine c_fin0 ?_
          have ht27 := Option.some.inj hl20
          subst ht27
          refine c_mid ?_
          exact ⟨hE.sub ⟨rfl, trivial⟩, hM⟩
        · have hl20 := ite_f hl20 hb26
          refine s_move hE (goes_yes hE rfl (lkb rfl hb26)) (by decide) rfl ?_; intro a hE
          obtain ⟨r28, e29, hl20⟩ := bind_some hl20
          refine s_call (vs := [v1_1]) hE (goes_yes hE rfl (lkb rfl hb26)) (by decide) rfl cb63 (c_impl_areEven _ p1 v1_1 (hM.rdo hv1_1) r28 e29) ?_
          rintro v w a ⟨rfl, hK⟩ hE
          have hM := hM.keep hK
          refine s_not hE (goes_yes hE rfl (lkb rfl hb26)) (by decide) rfl ?_; intro a hE
          refine s_pickF hE goes_none (by decide) (lkb rfl hb26) rfl ?_; intro a hE
          refine s_move hE goes_none (by decide) rfl ?_; intro a hE
          refine splitB (!r28) (fun hb30 => ?_) (fun hb30 => ?_)
          · have hl20 := ite_t hl20 hb30
            refine s_skip hE rfl (lkb rfl hb30) rfl (by decide) ?_; intro a hE
            refine s_skip hE rfl (lkb rfl hb30) rfl (by decide) ?_; intro a hE
            refine s_skip hE rfl (lkb rfl hb30) rfl (by decide) ?_; intro a hE
            refine s_pickT hE goes_none (by decide) (lkb rfl hb30) rfl ?_; intro a hE
            refine s_assign hE goes_none (by decide) rfl ?_; intro a hE
            refine c_fin0 ?_
            have ht31 := Option.some.inj hl20
            subst ht31
            refine c_mid ?_
            exact ⟨hE.sub ⟨rfl, trivial⟩, hM⟩
          · have hl20 := ite_f hl20 hb30
            refine s_move hE (goes_yes hE rfl (lkb rfl hb30)) (by decide) rfl ?_; intro a hE
            obtain ⟨r32, e33, hl20⟩ := bind_some hl20
            refine s_call (vs := [(vI p2), (vI 1), (vI 8)]) hE (goes_yes hE rfl (lkb rfl hb30)) (by decide) rfl cb56 (c_impl_inRange _ p2 1 8 r32 e33) ?_
            rintro v w a ⟨rfl, hK⟩ hE
            have hM := hM.keep hK
            refine s_not hE (goes_yes hE rfl (lkb rfl hb30)) (by decide) rfl ?_; intro a hE
            refine s_pickF hE goes_none (by decide) (lkb rfl hb30) rfl ?_; intro a hE
            refine s_assign hE goes_none (by decide) rfl ?_; intro a hE
            refine c_fin0 ?_
            have ht34 := Option.some.inj hl20
            subst ht34
            refine c_mid ?_
            exact ⟨hE.sub ⟨rfl, trivial⟩, hM⟩
      · skip
        rintro a w ⟨hE, hM⟩
        refine c_cond hE rfl ?_ ?_
        · intro hb35
          have hF21 := ite_t hF21 hb35
          refine c_region ?_
          refine s_assign hE goes_none (by decide) rfl ?_; intro a hE
          refine c_fin ?_
          have hr := Option.some.inj hF21
          subst hr
          exact wp_ret (r_inb (r_then (k_ret1 hE rfl (res_tmp hE rfl) ⟨_, rfl, rfl, hM.kept⟩)))
        · intro hb35
          have hF21 := ite_f hF21 hb35
          refine wp_skip ?_
          refine c_nb ?_
          refine c_nx ?_
          refine c_region ?_
          refine s_assign hE goes_none (by decide) rfl ?_; intro a hE
          refine c_fin ?_
          have hr := Option.some.inj hF21
          subst hr
          exact wp_ret (k_ret1 hE rfl (res_tmp hE rfl) ⟨_, rfl, rfl, hM.kept⟩)
noncomputable def F_bytes_Equal (p0 : (List UInt8)) (p1 : (List UInt8)) : Option (Bool) :=
  some (decide ((⟨p0⟩ : Str) = (⟨p1⟩ : Str)))
set_option maxRecDepth 20000 in
set_option maxHeartbeats 400000 in
theorem c_bytes_Equal (w0 : World) (p0 : (List UInt8)) (v0_1 : Value) (hv0_1 : Ro w0 p0 [v0_1]) (p1 : (List UInt8)) (v1_1 : Value) (hv1_1 : Ro w0 p1 [v1_1]) (r : Bool) (hF : F_bytes_Equal p0 p1 = some r) :
    Calls Try.prog 98 [v0_1, v1_1].toArray w0 (fun en w' => ∃ v, en = .returned v ∧ (v = (vT r) ∧ Kept (Old w0) w0 w')) := by
  refine c_enter (n := 10) Try.func98 rfl rfl (Nat.le_of_ble_eq_true rfl) rfl ?_
  intro a hE
  have hM := M.start w0
  unfold F_bytes_Equal at hF
  refine c_region ?_
  refine s_assign hE goes_none (by decide) rfl ?_; intro a hE
  refine c_fin ?_
  refine c_region ?_
  refine s_move hE goes_none (by decide) rfl ?_; intro a hE
  refine s_bytesStr hE goes_none (by decide) rfl Try.underlying29 Try.underlying5 Try.underlying9 (hM.rd hv0_1) ?_; intro a hE
  refine s_move hE goes_none (by decide) rfl ?_; intro a hE
  refine s_bytesStr hE goes_none (by decide) rfl Try.underlying29 Try.underlying5 Try.underlying9 (hM.rd hv1_1) ?_; intro a hE
  refine s_eqS hE goes_none (by decide) rfl rfl ?_; intro a hE
  refine s_assign hE goes_none (by decide) rfl ?_; intro a hE
  refine c_fin ?_
  have hr := Option.some.inj hF
  subst hr
  exact wp_ret (k_ret1 hE rfl (res_tmp hE rfl) ⟨_, rfl, rfl, hM.kept⟩)
noncomputable def F_slices_Clone_byte_byte (p0 : (List UInt8)) : Option ((List UInt8)) :=
  (app 1 ([] : List UInt8) p0).bind fun (l7 : (List UInt8)) => some (([] : List UInt8) ++ p0)
set_option maxRecDepth 20000 in
set_option maxHeartbeats 400000 in
theorem c_slices_Clone_byte_byte (w0 : World) (p0 : (List UInt8)) (v0_1 : Value) (hv0_1 : Ro w0 p0 [v0_1]) (r : (List UInt8)) (hF : F_slices_Clone_byte_byte p0 = some r) :
    Calls Try.prog 140 [v0_1].toArray w0 (fun en w' => ∃ v, en = .returned v ∧ (∃ (y1 : Value), v = y1 ∧ Fr w0 w' [osl NoB (r : List UInt8) y1] ∧ Kept (Old w0) w0 w')) := by
  refine c_enter (n := 8) Try.func140 rfl rfl (Nat.le_of_ble_eq_true rfl) rfl ?_
  intro a hE
  have hM := M.start w0
  unfold F_slices_Clone_byte_byte at hF
  refine c_region ?_
  refine s_assign hE goes_none (by decide) rfl ?_; intro a hE
  refine c_fin ?_
  refine wp_seq ?_
  refine c_region ?_
  refine s_move hE goes_none (by decide) rfl ?_; intro a hE
  refine s_eqNil hE goes_none (by decide) rfl rfl Try.underlying29 (hM.rd hv0_1) ?_; intro bn1 a hn2 hE
  refine c_fin ?_
  refine c_cond hE rfl ?_ ?_
  · intro hb3
    have h0 := hn2 hb3
    have hF : some ([]) = some r := by rw [h0] at hF; simpa [app] using hF
    refine c_region ?_
    refine s_assign hE goes_none (by decide) rfl ?_; intro a hE
    refine c_fin ?_
    have hM := M.nilS (α := UInt8) NoB noB hM
    have hr := Option.some.inj hF
    subst hr
    exact wp_ret (r_then (k_ret1 hE rfl (res_tmp hE rfl) ⟨_, rfl, (Value.slice none 0 0), rfl, hM.outF (locN1 locN0), hM.kept⟩))
  · intro hb3
    refine wp_skip ?_
    refine c_nx ?_
    refine c_region ?_
    refine s_buildF (xs := []) (l := ([] : List UInt8)) (vs := []) hE hM goes_none (by decide) rfl rfl Try.underlying29 ty5 rfl (by decide) rfl ?_; intro u5 w a hM hE
    refine s_move hE goes_none (by decide) rfl ?_; intro a hE
    obtain ⟨l7, e8, hF⟩ := bind_some hF
    obtain ⟨e11, rfl⟩ := app_some e8
    refine s_appendF hE hM goes_none (by decide) rfl rfl (hM.rd hv0_1) Try.underlying29 ty5 rfl (by decide) e11 ?_; intro u9 w a hM hE
    refine s_assign hE goes_none (by decide) rfl ?_; intro a hE
    refine c_fin ?_
    have hr := Option.some.inj hF
    subst hr
    exact wp_ret (k_ret1 hE rfl (res_tmp hE rfl) ⟨_, rfl, u9, rfl, hM.outF (locN1 locN0), hM.kept⟩)
noncomputable def L1_impl_added (p1 : (List GShare)) (s8 : Int × (List GShare)) (r25 : (List UInt8)) (s33 : Int × (List UInt8)) : Option (Fl (Int × (List UInt8)) (List UInt8)) :=
  if (decide (s33.1 < (r25.length : Int))) = true then ((idx s33.2 s33.1).bind fun (x41 : UInt8) => (idx p1 s8.1).bind fun (x44 : GShare) => (idx x44.Data s33.1).bind fun (x52 : UInt8) => (idx s33.2 s33.1).bind fun (x55 : UInt8) => some (Fl.nx (wr (s33.1 + 1), (s33.2.set (s33.1).toNat (x41 ^^^ x52))))) else (some (Fl.ex s33.2))
noncomputable def L0_impl_added (p0 : (List GShare)) (p1 : (List GShare)) (s8 : Int × (List GShare)) : Option (Fl (Int × (List GShare)) (List GShare)) :=
  if (decide (s8.1 < (p0.length : Int))) = true then ((idx p0 s8.1).bind fun (x15 : GShare) => (F_slices_Clone_byte_byte x15.Data).bind fun (r25 : (List UInt8)) => (iter (L1_impl_added p1 s8 r25) (0, r25) : Option ((List UInt8))).bind fun (j28 : (List UInt8)) => (app 32 s8.2 ([(⟨x15.Place, j28⟩ : GShare)] : List GShare)).bind fun (l61 : (List GShare)) => some (Fl.nx (wr (s8.1 + 1), (s8.2 ++ ([(⟨x15.Place, j28⟩ : GShare)] : List GShare))))) else (some (Fl.ex s8.2))
noncomputable def F_impl_added (p0 : (List GShare)) (p1 : (List GShare)) : Option ((List GShare)) :=
  (iter (L0_impl_added p0 p1) (0, ([] : List GShare)) : Option ((List GShare))).bind fun (j3 : (List GShare)) => some j3
end Go.Proofs.Ytbonmndobipbnaa
