/- The walk of what the law reaches: contracts of functions. -/
import Derived.Test.YthlmkdjednppkaaLibP
import Derived.Test.YthlmkdjednppkaaProg
set_option linter.unusedVariables false
set_option linter.unusedSimpArgs false
namespace Go.Proofs.Ythlmkdjednppkaa
open Go
structure GShare where
  Place : UInt8
  Data : (List UInt8)
  deriving DecidableEq, Inhabited
instance : Dat GShare := ⟨fun x => Dat.bd (α := UInt8 × (List UInt8)) (x.Place, x.Data), fun x => Dat.sz (α := UInt8 × (List UInt8)) (x.Place, x.Data) + 1⟩
instance : Rep GShare := repIso (α := UInt8 × (List UInt8)) (fun x => (x.Place, x.Data))
theorem unf_GShare {S : Nat → Prop} {w : World} {x : GShare} {cs : List Value} {fp : List Nat} (h : Rep.sat S w x cs fp) : ∃ (u1 : Value), ∃ (g1 : List Nat), cs = cat [Flat.enc x.Place, [u1]] ∧ fp = g1 ∧ Rep.sat S w x.Data [u1] g1 := by
  obtain ⟨c0, d0, f0, q0, rfl, rfl, h0, hr0⟩ := h
  obtain ⟨rfl, rfl⟩ := h0
  obtain ⟨u1, rfl⟩ := sl_one hr0
  exact ⟨u1, _, rfl, by simp, hr0⟩
theorem unc_GShare {S : Nat → Prop} {w : World} {x : GShare} {u1 : Value} {fp : List Nat} (h : Rep.sat S w x (cat [Flat.enc x.Place, [u1]]) fp) : ∃ (g1 : List Nat), fp = g1 ∧ Rep.sat S w x.Data [u1] g1 := by
  obtain ⟨w1, g1, hc, hf, s1⟩ := unf_GShare h
  obtain ⟨e1, k1⟩ := cat_inj hc rfl
  obtain rfl := (List.cons.inj k1).1
  exact ⟨g1, hf, s1⟩
theorem un_GShare {S : Nat → Prop} {w : World} {x : GShare} {cs : List Value} (h : Rep.sat S w x cs []) : ∃ u1, cs = cat [Flat.enc x.Place, [u1]] ∧ Rep.sat S w x.Data [u1] [] := by
  obtain ⟨c0, d0, f0, g0, rfl, hf0, h0, hr0⟩ := h
  obtain ⟨rfl, rfl⟩ := List.append_eq_nil_iff.1 hf0.symm
  obtain ⟨rfl, _⟩ := h0
  obtain ⟨u1, rfl⟩ := sl_one hr0
  exact ⟨u1, rfl, hr0⟩
theorem pk_GShare {S : Nat → Prop} {w : World} {x : GShare} {u1 : Value} {g1 fp : List Nat} (h1 : Rep.sat S w x.Data [u1] g1) (hfp : fp = g1) : Rep.sat S w x (cat [Flat.enc x.Place, [u1]]) fp := by
  rw [hfp]
  refine ⟨_, _, [], g1, rfl, (by simp), ⟨rfl, rfl⟩, ?_⟩
  exact h1
theorem zsat_GShare (w : World) : Rep.sat NoB w (⟨(0 : UInt8), ([] : (List UInt8))⟩ : GShare) (cat [(Flat.enc (0 : UInt8)), [.slice none 0 0]]) [] := pk_GShare zsat_nil rfl
theorem ty2 : Ty Try.prog 2 (.int .i64) 1 8 (Flat.enc (0 : Int)) := ⟨Try.underlying2, by kernel_rfl⟩
theorem ty3 : Ty Try.prog 3 (.int .i64) 1 8 (Flat.enc (0 : Int)) := ⟨Try.underlying3, by kernel_rfl⟩
theorem ty5 : Ty Try.prog 5 (.int .u8) 1 1 (Flat.enc (0 : UInt8)) := ⟨Try.underlying5, by kernel_rfl⟩
theorem ty24 : Ty Try.prog 24 (.slice 5) 1 24 [.slice none 0 0] := ⟨Try.underlying24, by kernel_rfl⟩
theorem ty26 : Ty Try.prog 26 (.struct [{ name := "Place", type := 5, offset := 0, embedded := false, tag := "", pkgPath := "", byteOffset := 0 }, { name := "Data", type := 24, offset := 1, embedded := false, tag := "", pkgPath := "", byteOffset := 8 }].toArray) 2 32 (cat [(Flat.enc (0 : UInt8)), [.slice none 0 0]]) := ⟨Try.underlying26, by kernel_rfl⟩
theorem ty29 : Ty Try.prog 29 (.slice 26) 1 24 [.slice none 0 0] := ⟨Try.underlying29, by kernel_rfl⟩
theorem ty94 : Ty Try.prog 94 (.struct [{ name := "Place", type := 5, offset := 0, embedded := false, tag := "", pkgPath := "", byteOffset := 0 }, { name := "Data", type := 24, offset := 1, embedded := false, tag := "", pkgPath := "", byteOffset := 8 }].toArray) 2 32 (cat [(Flat.enc (0 : UInt8)), [.slice none 0 0]]) := ⟨Try.underlying94, by kernel_rfl⟩
theorem fd26_0 : Fd Try.prog 26 0 0 := fd_mk ty26.und rfl rfl ty5 (by decide)
theorem fd26_1 : Fd Try.prog 26 1 1 := fd_mk ty26.und rfl rfl ty24 (by decide)
theorem fd94_0 : Fd Try.prog 94 0 0 := fd_mk ty94.und rfl rfl ty5 (by decide)
theorem fd94_1 : Fd Try.prog 94 1 1 := fd_mk ty94.und rfl rfl ty24 (by decide)
theorem hmix : Try.prog.follows .mixedOrders = true := by kernel_rfl
theorem cb15 : Callable Try.prog 15 := ⟨_, _, Try.func15, by decide, rfl⟩
theorem cb17 : Callable Try.prog 17 := ⟨_, _, Try.func17, by decide, rfl⟩
theorem cb19 : Callable Try.prog 19 := ⟨_, _, Try.func19, by decide, rfl⟩
theorem cb20 : Callable Try.prog 20 := ⟨_, _, Try.func20, by decide, rfl⟩
theorem cb21 : Callable Try.prog 21 := ⟨_, _, Try.func21, by decide, rfl⟩
theorem cb36 : Callable Try.prog 36 := ⟨_, _, Try.func36, by decide, rfl⟩
theorem cb39 : Callable Try.prog 39 := ⟨_, _, Try.func39, by decide, rfl⟩
theorem cb40 : Callable Try.prog 40 := ⟨_, _, Try.func40, by decide, rfl⟩
theorem cb61 : Callable Try.prog 61 := ⟨_, _, Try.func61, by decide, rfl⟩
theorem cb62 : Callable Try.prog 62 := ⟨_, _, Try.func62, by decide, rfl⟩
theorem cb65 : Callable Try.prog 65 := ⟨_, _, Try.func65, by decide, rfl⟩
theorem cb66 : Callable Try.prog 66 := ⟨_, _, Try.func66, by decide, rfl⟩
theorem cb68 : Callable Try.prog 68 := ⟨_, _, Try.func68, by decide, rfl⟩
theorem cb69 : Callable Try.prog 69 := ⟨_, _, Try.func69, by decide, rfl⟩
theorem cb70 : Callable Try.prog 70 := ⟨_, _, Try.func70, by decide, rfl⟩
theorem cb72 : Callable Try.prog 72 := ⟨_, _, Try.func72, by decide, rfl⟩
theorem cb73 : Callable Try.prog 73 := ⟨_, _, Try.func73, by decide, rfl⟩
theorem cb75 : Callable Try.prog 75 := ⟨_, _, Try.func75, by decide, rfl⟩
theorem cb78 : Callable Try.prog 78 := ⟨_, _, Try.func78, by decide, rfl⟩
theorem cb80 : Callable Try.prog 80 := ⟨_, _, Try.func80, by decide, rfl⟩
theorem cb84 : Callable Try.prog 84 := ⟨_, _, Try.func84, by decide, rfl⟩
theorem cb86 : Callable Try.prog 86 := ⟨_, _, Try.func86, by decide, rfl⟩
theorem cb93 : Callable Try.prog 93 := ⟨_, _, Try.func93, by decide, rfl⟩
theorem cb117 : Callable Try.prog 117 := ⟨_, _, Try.func117, by decide, rfl⟩
theorem cb118 : Callable Try.prog 118 := ⟨_, _, Try.func118, by decide, rfl⟩
theorem cb119 : Callable Try.prog 119 := ⟨_, _, Try.func119, by decide, rfl⟩
theorem cb120 : Callable Try.prog 120 := ⟨_, _, Try.func120, by decide, rfl⟩
theorem cb121 : Callable Try.prog 121 := ⟨_, _, Try.func121, by decide, rfl⟩
theorem cb122 : Callable Try.prog 122 := ⟨_, _, Try.func122, by decide, rfl⟩
theorem cb127 : Callable Try.prog 127 := ⟨_, _, Try.func127, by decide, rfl⟩
theorem cb128 : Callable Try.prog 128 := ⟨_, _, Try.func128, by decide, rfl⟩
theorem cb129 : Callable Try.prog 129 := ⟨_, _, Try.func129, by decide, rfl⟩
theorem cb130 : Callable Try.prog 130 := ⟨_, _, Try.func130, by decide, rfl⟩
theorem cb131 : Callable Try.prog 131 := ⟨_, _, Try.func131, by decide, rfl⟩
theorem cb132 : Callable Try.prog 132 := ⟨_, _, Try.func132, by decide, rfl⟩
theorem cb133 : Callable Try.prog 133 := ⟨_, _, Try.func133, by decide, rfl⟩
theorem cb134 : Callable Try.prog 134 := ⟨_, _, Try.func134, by decide, rfl⟩
theorem cb135 : Callable Try.prog 135 := ⟨_, _, Try.func135, by decide, rfl⟩
theorem cb136 : Callable Try.prog 136 := ⟨_, _, Try.func136, by decide, rfl⟩
theorem cb137 : Callable Try.prog 137 := ⟨_, _, Try.func137, by decide, rfl⟩
theorem cb138 : Callable Try.prog 138 := ⟨_, _, Try.func138, by decide, rfl⟩
theorem cb139 : Callable Try.prog 139 := ⟨_, _, Try.func139, by decide, rfl⟩
theorem cb169 : Callable Try.prog 169 := ⟨_, _, Try.func169, by decide, rfl⟩
theorem cb170 : Callable Try.prog 170 := ⟨_, _, Try.func170, by decide, rfl⟩
theorem cb171 : Callable Try.prog 171 := ⟨_, _, Try.func171, by decide, rfl⟩
theorem cb173 : Callable Try.prog 173 := ⟨_, _, Try.func173, by decide, rfl⟩
theorem cb174 : Callable Try.prog 174 := ⟨_, _, Try.func174, by decide, rfl⟩
theorem cb175 : Callable Try.prog 175 := ⟨_, _, Try.func175, by decide, rfl⟩
theorem cb176 : Callable Try.prog 176 := ⟨_, _, Try.func176, by decide, rfl⟩
theorem cb179 : Callable Try.prog 179 := ⟨_, _, Try.func179, by decide, rfl⟩
theorem cb180 : Callable Try.prog 180 := ⟨_, _, Try.func180, by decide, rfl⟩
theorem cb181 : Callable Try.prog 181 := ⟨_, _, Try.func181, by decide, rfl⟩
theorem cb182 : Callable Try.prog 182 := ⟨_, _, Try.func182, by decide, rfl⟩
theorem cb183 : Callable Try.prog 183 := ⟨_, _, Try.func183, by decide, rfl⟩
theorem cb184 : Callable Try.prog 184 := ⟨_, _, Try.func184, by decide, rfl⟩
theorem cb185 : Callable Try.prog 185 := ⟨_, _, Try.func185, by decide, rfl⟩
theorem cb186 : Callable Try.prog 186 := ⟨_, _, Try.func186, by decide, rfl⟩
theorem cb187 : Callable Try.prog 187 := ⟨_, _, Try.func187, by decide, rfl⟩
theorem cb188 : Callable Try.prog 188 := ⟨_, _, Try.func188, by decide, rfl⟩
theorem cb189 : Callable Try.prog 189 := ⟨_, _, Try.func189, by decide, rfl⟩
theorem cb190 : Callable Try.prog 190 := ⟨_, _, Try.func190, by decide, rfl⟩
theorem cb197 : Callable Try.prog 197 := ⟨_, _, Try.func197, by decide, rfl⟩
theorem cb198 : Callable Try.prog 198 := ⟨_, _, Try.func198, by decide, rfl⟩
theorem cb199 : Callable Try.prog 199 := ⟨_, _, Try.func199, by decide, rfl⟩
theorem cb200 : Callable Try.prog 200 := ⟨_, _, Try.func200, by decide, rfl⟩
theorem cb202 : Callable Try.prog 202 := ⟨_, _, Try.func202, by decide, rfl⟩
noncomputable def F_laws_szByteS (p0 : (List UInt8)) (p1 : Int) : Option (Int) :=
  if (decide ((wr (p1 - (p0.length : Int))) < 0)) = true then (some (-1)) else (some (wr (p1 - (p0.length : Int))))
set_option maxRecDepth 20000 in
set_option maxHeartbeats 400000 in
theorem c_laws_szByteS (w0 : World) (p0 : (List UInt8)) (v0_1 : Value) (hv0_1 : Ro w0 p0 [v0_1]) (p1 : Int) (r : Int) (hF : F_laws_szByteS p0 p1 = some r) :
    Calls Try.prog 75 [v0_1, (vI p1)].toArray w0 (fun en w' => ∃ v, en = .returned v ∧ (v = (vI r) ∧ Kept (Old w0) w0 w')) := by
  refine c_enter (n := 12) Try.func75 rfl rfl (Nat.le_of_ble_eq_true rfl) rfl ?_
  intro a hE
  have hM := M.start w0
  unfold F_laws_szByteS at hF
  refine c_region ?_
  refine s_assign hE goes_none (by decide) rfl ?_; intro a hE
  refine c_fin ?_
  refine c_region ?_
  refine s_move hE goes_none (by decide) rfl ?_; intro a hE
  refine s_move hE goes_none (by decide) rfl ?_; intro a hE
  refine s_len hE goes_none (by decide) rfl Try.underlying24 (hM.rd hv0_1) ?_; intro a hE
  refine s_int hE goes_none (by decide) rfl rfl rfl ?_; intro a hE
  refine s_assign hE goes_none (by decide) rfl ?_; intro a hE
  refine c_fin ?_
  refine wp_seq ?_
  refine c_region ?_
  refine s_move hE goes_none (by decide) rfl ?_; intro a hE
  refine s_int hE goes_none (by decide) rfl rfl rfl ?_; intro a hE
  refine c_fin ?_
  refine c_cond hE rfl ?_ ?_
  · intro hb1
    have hF := ite_t hF hb1
    refine c_region ?_
    refine s_assign hE goes_none (by decide) rfl ?_; intro a hE
    refine c_fin ?_
    have hr := Option.some.inj hF
    subst hr
    exact wp_ret (r_then (k_ret1 hE rfl (res_tmp hE rfl) ⟨_, rfl, rfl, hM.kept⟩))
  · intro hb1
    have hF := ite_f hF hb1
    refine wp_skip ?_
    refine c_nx ?_
    refine c_region ?_
    refine s_move hE goes_none (by decide) rfl ?_; intro a hE
    refine s_assign hE goes_none (by decide) rfl ?_; intro a hE
    refine c_fin ?_
    have hr := Option.some.inj hF
    subst hr
    exact wp_ret (k_ret1 hE rfl (res_tmp hE rfl) ⟨_, rfl, rfl, hM.kept⟩)
noncomputable def F_laws_szShare (p0 : GShare) (p1 : Int) : Option (Int) :=
  (F_laws_szByteS p0.Data p1).bind fun (r3 : Int) => if (decide (r3 < 0)) = true then (some (-1)) else (some r3)
set_option maxRecDepth 20000 in
set_option maxHeartbeats 400000 in
theorem c_laws_szShare (w0 : World) (p0 : GShare) (v0_1 : Value) (hv0_1 : Ro w0 p0.Data [v0_1]) (p1 : Int) (r : Int) (hF : F_laws_szShare p0 p1 = some r) :
    Calls Try.prog 65 [(Value.agg (cat [[(vB p0.Place)], [v0_1]]).toArray), (vI p1)].toArray w0 (fun en w' => ∃ v, en = .returned v ∧ (v = (vI r) ∧ Kept (Old w0) w0 w')) := by
  refine c_enter (n := 12) Try.func65 rfl rfl (Nat.le_of_ble_eq_true rfl) rfl ?_
  intro a hE
  have hM := M.start w0
  unfold F_laws_szShare at hF
  refine c_region ?_
  refine s_box (cs := cat [[(vB p0.Place)], [v0_1]]) hE hM goes_none (by decide) rfl rfl ?_; intro b1 w a hM hE
  refine s_assign hE goes_none (by decide) rfl ?_; intro a hE
  refine c_fin ?_
  refine c_region ?_
  refine s_fieldAddr hE goes_none (by decide) rfl (fd94_1) ?_; intro a hE
  refine s_load (v := v0_1) hE goes_none (by decide) rfl ty24 rfl (At.cat (pre := [[(vB p0.Place)]]) (seg := [v0_1]) (post := []) (hM.rawAt (pre := [])) (cl1 (n := 1) (m := 0) rfl cl0)) ?_; intro a hE
  refine s_move hE goes_none (by decide) rfl ?_; intro a hE
  obtain ⟨r3, e4, hF⟩ := bind_some hF
  refine s_call (vs := [v0_1, (vI p1)]) hE goes_none (by decide) rfl cb75 (c_laws_szByteS _ p0.Data v0_1 (hM.rdo hv0_1) p1 r3 e4) ?_
  rintro v w a ⟨rfl, hK⟩ hE
  have hM := hM.keep hK
  refine s_assign hE goes_none (by decide) rfl ?_; intro a hE
  refine c_fin ?_
  refine wp_seq ?_
  refine c_region ?_
  refine s_move hE goes_none (by decide) rfl ?_; intro a hE
  refine s_int hE goes_none (by decide) rfl rfl rfl ?_; intro a hE
  refine c_fin ?_
  refine c_cond hE rfl ?_ ?_
  · intro hb5
    have hF := ite_t hF hb5
    refine c_region ?_
    refine s_assign hE goes_none (by decide) rfl ?_; intro a hE
    refine c_fin ?_
    have hr := Option.some.inj hF
    subst hr
    have hM := M.fst (l := []) hM
    exact wp_ret (r_then (k_ret1 hE rfl (res_tmp hE rfl) ⟨_, rfl, rfl, hM.kept⟩))
  · intro hb5
    have hF := ite_f hF hb5
    refine wp_skip ?_
    refine c_nx ?_
    refine c_region ?_
    refine s_move hE goes_none (by decide) rfl ?_; intro a hE
    refine s_assign hE goes_none (by decide) rfl ?_; intro a hE
    refine c_fin ?_
    have hr := Option.some.inj hF
    subst hr
    have hM := M.fst (l := []) hM
    exact wp_ret (k_ret1 hE rfl (res_tmp hE rfl) ⟨_, rfl, rfl, hM.kept⟩)
noncomputable def L0_laws_szShareS (p0 : (List GShare)) (s6 : Int × Int) : Option (Fl (Int × Int) (Fl Int Int)) :=
  if (decide (s6.2 < (p0.length : Int))) = true then ((idx p0 s6.2).bind fun (x11 : GShare) => (F_laws_szShare x11 s6.1).bind fun (r19 : Int) => if (decide (r19 < 0)) = true then (some (Fl.ex (Fl.ex (-1)))) else (some (Fl.nx (r19, wr (s6.2 + 1))))) else (some (Fl.ex (Fl.nx s6.1)))
noncomputable def F_laws_szShareS (p0 : (List GShare)) (p1 : Int) : Option (Int) :=
  if (decide ((wr (p1 - (p0.length : Int))) < 0)) = true then (some (-1)) else ((iter (L0_laws_szShareS p0) (wr (p1 - (p0.length : Int)), 0) : Option (Fl Int Int)).bind fun (j2 : Fl Int Int) => j2.el (fun (s5 : Int) => some s5) (fun r => some r))
set_option maxRecDepth 20000 in
set_option maxHeartbeats 400000 in
theorem c_laws_szShareS (w0 : World) (p0 : (List GShare)) (v0_1 : Value) (hv0_1 : Ro w0 p0 [v0_1]) (p1 : Int) (r : Int) (hF : F_laws_szShareS p0 p1 = some r) :
    Calls Try.prog 15 [v0_1, (vI p1)].toArray w0 (fun en w' => ∃ v, en = .returned v ∧ (v = (vI r) ∧ Kept (Old w0) w0 w')) := by
  refine c_enter (n := 27) Try.func15 rfl rfl (Nat.le_of_ble_eq_true rfl) rfl ?_
  intro a hE
  have hM := M.start w0
  unfold F_laws_szShareS at hF
  refine c_region ?_
  refine s_assign hE goes_none (by decide) rfl ?_; intro a hE
  refine c_fin ?_
  refine c_region ?_
  refine s_move hE goes_none (by decide) rfl ?_; intro a hE
  refine s_move hE goes_none (by decide) rfl ?_; intro a hE
  refine s_len hE goes_none (by decide) rfl Try.underlying22 (hM.rd hv0_1) ?_; intro a hE
  refine s_int hE goes_none (by decide) rfl rfl rfl ?_; intro a hE
  refine s_assign hE goes_none (by decide) rfl ?_; intro a hE
  refine c_fin ?_
  refine wp_seq ?_
  refine c_region ?_
  refine s_move hE goes_none (by decide) rfl ?_; intro a hE
  refine s_int hE goes_none (by decide) rfl rfl rfl ?_; intro a hE
  refine c_fin ?_
  refine c_cond hE rfl ?_ ?_
  · intro hb1
    have hF := ite_t hF hb1
    refine c_region ?_
    refine s_assign hE goes_none (by decide) rfl ?_; intro a hE
    refine c_fin ?_
    have hr := Option.some.inj hF
    subst hr
    exact wp_ret (r_then (k_ret1 hE rfl (res_tmp hE rfl) ⟨_, rfl, rfl, hM.kept⟩))
  · intro hb1
    have hF := ite_f hF hb1
    refine wp_skip ?_
    refine c_nx ?_
    refine wp_seq ?_
    refine c_region ?_
    refine s_assign hE goes_none (by decide) rfl ?_; intro a hE
    refine c_fin ?_
    obtain ⟨j2, hl3, hF4⟩ := bind_some hF
    refine c_cut (fun a w => ∃ s5 : Int, j2 = Fl.nx s5 ∧ Env 27 a [(1, (vI s5))] ∧ M (Old w0) w0 w []) ?_ ?_
    · skip
      refine wp_block ?_
      refine c_loop (fun (s6 : Int × Int) a w => Env 27 a [(0, v0_1), (1, (vI s6.1)), (5, (vI s6.2))] ∧ M (Old w0) w0 w []) hl3 ⟨hE.sub ⟨rfl, rfl, rfl, trivial⟩, hM⟩ ?_
      rintro s6 a w ⟨hE, hM⟩ o9 hs7 hx8
      unfold L0_laws_szShareS at hs7
      refine wp_seq ?_
      refine c_region ?_
      refine s_move hE goes_none (by decide) rfl ?_; intro a hE
      refine s_move hE goes_none (by decide) rfl ?_; intro a hE
      refine s_len hE goes_none (by decide) rfl Try.underlying22 (hM.rd hv0_1) ?_; intro a hE
      refine s_int hE goes_none (by decide) rfl rfl rfl ?_; intro a hE
      refine c_fin ?_
      refine c_cond hE rfl ?_ ?_
      · intro hb10
        have hs7 := ite_t hs7 hb10
        refine wp_skip ?_
        refine c_nx ?_
        refine wp_seq ?_
        refine wp_block ?_
        refine c_region ?_
        refine s_move hE goes_none (by decide) rfl ?_; intro a hE
        refine s_move hE goes_none (by decide) rfl ?_; intro a hE
        obtain ⟨x11, e12, hs7⟩ := bind_some hs7
        have hi13 := idx_some e12
        refine s_indexS hE goes_none (by decide) rfl rfl Try.underlying22 ty94 (hM.rd hv0_1) hi13.1 ?_; intro a hE
        obtain ⟨cs14, hs15, hA16⟩ := sl_atRo hv0_1 hi13.2 -- ^
        obtain ⟨u17, rfl, h18⟩ := un_GShare hs15 -- ^
        refine s_loadA (cs := cat [[(vB x11.Place)], [u17]]) hE goes_none (by decide) rfl ty94 rfl (hM.atk hA16 (sl_blk hv0_1 hi13.2)) (cat_len (cl1 (n := 1) (m := 1) rfl (cl1 (n := 1) (m := 0) rfl cl0))) ?_; intro a hE
        refine s_move hE goes_none (by decide) rfl ?_; intro a hE
        obtain ⟨r19, e20, hs7⟩ := bind_some hs7
        refine s_call (vs := [(Value.agg (cat [[(vB x11.Place)], [u17]]).toArray), (vI s6.1)]) hE goes_none (by decide) rfl cb65 (c_laws_szShare _ x11 u17 (hM.rdo h18) s6.1 r19 e20) ?_
        rintro v w a ⟨rfl, hK⟩ hE
        have hM := hM.keep hK
        refine s_assign hE goes_none (by decide) rfl ?_; intro a hE
        refine c_fin ?_
        refine c_region ?_
        refine s_move hE goes_none (by decide) rfl ?_; intro a hE
        refine s_int hE goes_none (by decide) rfl rfl rfl ?_; intro a hE
        refine c_fin ?_
        refine c_cond hE rfl ?_ ?_
        · intro hb21
          have hs7 := ite_t hs7 hb21
          refine c_region ?_
          refine s_assign hE goes_none (by decide) rfl ?_; intro a hE
          refine c_fin ?_
          have ht22 := hx8 _ (Option.some.inj hs7).symm
          subst ht22
          have hr := Option.some.inj hF4
          subst hr
          exact wp_ret (r_inb (r_then (r_then (r_inb (r_then (r_then (k_ret1 hE rfl (res_tmp hE rfl) ⟨_, rfl, rfl, hM.kept⟩)))))))
        · intro hb21
          have hs7 := ite_f hs7 hb21
          refine wp_skip ?_
          refine c_nb ?_
          refine c_nx ?_
          refine wp_region_lit ?_
          refine s_move hE goes_none (by decide) rfl ?_; intro a hE
          refine s_int hE goes_none (by decide) rfl rfl rfl ?_; intro a hE
          refine s_assign hE goes_none (by decide) rfl ?_; intro a hE
          refine c_fin0 ?_
          refine c_mid ?_
          exact ⟨_, (Option.some.inj hs7).symm, hE.sub ⟨rfl, rfl, rfl, trivial⟩, hM⟩
      · intro hb10
        have hs7 := ite_f hs7 hb10
        refine wp_exit (e_then (e_then (e_eq ?_)))
        have ht23 := hx8 _ (Option.some.inj hs7).symm
        subst ht23
        refine c_mid ?_
        exact ⟨s6.1, rfl, hE.sub ⟨rfl, trivial⟩, hM⟩
    · skip
      rintro a w ⟨s5, ht, hE, hM⟩
      subst ht
      have hF4 := el_nx hF4
      refine c_nx ?_
      refine c_region ?_
      refine s_move hE goes_none (by decide) rfl ?_; intro a hE
      refine s_assign hE goes_none (by decide) rfl ?_; intro a hE
      refine c_fin ?_
      have hr := Option.some.inj hF4
      subst hr
      exact wp_ret (k_ret1 hE rfl (res_tmp hE rfl) ⟨_, rfl, rfl, hM.kept⟩)
noncomputable def L0_laws_toByteS (p0 : (List UInt8)) (s10 : (List UInt8) × Int) : Option (Fl ((List UInt8) × Int) (List UInt8)) :=
  if (decide (s10.2 < (p0.length : Int))) = true then ((idx p0 s10.2).bind fun (x17 : UInt8) => (idx s10.1 s10.2).bind fun (x20 : UInt8) => some (Fl.nx ((s10.1.set (s10.2).toNat x17), wr (s10.2 + 1)))) else (some (Fl.ex s10.1))
noncomputable def F_laws_toByteS (p0 : (List UInt8)) : Option ((List UInt8)) :=
  (mkS 1 (0 : UInt8) (p0.length : Int)).bind fun (l1 : (List UInt8)) => (iter (L0_laws_toByteS p0) (l1, 0) : Option ((List UInt8))).bind fun (j5 : (List UInt8)) => some j5
set_option maxRecDepth 20000 in
set_option maxHeartbeats 400000 in
theorem c_laws_toByteS (w0 : World) (p0 : (List UInt8)) (v0_1 : Value) (hv0_1 : Ro w0 p0 [v0_1]) (r : (List UInt8)) (hF : F_laws_toByteS p0 = some r) :
    Calls Try.prog 80 [v0_1].toArray w0 (fun en w' => ∃ v, en = .returned v ∧ (∃ (y1 : Value), v = y1 ∧ Fr w0 w' [osl NoB (r : List UInt8) y1] ∧ Kept (Old w0) w0 w')) := by
  refine c_enter (n := 22) Try.func80 rfl rfl (Nat.le_of_ble_eq_true rfl) rfl ?_
  intro a hE
  have hM := M.start w0
  unfold F_laws_toByteS at hF
  refine c_region ?_
  refine s_assign hE goes_none (by decide) rfl ?_; intro a hE
  refine c_fin ?_
  refine c_region ?_
  refine s_move hE goes_none (by decide) rfl ?_; intro a hE
  refine s_len hE goes_none (by decide) rfl Try.underlying24 (hM.rd hv0_1) ?_; intro a hE
  obtain ⟨l1, e2, hF⟩ := bind_some hF
  refine s_make hE hM goes_none (by decide) rfl rfl Try.underlying24 ty5 rfl (by decide) (fun _ => sat_flat.2 ⟨rfl, rfl⟩) e2 ?_; intro u3 w a hM hE
  refine s_assign hE goes_none (by decide) rfl ?_; intro a hE
  refine c_fin ?_
  refine wp_seq ?_
  refine c_region ?_
  refine s_assign hE goes_none (by decide) rfl ?_; intro a hE
  refine c_fin ?_
  obtain ⟨j5, hl6, hF7⟩ := bind_some hF
  refine c_cut (fun a w => ∃ (u8 : Value), Env 22 a [(3, u8)] ∧ M (Old w0) w0 w [osl NoB (j5 : List UInt8) u8]) ?_ ?_
  · skip
    refine wp_block ?_
    refine c_loop (fun (s10 : (List UInt8) × Int) a w => ∃ (u11 : Value), Env 22 a [(0, v0_1), (3, u11), (4, (vI s10.2))] ∧ M (Old w0) w0 w [osl NoB (s10.1 : List UInt8) u11]) hl6 ⟨u3, hE.sub ⟨rfl, rfl, rfl, trivial⟩, hM⟩ ?_
    rintro s10 a w ⟨u11, hE, hM⟩ o15 hs13 hx14
    unfold L0_laws_toByteS at hs13
    refine wp_seq ?_
    refine c_region ?_
    refine s_move hE goes_none (by decide) rfl ?_; intro a hE
    refine s_move hE goes_none (by decide) rfl ?_; intro a hE
    refine s_len hE goes_none (by decide) rfl Try.underlying24 (hM.rd hv0_1) ?_; intro a hE
    refine s_int hE goes_none (by decide) rfl rfl rfl ?_; intro a hE
    refine c_fin ?_
    refine c_cond hE rfl ?_ ?_
    · intro hb16
      have hs13 := ite_t hs13 hb16
      refine wp_skip ?_
      refine c_nx ?_
      refine wp_seq ?_
      refine wp_block ?_
      refine wp_region_lit ?_
      refine s_move hE goes_none (by decide) rfl ?_; intro a hE
      refine s_move hE goes_none (by decide) rfl ?_; intro a hE
      refine s_move hE goes_none (by decide) rfl ?_; intro a hE
      refine s_move hE goes_none (by decide) rfl ?_; intro a hE
      obtain ⟨x17, e18, hs13⟩ := bind_some hs13
      have hi19 := idx_some e18
      refine s_indexS hE goes_none (by decide) rfl rfl Try.underlying24 ty5 (hM.rd hv0_1) hi19.1 ?_; intro a hE
      refine s_load (v := (vB x17)) hE goes_none (by decide) rfl ty5 rfl (sl_atF (hM.rd hv0_1) hi19.2) ?_; intro a hE
      obtain ⟨x20, e21, hs13⟩ := bind_some hs13
      have hi22 := idx_some e21
      refine s_indexS hE goes_none (by decide) rfl rfl Try.underlying24 ty5 (hM.sl (pre := []) noB) hi22.1 ?_; intro a hE
      refine s_storeS (i := (s10.2).toNat) (k0 := 0) (seg := [(vB x17)]) (xo := x20) (xn := x17) hE hM goes_none rfl rfl rfl ty5 rfl (Flat.cell (x17 : UInt8)) hi22.2 (fit_num (m := 1) rfl (by decide)) (splice_all (Eq.trans rfl (Eq.symm rfl))) ?_; intro w a hM hE
      refine c_fin0 ?_
      refine c_nb ?_
      refine c_nx ?_
      refine wp_region_lit ?_
      refine s_move hE goes_none (by decide) rfl ?_; intro a hE
      refine s_int hE goes_none (by decide) rfl rfl rfl ?_; intro a hE
      refine s_assign hE goes_none (by decide) rfl ?_; intro a hE
      refine c_fin0 ?_
      refine c_mid ?_
      exact ⟨_, (Option.some.inj hs13).symm, u11, hE.sub ⟨rfl, rfl, rfl, trivial⟩, hM⟩
    · intro hb16
      have hs13 := ite_f hs13 hb16
      refine wp_exit (e_then (e_then (e_eq ?_)))
      have ht23 := hx14 _ (Option.some.inj hs13).symm
      subst ht23
      refine c_mid ?_
      exact ⟨u11, hE.sub ⟨rfl, trivial⟩, hM⟩
  · skip
    rintro a w ⟨u8, hE, hM⟩
    refine c_nx ?_
    refine c_region ?_
    refine s_move hE goes_none (by decide) rfl ?_; intro a hE
    refine s_assign hE goes_none (by decide) rfl ?_; intro a hE
    refine c_fin ?_
    have hr := Option.some.inj hF7
    subst hr
    exact wp_ret (k_ret1 hE rfl (res_tmp hE rfl) ⟨_, rfl, u8, rfl, hM.outF (locN1 locN0), hM.kept⟩)
noncomputable def F_laws_toShare (p0 : GShare) : Option (GShare) :=
  (F_laws_toByteS p0.Data).bind fun (r7 : (List UInt8)) => some (⟨p0.Place, r7⟩ : GShare)
set_option maxRecDepth 20000 in
set_option maxHeartbeats 400000 in
theorem c_laws_toShare (w0 : World) (p0 : GShare) (v0_1 : Value) (hv0_1 : Ro w0 p0.Data [v0_1]) (r : GShare) (hF : F_laws_toShare p0 = some r) :
    Calls Try.prog 69 [(Value.agg (cat [[(vB p0.Place)], [v0_1]]).toArray)].toArray w0 (fun en w' => ∃ v, en = .returned v ∧ (∃ (y1 : Value), v = (Value.agg (cat [[(vB r.Place)], [y1]]).toArray) ∧ Fr w0 w' [osl NoB (r.Data : List UInt8) y1] ∧ Kept (Old w0) w0 w')) := by
  refine c_enter (n := 12) Try.func69 rfl rfl (Nat.le_of_ble_eq_true rfl) rfl ?_
  intro a hE
  have hM := M.start w0
  unfold F_laws_toShare at hF
  refine c_region ?_
  refine s_box (cs := cat [[(vB p0.Place)], [v0_1]]) hE hM goes_none (by decide) rfl rfl ?_; intro b1 w a hM hE
  refine s_alloc hE hM goes_none (by decide) ty26 ?_; intro b3 w a hM hE
  refine c_fin ?_
  refine c_region ?_
  refine s_alloc hE hM goes_none (by decide) ty26 ?_; intro b5 w a hM hE
  refine c_fin ?_
  refine c_region ?_
  refine s_fieldAddr hE goes_none (by decide) rfl (fd94_0) ?_; intro a hE
  refine s_load (v := (vB p0.Place)) hE goes_none (by decide) rfl ty5 rfl (At.cat (pre := []) (seg := [(vB p0.Place)]) (post := [[v0_1]]) (hM.rawAt (pre := [_, _])) cl0) ?_; intro a hE
  refine s_fieldAddr hE goes_none (by decide) rfl (fd26_0) ?_; intro a hE
  refine s_store (seg := [(vB p0.Place)]) (cs' := cat [[(vB p0.Place)], [(Value.slice none 0 0)]]) hE hM goes_none rfl rfl rfl ty5 rfl (fit_cat (pre := []) (seg := [(vB 0)]) (post := [[(Value.slice none 0 0)]]) cl0 (Eq.trans rfl (Eq.symm rfl))) (Flat.cell (p0.Place : UInt8)) (splice_cat (pre := []) (seg := [(vB 0)]) (post := [[(Value.slice none 0 0)]]) cl0 (Eq.trans rfl (Eq.symm rfl))) ?_; intro w a hM hE
  refine c_fin ?_
  refine c_region ?_
  refine s_fieldAddr hE goes_none (by decide) rfl (fd94_1) ?_; intro a hE
  refine s_load (v := v0_1) hE goes_none (by decide) rfl ty24 rfl (At.cat (pre := [[(vB p0.Place)]]) (seg := [v0_1]) (post := []) (hM.rawAt (pre := [_, _])) (cl1 (n := 1) (m := 0) rfl cl0)) ?_; intro a hE
  obtain ⟨r7, e8, hF⟩ := bind_some hF
  refine s_call (vs := [v0_1]) hE goes_none (by decide) rfl cb80 (c_laws_toByteS _ p0.Data v0_1 (hM.rdo hv0_1) r7 e8) ?_
  rintro u9 w a ⟨_, rfl, hFr, hK⟩ hE
  have hM := hM.add hK hFr
  refine s_fieldAddr hE goes_none (by decide) rfl (fd26_1) ?_; intro a hE
  have hM := hM.pull (pre := [_])
  refine s_store (seg := [u9]) (cs' := cat [[(vB p0.Place)], [u9]]) hE hM goes_none rfl rfl (sl_cells (hM.sl (pre := [_]) noB)) ty24 rfl (fit_cat (pre := [[(vB p0.Place)]]) (seg := [(Value.slice none 0 0)]) (post := []) (cl1 (n := 1) (m := 0) rfl cl0) (Eq.trans rfl (Eq.symm rfl))) (Rep.cell (hM.sl (pre := [_]) noB)) (splice_cat (pre := [[(vB p0.Place)]]) (seg := [(Value.slice none 0 0)]) (post := []) (cl1 (n := 1) (m := 0) rfl cl0) (Eq.trans rfl (Eq.symm rfl))) ?_; intro w a hM hE
  refine c_fin ?_
  refine c_region ?_
  refine s_loadA (cs := cat [[(vB p0.Place)], [u9]]) hE goes_none (by decide) rfl ty26 rfl (hM.rawAt (pre := [])) (cat_len (cl1 (n := 1) (m := 1) rfl (cl1 (n := 1) (m := 0) rfl cl0))) ?_; intro a hE
  have hM := hM.pull (pre := [_, _])
  refine s_store (seg := cat [[(vB p0.Place)], [u9]]) (cs' := cat [[(vB p0.Place)], [u9]]) hE hM goes_none rfl rfl rfl ty26 (cat_len (cl1 (n := 1) (m := 1) rfl (cl1 (n := 1) (m := 0) rfl cl0))) (Nat.le_of_eq ((Nat.zero_add _).trans (Eq.trans (cat_len (cl1 (n := 1) (m := 1) rfl (cl1 (n := 1) (m := 0) rfl cl0))) (Eq.symm (cat_len (cl1 (n := 1) (m := 1) rfl (cl1 (n := 1) (m := 0) rfl cl0))))))) (cat_cell (cc1 (Flat.cell (p0.Place : UInt8)) (cc1 (Rep.cell (hM.sl (pre := [_, _]) noB)) cc0))) (splice_all (Eq.trans (cat_len (cl1 (n := 1) (m := 1) rfl (cl1 (n := 1) (m := 0) rfl cl0))) (Eq.symm (cat_len (cl1 (n := 1) (m := 1) rfl (cl1 (n := 1) (m := 0) rfl cl0)))))) ?_; intro w a hM hE
  refine c_fin ?_
  have hr := Option.some.inj hF
  subst hr
  have hq10 : ResIs Try.prog _ _ (.cell 2 26) _ := res_cell hE rfl ty26 rfl (hM.rawAt (pre := [])) (cat_len (cl1 (n := 1) (m := 1) rfl (cl1 (n := 1) (m := 0) rfl cl0))) rfl
  have hM := hM.pull (pre := [_, _])
  have hM := M.fst (l := [_]) hM
  exact wp_ret (k_ret1 hE rfl hq10 ⟨_, rfl, u9, rfl, hM.outF (locN1 locN0), hM.kept⟩)
noncomputable def L0_laws_toShareS (p0 : (List GShare)) (s10 : (List GShare) × Int) : Option (Fl ((List GShare) × Int) (List GShare)) :=
  if (decide (s10.2 < (p0.length : Int))) = true then ((idx p0 s10.2).bind fun (x17 : GShare) => (F_laws_toShare x17).bind fun (r25 : GShare) => (idx s10.1 s10.2).bind fun (x28 : GShare) => some (Fl.nx ((s10.1.set (s10.2).toNat r25), wr (s10.2 + 1)))) else (some (Fl.ex s10.1))
noncomputable def F_laws_toShareS (p0 : (List GShare)) : Option ((List GShare)) :=
  (mkS 32 (⟨(0 : UInt8), ([] : (List UInt8))⟩ : GShare) (p0.length : Int)).bind fun (l1 : (List GShare)) => (iter (L0_laws_toShareS p0) (l1, 0) : Option ((List GShare))).bind fun (j5 : (List GShare)) => some j5
set_option maxRecDepth 20000 in
set_option maxHeartbeats 400000 in
theorem c_laws_toShareS (w0 : World) (p0 : (List GShare)) (v0_1 : Value) (hv0_1 : Ro w0 p0 [v0_1]) (r : (List GShare)) (hF : F_laws_toShareS p0 = some r) :
    Calls Try.prog 17 [v0_1].toArray w0 (fun en w' => ∃ v, en = .returned v ∧ (∃ (y1 : Value), v = y1 ∧ Fr w0 w' [osl NoB (r : List GShare) y1] ∧ Kept (Old w0) w0 w')) := by
  refine c_enter (n := 23) Try.func17 rfl rfl (Nat.le_of_ble_eq_true rfl) rfl ?_
  intro a hE
  have hM := M.start w0
  unfold F_laws_toShareS at hF
  refine c_region ?_
  refine s_assign hE goes_none (by decide) rfl ?_; intro a hE
  refine c_fin ?_
  refine c_region ?_
  refine s_move hE goes_none (by decide) rfl ?_; intro a hE
  refine s_len hE goes_none (by decide) rfl Try.underlying22 (hM.rd hv0_1) ?_; intro a hE
  obtain ⟨l1, e2, hF⟩ := bind_some hF
  refine s_make hE hM goes_none (by decide) rfl rfl Try.underlying29 ty26 rfl (by decide) zsat_GShare e2 ?_; intro u3 w a hM hE
  refine s_assign hE goes_none (by decide) rfl ?_; intro a hE
  refine c_fin ?_
  refine wp_seq ?_
  refine c_region ?_
  refine s_assign hE goes_none (by decide) rfl ?_; intro a hE
  refine c_fin ?_
  obtain ⟨j5, hl6, hF7⟩ := bind_some hF
  refine c_cut (fun a w => ∃ (u8 : Value), Env 23 a [(3, u8)] ∧ M (Old w0) w0 w [osl NoB (j5 : List GShare) u8]) ?_ ?_
  · skip
    refine wp_block ?_
    refine c_loop (fun (s10 : (List GShare) × Int) a w => ∃ (u11 : Value), Env 23 a [(0, v0_1), (3, u11), (4, (vI s10.2))] ∧ M (Old w0) w0 w [osl NoB (s10.1 : List GShare) u11]) hl6 ⟨u3, hE.sub ⟨rfl, rfl, rfl, trivial⟩, hM⟩ ?_
    rintro s10 a w ⟨u11, hE, hM⟩ o15 hs13 hx14
    unfold L0_laws_toShareS at hs13
    refine wp_seq ?_
    refine c_region ?_
    refine s_move hE goes_none (by decide) rfl ?_; intro a hE
    refine s_move hE goes_none (by decide) rfl ?_; intro a hE
    refine s_len hE goes_none (by decide) rfl Try.underlying22 (hM.rd hv0_1) ?_; intro a hE
    refine s_int hE goes_none (by decide) rfl rfl rfl ?_; intro a hE
    refine c_fin ?_
    refine c_cond hE rfl ?_ ?_
    · intro hb16
      have hs13 := ite_t hs13 hb16
      refine wp_skip ?_
      refine c_nx ?_
      refine wp_seq ?_
      refine wp_block ?_
      refine wp_region_lit ?_
      refine s_move hE goes_none (by decide) rfl ?_; intro a hE
      refine s_move hE goes_none (by decide) rfl ?_; intro a hE
      refine s_move hE goes_none (by decide) rfl ?_; intro a hE
      refine s_move hE goes_none (by decide) rfl ?_; intro a hE
      obtain ⟨x17, e18, hs13⟩ := bind_some hs13
      have hi19 := idx_some e18
      refine s_indexS hE goes_none (by decide) rfl rfl Try.underlying22 ty94 (hM.rd hv0_1) hi19.1 ?_; intro a hE
      obtain ⟨cs20, hs21, hA22⟩ := sl_atRo hv0_1 hi19.2 -- ^
      obtain ⟨u23, rfl, h24⟩ := un_GShare hs21 -- ^
      refine s_loadA (cs := cat [[(vB x17.Place)], [u23]]) hE goes_none (by decide) rfl ty94 rfl (hM.atk hA22 (sl_blk hv0_1 hi19.2)) (cat_len (cl1 (n := 1) (m := 1) rfl (cl1 (n := 1) (m := 0) rfl cl0))) ?_; intro a hE
      obtain ⟨r25, e26, hs13⟩ := bind_some hs13
      refine s_call (vs := [(Value.agg (cat [[(vB x17.Place)], [u23]]).toArray)]) hE goes_none (by decide) rfl cb69 (c_laws_toShare _ x17 u23 (hM.rdo h24) r25 e26) ?_
      rintro v w a ⟨u27, rfl, hFr, hK⟩ hE
      have hM := hM.add hK hFr
      obtain ⟨x28, e29, hs13⟩ := bind_some hs13
      have hi30 := idx_some e29
      refine s_indexS hE goes_none (by decide) rfl rfl Try.underlying29 ty26 (hM.sl (pre := [_]) noB) hi30.1 ?_; intro a hE
      have hM := hM.pack1 (it := own NoB r25 (cat [[(vB r25.Place)], [u27]])) (own_loc noB) (fun f0 q0 => (pk_GShare (OwnSl.sat q0) (by simp)))
      have hM := hM.pull (pre := [_])
      have hM := hM.pull (pre := [_])
      refine s_storeR (i := (s10.2).toNat) (seg := cat [[(vB r25.Place)], [u27]]) hE hM noB goes_none rfl rfl rfl ty26 (by omega) ?_; intro w a hM hE
      refine c_fin0 ?_
      refine c_nb ?_
      refine c_nx ?_
      refine wp_region_lit ?_
      refine s_move hE goes_none (by decide) rfl ?_; intro a hE
      refine s_int hE goes_none (by decide) rfl rfl rfl ?_; intro a hE
      refine s_assign hE goes_none (by decide) rfl ?_; intro a hE
      refine c_fin0 ?_
      refine c_mid ?_
      exact ⟨_, (Option.some.inj hs13).symm, u11, hE.sub ⟨rfl, rfl, rfl, trivial⟩, hM⟩
    · intro hb16
      have hs13 := ite_f hs13 hb16
      refine wp_exit (e_then (e_then (e_eq ?_)))
      have ht31 := hx14 _ (Option.some.inj hs13).symm
      subst ht31
      refine c_mid ?_
      exact ⟨u11, hE.sub ⟨rfl, trivial⟩, hM⟩
  · skip
    rintro a w ⟨u8, hE, hM⟩
    refine c_nx ?_
    refine c_region ?_
    refine s_move hE goes_none (by decide) rfl ?_; intro a hE
    refine s_assign hE goes_none (by decide) rfl ?_; intro a hE
    refine c_fin ?_
    have hr := Option.some.inj hF7
    subst hr
    exact wp_ret (k_ret1 hE rfl (res_tmp hE rfl) ⟨_, rfl, u8, rfl, hM.outF (locN1 locN0), hM.kept⟩)
noncomputable def F_spec_l01In (p0 : Int) (p1 : Int) (p2 : Int) : Option (Bool) :=
  (if (decide (p0 ≥ p1)) = true then (some (decide (p0 ≤ p2))) else (some false) : Option (Bool)).bind fun (j1 : Bool) => some j1
set_option maxRecDepth 20000 in
set_option maxHeartbeats 400000 in
theorem c_spec_l01In (w0 : World) (p0 : Int) (p1 : Int) (p2 : Int) (r : Bool) (hF : F_spec_l01In p0 p1 p2 = some r) :
    Calls Try.prog 86 [(vI p0), (vI p1), (vI p2)].toArray w0 (fun en w' => ∃ v, en = .returned v ∧ (v = (vT r) ∧ Kept (Old w0) w0 w')) := by
  refine c_enter (n := 15) Try.func86 rfl rfl (Nat.le_of_ble_eq_true rfl) rfl ?_
  intro a hE
  have hM := M.start w0
  unfold F_spec_l01In at hF
  refine c_region ?_
  refine s_assign hE goes_none (by decide) rfl ?_; intro a hE
  refine c_fin ?_
  obtain ⟨j1, hl2, hF3⟩ := bind_some hF
  refine c_join (fun a w => Env 15 a [(6, (vT j1))] ∧ M (Old w0) w0 w []) ?_ ?_
  · skip
    refine wp_region_lit ?_
    refine s_move hE goes_none (by decide) rfl ?_; intro a hE
    refine s_move hE goes_none (by decide) rfl ?_; intro a hE
    refine s_int hE goes_none (by decide) rfl rfl rfl ?_; intro a hE
    refine s_move hE goes_none (by decide) rfl ?_; intro a hE
    refine splitB (decide (p0 ≥ p1)) (fun hb4 => ?_) (fun hb4 => ?_)
    · have hl2 := ite_t hl2 hb4
      refine s_move hE (goes_yes hE rfl (lkb rfl hb4)) (by decide) rfl ?_; intro a hE
      refine s_move hE (goes_yes hE rfl (lkb rfl hb4)) (by decide) rfl ?_; intro a hE
      refine s_int hE (goes_yes hE rfl (lkb rfl hb4)) (by decide) rfl rfl rfl ?_; intro a hE
      refine s_pickT hE goes_none (by decide) (lkb rfl hb4) rfl ?_; intro a hE
      refine s_assign hE goes_none (by decide) rfl ?_; intro a hE
      refine c_fin0 ?_
      have ht5 := Option.some.inj hl2
      subst ht5
      refine c_mid ?_
      exact ⟨hE.sub ⟨rfl, trivial⟩, hM⟩
    · have hl2 := ite_f hl2 hb4
      refine s_skip hE rfl (lkb rfl hb4) rfl (by decide) ?_; intro a hE
      refine s_skip hE rfl (lkb rfl hb4) rfl (by decide) ?_; intro a hE
      refine s_skip hE rfl (lkb rfl hb4) rfl (by decide) ?_; intro a hE
      refine s_pickF hE goes_none (by decide) (lkb rfl hb4) rfl ?_; intro a hE
      refine s_assign hE goes_none (by decide) rfl ?_; intro a hE
      refine c_fin0 ?_
      have ht6 := Option.some.inj hl2
      subst ht6
      refine c_mid ?_
      exact ⟨hE.sub ⟨rfl, trivial⟩, hM⟩
  · skip
    rintro a w ⟨hE, hM⟩
    have hr := Option.some.inj hF3
    subst hr
    exact wp_ret (k_ret1 hE rfl (res_tmp hE rfl) ⟨_, rfl, rfl, hM.kept⟩)
noncomputable def L0_spec_l01Length (s4 : Int × Int) : Option (Fl (Int × Int) Int) :=
  if (decide (s4.1 > 0)) = true then (some (Fl.nx (wr (Int.tdiv s4.1 2), wr (s4.2 + 1)))) else (some (Fl.ex s4.2))
noncomputable def F_spec_l01Length (p0 : Int) : Option (Int) :=
  (iter (L0_spec_l01Length) (p0, 0) : Option (Int)).bind fun (j1 : Int) => some j1
set_option maxRecDepth 20000 in
set_option maxHeartbeats 400000 in
theorem c_spec_l01Length (w0 : World) (p0 : Int) (r : Int) (hF : F_spec_l01Length p0 = some r) :
    Calls Try.prog 198 [(vI p0)].toArray w0 (fun en w' => ∃ v, en = .returned v ∧ (v = (vI r) ∧ Kept (Old w0) w0 w')) := by
  refine c_enter (n := 11) Try.func198 rfl rfl (Nat.le_of_ble_eq_true rfl) rfl ?_
  intro a hE
  have hM := M.start w0
  unfold F_spec_l01Length at hF
  refine c_region ?_
  refine s_assign hE goes_none (by decide) rfl ?_; intro a hE
  refine c_fin ?_
  refine c_region ?_
  refine s_assign hE goes_none (by decide) rfl ?_; intro a hE
  refine c_fin ?_
  obtain ⟨j1, hl2, hF3⟩ := bind_some hF
  refine c_join (fun a w => Env 11 a [(3, (vI j1))] ∧ M (Old w0) w0 w []) ?_ ?_
  · skip
    refine wp_block ?_
    refine c_loop (fun (s4 : Int × Int) a w => Env 11 a [(0, (vI s4.1)), (3, (vI s4.2))] ∧ M (Old w0) w0 w []) hl2 ⟨hE.sub ⟨rfl, rfl, trivial⟩, hM⟩ ?_
    rintro s4 a w ⟨hE, hM⟩ o7 hs5 hx6
    unfold L0_spec_l01Length at hs5
    refine wp_seq ?_
    refine c_region ?_
    refine s_move hE goes_none (by decide) rfl ?_; intro a hE
    refine s_int hE goes_none (by decide) rfl rfl rfl ?_; intro a hE
    refine c_fin ?_
    refine c_cond hE rfl ?_ ?_
    · intro hb8
      have hs5 := ite_t hs5 hb8
      refine wp_skip ?_
      refine c_nx ?_
      refine wp_seq ?_
      refine wp_block ?_
      refine wp_region_lit ?_
      refine s_move hE goes_none (by decide) rfl ?_; intro a hE
      refine s_int hE goes_none (by decide) rfl rfl rfl ?_; intro a hE
      refine s_assign hE goes_none (by decide) rfl ?_; intro a hE
      refine c_fin0 ?_
      refine c_nb ?_
      refine c_nx ?_
      refine wp_region_lit ?_
      refine s_move hE goes_none (by decide) rfl ?_; intro a hE
      refine s_int hE goes_none (by decide) rfl rfl (bI_quo _ _ (by decide)) ?_; intro a hE
      refine s_assign hE goes_none (by decide) rfl ?_; intro a hE
      refine c_fin0 ?_
      refine c_mid ?_
      exact ⟨_, (Option.some.inj hs5).symm, hE.sub ⟨rfl, rfl, trivial⟩, hM⟩
    · intro hb8
      have hs5 := ite_f hs5 hb8
      refine wp_exit (e_then (e_then (e_eq ?_)))
      have ht9 := hx6 _ (Option.some.inj hs5).symm
      subst ht9
      refine c_mid ?_
      exact ⟨hE.sub ⟨rfl, trivial⟩, hM⟩
  · skip
    rintro a w ⟨hE, hM⟩
    refine c_region ?_
    refine s_move hE goes_none (by decide) rfl ?_; intro a hE
    refine s_assign hE goes_none (by decide) rfl ?_; intro a hE
    refine c_fin ?_
    have hr := Option.some.inj hF3
    subst hr
    exact wp_ret (k_ret1 hE rfl (res_tmp hE rfl) ⟨_, rfl, rfl, hM.kept⟩)
noncomputable def L0_spec_l01Rest (p1 : Int) (r1 : Int) (s8 : Int × Int) : Option (Fl (Int × Int) Int) :=
  if (decide (s8.2 ≥ r1)) = true then ((nonneg (IntKind.u64.wrap (wr (s8.2 - r1)))).bind fun _ => (F_spec_l01Length (xorI s8.1 (shlI p1 (IntKind.u64.wrap (wr (s8.2 - r1)))))).bind fun (r14 : Int) => some (Fl.nx (xorI s8.1 (shlI p1 (IntKind.u64.wrap (wr (s8.2 - r1)))), r14))) else (some (Fl.ex s8.1))
noncomputable def F_spec_l01Rest (p0 : Int) (p1 : Int) : Option (Int) :=
  (F_spec_l01Length p1).bind fun (r1 : Int) => (F_spec_l01Length p0).bind fun (r3 : Int) => (iter (L0_spec_l01Rest p1 r1) (p0, r3) : Option (Int)).bind fun (j5 : Int) => some j5
set_option maxRecDepth 20000 in
set_option maxHeartbeats 400000 in
theorem c_spec_l01Rest (w0 : World) (p0 : Int) (p1 : Int) (r : Int) (hF : F_spec_l01Rest p0 p1 = some r) :
    Calls Try.prog 179 [(vI p0), (vI p1)].toArray w0 (fun en w' => ∃ v, en = .returned v ∧ (v = (vI r) ∧ Kept (Old w0) w0 w')) := by
  refine c_enter (n := 25) Try.func179 rfl rfl (Nat.le_of_ble_eq_true rfl) rfl ?_
  intro a hE
  have hM := M.start w0
  unfold F_spec_l01Rest at hF
  refine c_region ?_
  refine s_assign hE goes_none (by decide) rfl ?_; intro a hE
  refine c_fin ?_
  refine c_region ?_
  refine s_move hE goes_none (by decide) rfl ?_; intro a hE
  obtain ⟨r1, e2, hF⟩ := bind_some hF
  refine s_call (vs := [(vI p1)]) hE goes_none (by decide) rfl cb198 (c_spec_l01Length _ p1 r1 e2) ?_
  rintro v w a ⟨rfl, hK⟩ hE
  have hM := hM.keep hK
  refine s_assign hE goes_none (by decide) rfl ?_; intro a hE
  refine c_fin ?_
  refine wp_seq ?_
  refine c_region ?_
  refine s_move hE goes_none (by decide) rfl ?_; intro a hE
  obtain ⟨r3, e4, hF⟩ := bind_some hF
  refine s_call (vs := [(vI p0)]) hE goes_none (by decide) rfl cb198 (c_spec_l01Length _ p0 r3 e4) ?_
  rintro v w a ⟨rfl, hK⟩ hE
  have hM := hM.keep hK
  refine s_assign hE goes_none (by decide) rfl ?_; intro a hE
  refine c_fin ?_
  obtain ⟨j5, hl6, hF7⟩ := bind_some hF
  refine c_cut (fun a w => Env 25 a [(0, (vI j5))] ∧ M (Old w0) w0 w []) ?_ ?_
  · skip
    refine wp_block ?_
    refine c_loop (fun (s8 : Int × Int) a w => Env 25 a [(0, (vI s8.1)), (1, (vI p1)), (5, (vI r1)), (6, (vI s8.2))] ∧ M (Old w0) w0 w []) hl6 ⟨hE.sub ⟨rfl, rfl, rfl, rfl, trivial⟩, hM⟩ ?_
    rintro s8 a w ⟨hE, hM⟩ o11 hs9 hx10
    unfold L0_spec_l01Rest at hs9
    refine wp_seq ?_
    refine c_region ?_
    refine s_move hE goes_none (by decide) rfl ?_; intro a hE
    refine s_move hE goes_none (by decide) rfl ?_; intro a hE
    refine s_int hE goes_none (by decide) rfl rfl rfl ?_; intro a hE
    refine c_fin ?_
    refine c_cond hE rfl ?_ ?_
    · intro hb12
      have hs9 := ite_t hs9 hb12
      refine wp_skip ?_
      refine c_nx ?_
      refine wp_seq ?_
      refine wp_block ?_
      refine wp_region_lit ?_
      refine s_move hE goes_none (by decide) rfl ?_; intro a hE
      refine s_move hE goes_none (by decide) rfl ?_; intro a hE
      refine s_move hE goes_none (by decide) rfl ?_; intro a hE
      refine s_move hE goes_none (by decide) rfl ?_; intro a hE
      refine s_int hE goes_none (by decide) rfl rfl rfl ?_; intro a hE
      refine s_conv hE goes_none (by decide) rfl Try.underlying2 Try.underlying189 ?_; intro a hE
      obtain ⟨_, e13, hs9⟩ := bind_some hs9
      have e13 := nonneg_some e13
      refine s_sh hE goes_none (by decide) rfl rfl (bI_shl _ _ e13) ?_; intro a hE
      refine s_int hE goes_none (by decide) rfl rfl rfl ?_; intro a hE
      refine s_assign hE goes_none (by decide) rfl ?_; intro a hE
      refine c_fin0 ?_
      refine c_nb ?_
      refine c_nx ?_
      refine wp_region_lit ?_
      refine s_move hE goes_none (by decide) rfl ?_; intro a hE
      obtain ⟨r14, e15, hs9⟩ := bind_some hs9
      refine s_call (vs := [(vI (xorI s8.1 (shlI p1 (IntKind.u64.wrap (wr (s8.2 - r1))))))]) hE goes_none (by decide) rfl cb198 (c_spec_l01Length _ (xorI s8.1 (shlI p1 (IntKind.u64.wrap (wr (s8.2 - r1))))) r14 e15) ?_
      rintro v w a ⟨rfl, hK⟩ hE
      have hM := hM.keep hK
      refine s_assign hE goes_none (by decide) rfl ?_; intro a hE
      refine c_fin0 ?_
      refine c_mid ?_
      exact ⟨_, (Option.some.inj hs9).symm, hE.sub ⟨rfl, rfl, rfl, rfl, trivial⟩, hM⟩
    · intro hb12
      have hs9 := ite_f hs9 hb12
      refine wp_exit (e_then (e_then (e_eq ?_)))
      have ht16 := hx10 _ (Option.some.inj hs9).symm
      subst ht16
      refine c_mid ?_
      exact ⟨hE.sub ⟨rfl, trivial⟩, hM⟩
  · skip
    rintro a w ⟨hE, hM⟩
    refine c_nx ?_
    refine c_region ?_
    refine s_move hE goes_none (by decide) rfl ?_; intro a hE
    refine s_assign hE goes_none (by decide) rfl ?_; intro a hE
    refine c_fin ?_
    have hr := Option.some.inj hF7
    subst hr
    exact wp_ret (k_ret1 hE rfl (res_tmp hE rfl) ⟨_, rfl, rfl, hM.kept⟩)
noncomputable def L0_spec_l01Field (p0 : Int) (s8 : Int) : Option (Fl Int (Fl Unit Bool)) :=
  if (decide (s8 < 32)) = true then ((F_spec_l01Rest p0 s8).bind fun (r13 : Int) => if (r13 == 0) = true then (some (Fl.ex (Fl.ex false))) else (some (Fl.nx (wr (s8 + 1))))) else (some (Fl.ex (Fl.nx ())))
noncomputable def F_spec_l01Field (p0 : Int) : Option (Bool) :=
  (F_spec_l01In p0 256 511).bind fun (r1 : Bool) => if (!r1) = true then (some false) else ((iter (L0_spec_l01Field p0) 2 : Option (Fl Unit Bool)).bind fun (j4 : Fl Unit Bool) => j4.el (fun (s7 : Unit) => some true) (fun r => some r))
set_option maxRecDepth 20000 in
set_option maxHeartbeats 400000 in
theorem c_spec_l01Field (w0 : World) (p0 : Int) (r : Bool) (hF : F_spec_l01Field p0 = some r) :
    Calls Try.prog 127 [(vI p0)].toArray w0 (fun en w' => ∃ v, en = .returned v ∧ (v = (vT r) ∧ Kept (Old w0) w0 w')) := by
  refine c_enter (n := 15) Try.func127 rfl rfl (Nat.le_of_ble_eq_true rfl) rfl ?_
  intro a hE
  have hM := M.start w0
  unfold F_spec_l01Field at hF
  refine c_region ?_
  refine s_assign hE goes_none (by decide) rfl ?_; intro a hE
  refine c_fin ?_
  refine wp_seq ?_
  refine c_region ?_
  refine s_move hE goes_none (by decide) rfl ?_; intro a hE
  obtain ⟨r1, e2, hF⟩ := bind_some hF
  refine s_call (vs := [(vI p0), (vI 256), (vI 511)]) hE goes_none (by decide) rfl cb86 (c_spec_l01In _ p0 256 511 r1 e2) ?_
  rintro v w a ⟨rfl, hK⟩ hE
  have hM := hM.keep hK
  refine s_not hE goes_none (by decide) rfl ?_; intro a hE
  refine c_fin ?_
  refine c_cond hE rfl ?_ ?_
  · intro hb3
    have hF := ite_t hF hb3
    refine c_region ?_
    refine s_assign hE goes_none (by decide) rfl ?_; intro a hE
    refine c_fin ?_
    have hr := Option.some.inj hF
    subst hr
    exact wp_ret (r_then (k_ret1 hE rfl (res_tmp hE rfl) ⟨_, rfl, rfl, hM.kept⟩))
  · intro hb3
    have hF := ite_f hF hb3
    refine wp_skip ?_
    refine c_nx ?_
    refine wp_seq ?_
    refine c_region ?_
    refine s_assign hE goes_none (by decide) rfl ?_; intro a hE
    refine c_fin ?_
    obtain ⟨j4, hl5, hF6⟩ := bind_some hF
    refine c_cut (fun a w => ∃ s7 : Unit, j4 = Fl.nx s7 ∧ Env 15 a [] ∧ M (Old w0) w0 w []) ?_ ?_
    · skip
      refine wp_block ?_
      refine c_loop (fun (s8 : Int) a w => Env 15 a [(0, (vI p0)), (3, (vI s8))] ∧ M (Old w0) w0 w []) hl5 ⟨hE.sub ⟨rfl, rfl, trivial⟩, hM⟩ ?_
      rintro s8 a w ⟨hE, hM⟩ o11 hs9 hx10
      unfold L0_spec_l01Field at hs9
      refine wp_seq ?_
      refine c_region ?_
      refine s_move hE goes_none (by decide) rfl ?_; intro a hE
      refine s_int hE goes_none (by decide) rfl rfl rfl ?_; intro a hE
      refine c_fin ?_
      refine c_cond hE rfl ?_ ?_
      · intro hb12
        have hs9 := ite_t hs9 hb12
        refine wp_skip ?_
        refine c_nx ?_
        refine wp_seq ?_
        refine wp_block ?_
        refine c_region ?_
        refine s_move hE goes_none (by decide) rfl ?_; intro a hE
        refine s_move hE goes_none (by decide) rfl ?_; intro a hE
        obtain ⟨r13, e14, hs9⟩ := bind_some hs9
        refine s_call (vs := [(vI p0), (vI s8)]) hE goes_none (by decide) rfl cb179 (c_spec_l01Rest _ p0 s8 r13 e14) ?_
        rintro v w a ⟨rfl, hK⟩ hE
        have hM := hM.keep hK
        refine s_int hE goes_none (by decide) rfl rfl rfl ?_; intro a hE
        refine c_fin ?_
        refine c_cond hE rfl ?_ ?_
        · intro hb15
          have hs9 := ite_t hs9 hb15
          refine c_region ?_
          refine s_assign hE goes_none (by decide) rfl ?_; intro a hE
          refine c_fin ?_
          have ht16 := hx10 _ (Option.some.inj hs9).symm
          subst ht16
          have hr := Option.some.inj hF6
          subst hr
          exact wp_ret (r_inb (r_then (r_then (r_inb (r_then (r_then (k_ret1 hE rfl (res_tmp hE rfl) ⟨_, rfl, rfl, hM.kept⟩)))))))
        · intro hb15
          have hs9 := ite_f hs9 hb15
          refine wp_skip ?_
          refine c_nb ?_
          refine c_nx ?_
          refine wp_region_lit ?_
          refine s_move hE goes_none (by decide) rfl ?_; intro a hE
          refine s_int hE goes_none (by decide) rfl rfl rfl ?_; intro a hE
          refine s_assign hE goes_none (by decide) rfl ?_; intro a hE
          refine c_fin0 ?_
          refine c_mid ?_
          exact ⟨_, (Option.some.inj hs9).symm, hE.sub ⟨rfl, rfl, trivial⟩, hM⟩
      · intro hb12
        have hs9 := ite_f hs9 hb12
        refine wp_exit (e_then (e_then (e_eq ?_)))
        have ht17 := hx10 _ (Option.some.inj hs9).symm
        subst ht17
        refine c_mid ?_
        exact ⟨(), rfl, hE.sub trivial, hM⟩
    · skip
      rintro a w ⟨s7, ht, hE, hM⟩
      subst ht
      have hF6 := el_nx hF6
      refine c_nx ?_
      refine c_region ?_
      refine s_assign hE goes_none (by decide) rfl ?_; intro a hE
      refine c_fin ?_
      have hr := Option.some.inj hF6
      subst hr
      exact wp_ret (k_ret1 hE rfl (res_tmp hE rfl) ⟨_, rfl, rfl, hM.kept⟩)
noncomputable def F_spec_l10Share (p0 : GShare) : Option (Bool) :=
  (if (p0.Place != 0) = true then (some (decide ((p0.Data.length : Int) ≤ 100))) else (some false) : Option (Bool)).bind fun (j3 : Bool) => some j3
set_option maxRecDepth 20000 in
set_option maxHeartbeats 400000 in
theorem c_spec_l10Share (w0 : World) (p0 : GShare) (v0_1 : Value) (hv0_1 : Ro w0 p0.Data [v0_1]) (r : Bool) (hF : F_spec_l10Share p0 = some r) :
    Calls Try.prog 180 [(Value.agg (cat [[(vB p0.Place)], [v0_1]]).toArray)].toArray w0 (fun en w' => ∃ v, en = .returned v ∧ (v = (vT r) ∧ Kept (Old w0) w0 w')) := by
  refine c_enter (n := 12) Try.func180 rfl rfl (Nat.le_of_ble_eq_true rfl) rfl ?_
  intro a hE
  have hM := M.start w0
  unfold F_spec_l10Share at hF
  refine c_region ?_
  refine s_box (cs := cat [[(vB p0.Place)], [v0_1]]) hE hM goes_none (by decide) rfl rfl ?_; intro b1 w a hM hE
  refine s_assign hE goes_none (by decide) rfl ?_; intro a hE
  refine c_fin ?_
  obtain ⟨j3, hl4, hF5⟩ := bind_some hF
  refine c_join (fun a w => Env 12 a [(2, (vT j3))] ∧ M (Old w0) w0 w []) ?_ ?_
  · skip
    refine wp_region_lit ?_
    refine s_fieldAddr hE goes_none (by decide) rfl (fd26_0) ?_; intro a hE
    refine s_load (v := (vB p0.Place)) hE goes_none (by decide) rfl ty5 rfl (At.cat (pre := []) (seg := [(vB p0.Place)]) (post := [[v0_1]]) (hM.rawAt (pre := [])) cl0) ?_; intro a hE
    refine s_int hE goes_none (by decide) rfl rfl (bB_neq p0.Place 0) ?_; intro a hE
    refine s_move hE goes_none (by decide) rfl ?_; intro a hE
    refine splitB (p0.Place != 0) (fun hb6 => ?_) (fun hb6 => ?_)
    · have hl4 := ite_t hl4 hb6
      refine s_fieldAddr hE (goes_yes hE rfl (lkb rfl hb6)) (by decide) rfl (fd26_1) ?_; intro a hE
      refine s_load (v := v0_1) hE (goes_yes hE rfl (lkb rfl hb6)) (by decide) rfl ty24 rfl (At.cat (pre := [[(vB p0.Place)]]) (seg := [v0_1]) (post := []) (hM.rawAt (pre := [])) (cl1 (n := 1) (m := 0) rfl cl0)) ?_; intro a hE
      refine s_len hE (goes_yes hE rfl (lkb rfl hb6)) (by decide) rfl Try.underlying24 (hM.rd hv0_1) ?_; intro a hE
      refine s_int hE (goes_yes hE rfl (lkb rfl hb6)) (by decide) rfl rfl rfl ?_; intro a hE
      refine s_pickT hE goes_none (by decide) (lkb rfl hb6) rfl ?_; intro a hE
      refine s_assign hE goes_none (by decide) rfl ?_; intro a hE
      refine c_fin0 ?_
      have ht7 := Option.some.inj hl4
      subst ht7
      refine c_mid ?_
      have hM := M.fst (l := []) hM
      exact ⟨hE.sub ⟨rfl, trivial⟩, hM⟩
    · have hl4 := ite_f hl4 hb6
      refine s_skip hE rfl (lkb rfl hb6) rfl (by decide) ?_; intro a hE
      refine s_skip hE rfl (lkb rfl hb6) rfl (by decide) ?_; intro a hE
      refine s_skip hE rfl (lkb rfl hb6) rfl (by decide) ?_; intro a hE
      refine s_skip hE rfl (lkb rfl hb6) rfl (by decide) ?_; intro a hE
      refine s_pickF hE goes_none (by decide) (lkb rfl hb6) rfl ?_; intro a hE
      refine s_assign hE goes_none (by decide) rfl ?_; intro a hE
      refine c_fin0 ?_
      have ht8 := Option.some.inj hl4
      subst ht8
      refine c_mid ?_
      have hM := M.fst (l := []) hM
      exact ⟨hE.sub ⟨rfl, trivial⟩, hM⟩
  · skip
    rintro a w ⟨hE, hM⟩
    have hr := Option.some.inj hF5
    subst hr
    exact wp_ret (k_ret1 hE rfl (res_tmp hE rfl) ⟨_, rfl, rfl, hM.kept⟩)
noncomputable def L1_spec_l01Twice (p0 : (List UInt8)) (s5 : Int) (s14 : Int) : Option (Fl Int (Fl Unit Bool)) :=
  if (decide (s14 < s5)) = true then (((idx p0 s5).bind fun (x23 : UInt8) => (idx p0 s14).bind fun (x26 : UInt8) => some (x23 == x26) : Option (Bool)).bind fun (j19 : Bool) => if j19 = true then (some (Fl.ex (Fl.ex true))) else (some (Fl.nx (wr (s14 + 1))))) else (some (Fl.ex (Fl.nx ())))
noncomputable def L0_spec_l01Twice (p0 : (List UInt8)) (s5 : Int) : Option (Fl Int (Fl Unit Bool)) :=
  if (decide (s5 < (p0.length : Int))) = true then ((iter (L1_spec_l01Twice p0 s5) 0 : Option (Fl Unit Bool)).bind fun (j10 : Fl Unit Bool) => j10.el (fun (s13 : Unit) => some (Fl.nx (wr (s5 + 1)))) (fun r => some (Fl.ex (Fl.ex r)))) else (some (Fl.ex (Fl.nx ())))
noncomputable def F_spec_l01Twice (p0 : (List UInt8)) : Option (Bool) :=
  (iter (L0_spec_l01Twice p0) 0 : Option (Fl Unit Bool)).bind fun (j1 : Fl Unit Bool) => j1.el (fun (s4 : Unit) => some false) (fun r => some r)
set_option maxRecDepth 20000 in
set_option maxHeartbeats 400000 in
theorem c_spec_l01Twice (w0 : World) (p0 : (List UInt8)) (v0_1 : Value) (hv0_1 : Ro w0 p0 [v0_1]) (r : Bool) (hF : F_spec_l01Twice p0 = some r) :
    Calls Try.prog 199 [v0_1].toArray w0 (fun en w' => ∃ v, en = .returned v ∧ (v = (vT r) ∧ Kept (Old w0) w0 w')) := by
  refine c_enter (n := 25) Try.func199 rfl rfl (Nat.le_of_ble_eq_true rfl) rfl ?_
  intro a hE
  have hM := M.start w0
  unfold F_spec_l01Twice at hF
  refine c_region ?_
  refine s_assign hE goes_none (by decide) rfl ?_; intro a hE
  refine c_fin ?_
  refine wp_seq ?_
  refine c_region ?_
  refine s_assign hE goes_none (by decide) rfl ?_; intro a hE
  refine c_fin ?_
  obtain ⟨j1, hl2, hF3⟩ := bind_some hF
  refine c_cut (fun a w => ∃ s4 : Unit, j1 = Fl.nx s4 ∧ Env 25 a [] ∧ M (Old w0) w0 w []) ?_ ?_
  · skip
    refine wp_block ?_
    refine c_loop (fun (s5 : Int) a w => Env 25 a [(0, v0_1), (3, (vI s5))] ∧ M (Old w0) w0 w []) hl2 ⟨hE.sub ⟨rfl, rfl, trivial⟩, hM⟩ ?_
    rintro s5 a w ⟨hE, hM⟩ o8 hs6 hx7
    unfold L0_spec_l01Twice at hs6
    refine wp_seq ?_
    refine c_region ?_
    refine s_move hE goes_none (by decide) rfl ?_; intro a hE
    refine s_move hE goes_none (by decide) rfl ?_; intro a hE
    refine s_len hE goes_none (by decide) rfl Try.underlying24 (hM.rd hv0_1) ?_; intro a hE
    refine s_int hE goes_none (by decide) rfl rfl rfl ?_; intro a hE
    refine c_fin ?_
    refine c_cond hE rfl ?_ ?_
    · intro hb9
      have hs6 := ite_t hs6 hb9
      refine wp_skip ?_
      refine c_nx ?_
      refine wp_seq ?_
      refine wp_block ?_
      refine c_region ?_
      refine s_assign hE goes_none (by decide) rfl ?_; intro a hE
      refine c_fin ?_
      obtain ⟨j10, hl11, hF12⟩ := bind_some hs6
      refine c_cut (fun a w => ∃ s13 : Unit, j10 = Fl.nx s13 ∧ Env 25 a [(0, v0_1), (3, (vI s5))] ∧ M (Old w0) w0 w []) ?_ ?_
      · skip
        refine wp_block ?_
        refine c_loop (fun (s14 : Int) a w => Env 25 a [(0, v0_1), (3, (vI s5)), (4, (vI s14))] ∧ M (Old w0) w0 w []) hl11 ⟨hE.sub ⟨rfl, rfl, rfl, trivial⟩, hM⟩ ?_
        rintro s14 a w ⟨hE, hM⟩ o17 hs15 hx16
        unfold L1_spec_l01Twice at hs15
        refine wp_seq ?_
        refine c_region ?_
        refine s_move hE goes_none (by decide) rfl ?_; intro a hE
        refine s_move hE goes_none (by decide) rfl ?_; intro a hE
        refine s_int hE goes_none (by decide) rfl rfl rfl ?_; intro a hE
        refine c_fin ?_
        refine c_cond hE rfl ?_ ?_
        · intro hb18
          have hs15 := ite_t hs15 hb18
          refine wp_skip ?_
          refine c_nx ?_
          refine wp_seq ?_
          refine wp_block ?_
          obtain ⟨j19, hl20, hF21⟩ := bind_some hs15
          refine c_join (fun a w => Env 25 a [(0, v0_1), (3, (vI s5)), (4, (vI s14)), (24, (vT j19))] ∧ M (Old w0) w0 w []) ?_ ?_
          · skip
            obtain ⟨x23, e24, hl20⟩ := bind_some hl20
            have hi25 := idx_some e24
            obtain ⟨x26, e27, hl20⟩ := bind_some hl20
            have hi28 := idx_some e27
            refine c_draw (n := 25) (hd := [_, _, _, _, _, _, _, _, _]) (tl := []) hmix rfl rfl [16, 17, 18, 19, 20, 21, 22, 23, 24] (by decide) (fun w => M (Old w0) w0 w []) (fun j => ([fun v _ => v = v0_1, fun v _ => v = (vI s5), fun v _ => v = (ptr (sb v0_1) (so v0_1 + (s5).toNat * 1)), fun v _ => v = (vB x23), fun v _ => v = v0_1, fun v _ => v = (vI s14), fun v _ => v = (ptr (sb v0_1) (so v0_1 + (s14).toNat * 1)), fun v _ => v = (vB x26), fun v _ => v = (vT (x23 == x26))] : List (Value → World → Prop)).getD j (fun _ _ => True)) (fun _ _ h hk => h.keep hk) (gup (gupE (gupE (gupE (gupE (gupE (gupE (gupE (gupE (gupE gupN)))))))))) hE hM.drew (steps_of (steps_cons ?_ (steps_cons ?_ (steps_cons ?_ (steps_cons ?_ (steps_cons ?_ (steps_cons ?_ (steps_cons ?_ (steps_cons ?_ (steps_cons ?_ steps_nil)))))))))) ?_
            · intro a w ux22 hE hM hp
              refine s_move hE goes_none (by decide) rfl ?_; intro a hE
              exact ⟨Kept.refl _ _, _, _, rfl, hE, rfl⟩
            · intro a w ux22 hE hM hp
              refine s_move hE goes_none (by decide) rfl ?_; intro a hE
              exact ⟨Kept.refl _ _, _, _, rfl, hE, rfl⟩
            · intro a w ux22 hE hM hp
              have f0 : ux22 0 = v0_1 := hp 0 _ rfl rfl
              have f1 : ux22 1 = (vI s5) := hp 1 _ rfl rfl
              refine s_indexS hE goes_none (by decide) (lk rfl f0) (lk rfl f1) Try.underlying24 ty5 (hM.rd hv0_1) hi25.1 ?_; intro a hE
              exact ⟨Kept.refl _ _, _, _, rfl, hE, rfl⟩
            · intro a w ux22 hE hM hp
              have f2 : ux22 2 = (ptr (sb v0_1) (so v0_1 + (s5).toNat * 1)) := hp 0 _ rfl rfl
              refine s_load (v := (vB x23)) hE goes_none (by decide) (lk rfl f2) ty5 rfl (sl_atF (hM.rd hv0_1) hi25.2) ?_; intro a hE
              exact ⟨Kept.refl _ _, _, _, rfl, hE, rfl⟩
            · intro a w ux22 hE hM hp
              refine s_move hE goes_none (by decide) rfl ?_; intro a hE
              exact ⟨Kept.refl _ _, _, _, rfl, hE, rfl⟩
            · intro a w ux22 hE hM hp
              refine s_move hE goes_none (by decide) rfl ?_; intro a hE
              exact ⟨Kept.refl _ _, _, _, rfl, hE, rfl⟩
            · intro a w ux22 hE hM hp
              have f4 : ux22 4 = v0_1 := hp 0 _ rfl rfl
              have f5 : ux22 5 = (vI s14) := hp 1 _ rfl rfl
              refine s_indexS hE goes_none (by decide) (lk rfl f4) (lk rfl f5) Try.underlying24 ty5 (hM.rd hv0_1) hi28.1 ?_; intro a hE
              exact ⟨Kept.refl _ _, _, _, rfl, hE, rfl⟩
            · intro a w ux22 hE hM hp
              have f6 : ux22 6 = (ptr (sb v0_1) (so v0_1 + (s14).toNat * 1)) := hp 0 _ rfl rfl
              refine s_load (v := (vB x26)) hE goes_none (by decide) (lk rfl f6) ty5 rfl (sl_atF (hM.rd hv0_1) hi28.2) ?_; intro a hE
              exact ⟨Kept.refl _ _, _, _, rfl, hE, rfl⟩
            · intro a w ux22 hE hM hp
              have f3 : ux22 3 = (vB x23) := hp 0 _ rfl rfl
              have f7 : ux22 7 = (vB x26) := hp 1 _ rfl rfl
              refine s_int hE goes_none (by decide) (lk rfl f3) (lk rfl f7) (bB_eql x23 x26) ?_; intro a hE
              exact ⟨Kept.refl _ _, _, _, rfl, hE, rfl⟩
            · intro a w ux22 hE hM hg
              have f0 : ux22 0 = v0_1 := hg 0 (by decide)
              have f1 : ux22 1 = (vI s5) := hg 1 (by decide)
              have f2 : ux22 2 = (ptr (sb v0_1) (so v0_1 + (s5).toNat * 1)) := hg 2 (by decide)
              have f3 : ux22 3 = (vB x23) := hg 3 (by decide)
              have f4 : ux22 4 = v0_1 := hg 4 (by decide)
              have f5 : ux22 5 = (vI s14) := hg 5 (by decide)
              have f6 : ux22 6 = (ptr (sb v0_1) (so v0_1 + (s14).toNat * 1)) := hg 6 (by decide)
              have f7 : ux22 7 = (vB x26) := hg 7 (by decide)
              have f8 : ux22 8 = (vT (x23 == x26)) := hg 8 (by decide)
              have hE := hE.sub (e' := [(16, v0_1), (17, (vI s5)), (18, (ptr (sb v0_1) (so v0_1 + (s5).toNat * 1))), (19, (vB x23)), (20, v0_1), (21, (vI s14)), (22, (ptr (sb v0_1) (so v0_1 + (s14).toNat * 1))), (23, (vB x26)), (24, (vT (x23 == x26))), (0, v0_1), (3, (vI s5)), (4, (vI s14)), (11, (vI s14)), (12, (vI s5)), (13, (vT (decide (s14 < s5))))]) ⟨lk rfl f0, lk rfl f1, lk rfl f2, lk rfl f3, lk rfl f4, lk rfl f5, lk rfl f6, lk rfl f7, lk rfl f8, rfl, rfl, rfl, rfl, rfl, rfl, trivial⟩
              refine c_fin0 ?_
              have ht29 := Option.some.inj hl20
              subst ht29
              refine c_mid ?_
              exact ⟨hE.sub ⟨rfl, rfl, rfl, rfl, trivial⟩, hM⟩
          · skip
            rintro a w ⟨hE, hM⟩
            refine c_cond hE rfl ?_ ?_
            · intro hb30
              have hF21 := ite_t hF21 hb30
              refine c_region ?_
              refine s_assign hE goes_none (by decide) rfl ?_; intro a hE
              refine c_fin ?_
              have ht31 := hx16 _ (Option.some.inj hF21).symm
              subst ht31
              have ht32 := hx7 _ (Option.some.inj hF12).symm
              subst ht32
              have hr := Option.some.inj hF3
              subst hr
              exact wp_ret (r_inb (r_then (r_then (r_inb (r_then (r_inb (r_then (r_then (r_inb (r_then (r_then (k_ret1 hE rfl (res_tmp hE rfl) ⟨_, rfl, rfl, hM.kept⟩))))))))))))
            · intro hb30
              have hF21 := ite_f hF21 hb30
              refine wp_skip ?_
              refine c_nb ?_
              refine c_nx ?_
              refine wp_region_lit ?_
              refine s_move hE goes_none (by decide) rfl ?_; intro a hE
              refine s_int hE goes_none (by decide) rfl rfl rfl ?_; intro a hE
              refine s_assign hE goes_none (by decide) rfl ?_; intro a hE
              refine c_fin0 ?_
              refine c_mid ?_
              exact ⟨_, (Option.some.inj hF21).symm, hE.sub ⟨rfl, rfl, rfl, trivial⟩, hM⟩
        · intro hb18
          have hs15 := ite_f hs15 hb18
          refine wp_exit (e_then (e_then (e_eq ?_)))
          have ht33 := hx16 _ (Option.some.inj hs15).symm
          subst ht33
          refine c_mid ?_
          exact ⟨(), rfl, hE.sub ⟨rfl, rfl, trivial⟩, hM⟩
      · skip
        rintro a w ⟨s13, ht, hE, hM⟩
        subst ht
        have hF12 := el_nx hF12
        refine c_nb ?_
        refine c_nx ?_
        refine wp_region_lit ?_
        refine s_move hE goes_none (by decide) rfl ?_; intro a hE
        refine s_int hE goes_none (by decide) rfl rfl rfl ?_; intro a hE
        refine s_assign hE goes_none (by decide) rfl ?_; intro a hE
        refine c_fin0 ?_
        refine c_mid ?_
        exact ⟨_, (Option.some.inj hF12).symm, hE.sub ⟨rfl, rfl, trivial⟩, hM⟩
    · intro hb9
      have hs6 := ite_f hs6 hb9
      refine wp_exit (e_then (e_then (e_eq ?_)))
      have ht34 := hx7 _ (Option.some.inj hs6).symm
      subst ht34
      refine c_mid ?_
      exact ⟨(), rfl, hE.sub trivial, hM⟩
  · skip
    rintro a w ⟨s4, ht, hE, hM⟩
    subst ht
    have hF3 := el_nx hF3
    refine c_nx ?_
    refine c_region ?_
    refine s_assign hE goes_none (by decide) rfl ?_; intro a hE
    refine c_fin ?_
    have hr := Option.some.inj hF3
    subst hr
    exact wp_ret (k_ret1 hE rfl (res_tmp hE rfl) ⟨_, rfl, rfl, hM.kept⟩)
noncomputable def L0_spec_l10Distinct (p0 : (List GShare)) (s8 : (List UInt8) × Int) : Option (Fl ((List UInt8) × Int) (List UInt8)) :=
  if (decide (s8.2 < (p0.length : Int))) = true then ((idx p0 s8.2).bind fun (x15 : GShare) => (app 1 s8.1 ([x15.Place] : List UInt8)).bind fun (l25 : (List UInt8)) => some (Fl.nx ((s8.1 ++ ([x15.Place] : List UInt8)), wr (s8.2 + 1)))) else (some (Fl.ex s8.1))
noncomputable def F_spec_l10Distinct (p0 : (List GShare)) : Option (Bool) :=
  (iter (L0_spec_l10Distinct p0) (([] : List UInt8), 0) : Option ((List UInt8))).bind fun (j3 : (List UInt8)) => (F_spec_l01Twice j3).bind fun (r31 : Bool) => some (!r31)
set_option maxRecDepth 20000 in
set_option maxHeartbeats 400000 in
theorem c_spec_l10Distinct (w0 : World) (p0 : (List GShare)) (v0_1 : Value) (hv0_1 : Ro w0 p0 [v0_1]) (r : Bool) (hF : F_spec_l10Distinct p0 = some r) :
    Calls Try.prog 181 [v0_1].toArray w0 (fun en w' => ∃ v, en = .returned v ∧ (v = (vT r) ∧ Kept (Old w0) w0 w')) := by
  refine c_enter (n := 23) Try.func181 rfl rfl (Nat.le_of_ble_eq_true rfl) rfl ?_
  intro a hE
  have hM := M.start w0
  unfold F_spec_l10Distinct at hF
  refine c_region ?_
  refine s_assign hE goes_none (by decide) rfl ?_; intro a hE
  refine c_fin ?_
  refine c_region ?_
  refine s_buildF (xs := []) (l := ([] : List UInt8)) (vs := []) hE hM goes_none (by decide) rfl rfl Try.underlying24 ty5 rfl (by decide) rfl ?_; intro u1 w a hM hE
  refine s_assign hE goes_none (by decide) rfl ?_; intro a hE
  refine c_fin ?_
  refine wp_seq ?_
  refine c_region ?_
  refine s_assign hE goes_none (by decide) rfl ?_; intro a hE
  refine c_fin ?_
  obtain ⟨j3, hl4, hF5⟩ := bind_some hF
  refine c_cut (fun a w => ∃ (u6 : Value), Env 23 a [(3, u6)] ∧ M (Old w0) w0 w [osl NoB (j3 : List UInt8) u6]) ?_ ?_
  · skip
    refine wp_block ?_
    refine c_loop (fun (s8 : (List UInt8) × Int) a w => ∃ (u9 : Value), Env 23 a [(0, v0_1), (3, u9), (4, (vI s8.2))] ∧ M (Old w0) w0 w [osl NoB (s8.1 : List UInt8) u9]) hl4 ⟨u1, hE.sub ⟨rfl, rfl, rfl, trivial⟩, hM⟩ ?_
    rintro s8 a w ⟨u9, hE, hM⟩ o13 hs11 hx12
    unfold L0_spec_l10Distinct at hs11
    refine wp_seq ?_
    refine c_region ?_
    refine s_move hE goes_none (by decide) rfl ?_; intro a hE
    refine s_move hE goes_none (by decide) rfl ?_; intro a hE
    refine s_len hE goes_none (by decide) rfl Try.underlying29 (hM.rd hv0_1) ?_; intro a hE
    refine s_int hE goes_none (by decide) rfl rfl rfl ?_; intro a hE
    refine c_fin ?_
    refine c_cond hE rfl ?_ ?_
    · intro hb14
      have hs11 := ite_t hs11 hb14
      refine wp_skip ?_
      refine c_nx ?_
      refine wp_seq ?_
      refine wp_block ?_
      refine wp_region_lit ?_
      refine s_move hE goes_none (by decide) rfl ?_; intro a hE
      refine s_move hE goes_none (by decide) rfl ?_; intro a hE
      refine s_move hE goes_none (by decide) rfl ?_; intro a hE
      obtain ⟨x15, e16, hs11⟩ := bind_some hs11
      have hi17 := idx_some e16
      refine s_indexS hE goes_none (by decide) rfl rfl Try.underlying29 ty26 (hM.rd hv0_1) hi17.1 ?_; intro a hE
      refine s_fieldAddr hE goes_none (by decide) rfl (fd26_0) ?_; intro a hE
      obtain ⟨cs18, hs19, hA20⟩ := sl_atRo hv0_1 hi17.2 -- ^
      obtain ⟨u21, rfl, h22⟩ := un_GShare hs19 -- ^
      refine s_load (v := (vB x15.Place)) hE goes_none (by decide) rfl ty5 rfl (At.cat (pre := []) (seg := [(vB x15.Place)]) (post := [[u21]]) (hM.atk hA20 (sl_blk hv0_1 hi17.2)) cl0) ?_; intro a hE
      refine s_buildF (xs := [.tmp 17]) (l := ([x15.Place] : List UInt8)) (vs := [(vB x15.Place)]) hE hM goes_none (by decide) rfl rfl Try.underlying24 ty5 rfl (by decide) rfl ?_; intro u23 w a hM hE
      obtain ⟨l25, e26, hs11⟩ := bind_some hs11
      obtain ⟨e29, rfl⟩ := app_some e26
      have hM := hM.pull (pre := [_])
      refine s_appendF hE hM goes_none (by decide) rfl rfl (hM.sl (pre := [_]) noB) Try.underlying24 ty5 rfl (by decide) e29 ?_; intro u27 w a hM hE
      refine s_assign hE goes_none (by decide) rfl ?_; intro a hE
      refine c_fin0 ?_
      refine c_nb ?_
      refine c_nx ?_
      refine wp_region_lit ?_
      refine s_move hE goes_none (by decide) rfl ?_; intro a hE
      refine s_int hE goes_none (by decide) rfl rfl rfl ?_; intro a hE
      refine s_assign hE goes_none (by decide) rfl ?_; intro a hE
      refine c_fin0 ?_
      refine c_mid ?_
      have hM := M.fst (l := [_]) hM
      exact ⟨_, (Option.some.inj hs11).symm, u27, hE.sub ⟨rfl, rfl, rfl, trivial⟩, hM⟩
    · intro hb14
      have hs11 := ite_f hs11 hb14
      refine wp_exit (e_then (e_then (e_eq ?_)))
      have ht30 := hx12 _ (Option.some.inj hs11).symm
      subst ht30
      refine c_mid ?_
      exact ⟨u9, hE.sub ⟨rfl, trivial⟩, hM⟩
  · skip
    rintro a w ⟨u6, hE, hM⟩
    refine c_nx ?_
    refine c_region ?_
    refine s_move hE goes_none (by decide) rfl ?_; intro a hE
    obtain ⟨r31, e32, hF5⟩ := bind_some hF5
    refine s_call (vs := [u6]) hE goes_none (by decide) rfl cb199 (c_spec_l01Twice _ j3 u6 (hM.sl (pre := []) noB) r31 e32) ?_
    rintro v w a ⟨rfl, hK⟩ hE
    have hM := hM.keep hK
    refine s_not hE goes_none (by decide) rfl ?_; intro a hE
    refine s_assign hE goes_none (by decide) rfl ?_; intro a hE
    refine c_fin ?_
    have hr := Option.some.inj hF5
    subst hr
    have hM := M.fst (l := []) hM
    exact wp_ret (k_ret1 hE rfl (res_tmp hE rfl) ⟨_, rfl, rfl, hM.kept⟩)
noncomputable def L0_spec_l10Code (p0 : (List GShare)) (s5 : Int) : Option (Fl Int (Fl Unit Int)) :=
  if (decide (s5 < (p0.length : Int))) = true then ((idx p0 s5).bind fun (x10 : GShare) => (F_spec_l10Share x10).bind fun (r18 : Bool) => if (!r18) = true then (some (Fl.ex (Fl.ex 1))) else (some (Fl.nx (wr (s5 + 1))))) else (some (Fl.ex (Fl.nx ())))
noncomputable def L1_spec_l10Code (p0 : (List GShare)) (s37 : Int) : Option (Fl Int (Fl Unit Int)) :=
  if (decide (s37 < (p0.length : Int))) = true then (((idx p0 s37).bind fun (x46 : GShare) => (idx p0 (0 : Int)).bind fun (x54 : GShare) => some ((x46.Data.length : Int) != (x54.Data.length : Int)) : Option (Bool)).bind fun (j42 : Bool) => if j42 = true then (some (Fl.ex (Fl.ex 2))) else (some (Fl.nx (wr (s37 + 1))))) else (some (Fl.ex (Fl.nx ())))
noncomputable def F_spec_l10Code (p0 : (List GShare)) : Option (Int) :=
  (iter (L0_spec_l10Code p0) 0 : Option (Fl Unit Int)).bind fun (j1 : Fl Unit Int) => j1.el (fun (s4 : Unit) => (F_spec_l10Distinct p0).bind fun (r23 : Bool) => if (!r23) = true then (some 1) else ((if (decide ((p0.length : Int) < 1)) = true then (some true) else (some (decide ((p0.length : Int) > 12))) : Option (Bool)).bind fun (j26 : Bool) => if j26 = true then (some 2) else ((iter (L1_spec_l10Code p0) 1 : Option (Fl Unit Int)).bind fun (j33 : Fl Unit Int) => j33.el (fun (s36 : Unit) => some 0) (fun r => some r)))) (fun r => some r)
set_option maxRecDepth 20000 in
set_option maxHeartbeats 400000 in
theorem c_spec_l10Code (w0 : World) (p0 : (List GShare)) (v0_1 : Value) (hv0_1 : Ro w0 p0 [v0_1]) (r : Int) (hF : F_spec_l10Code p0 = some r) :
    Calls Try.prog 128 [v0_1].toArray w0 (fun en w' => ∃ v, en = .returned v ∧ (v = (vI r) ∧ Kept (Old w0) w0 w')) := by
  refine c_enter (n := 46) Try.func128 rfl rfl (Nat.le_of_ble_eq_true rfl) rfl ?_
  intro a hE
  have hM := M.start w0
  unfold F_spec_l10Code at hF
  refine c_region ?_
  refine s_assign hE goes_none (by decide) rfl ?_; intro a hE
  refine c_fin ?_
  refine wp_seq ?_
  refine c_region ?_
  refine s_assign hE goes_none (by decide) rfl ?_; intro a hE
  refine c_fin ?_
  obtain ⟨j1, hl2, hF3⟩ := bind_some hF
  refine c_cut (fun a w => ∃ s4 : Unit, j1 = Fl.nx s4 ∧ Env 46 a [(0, v0_1)] ∧ M (Old w0) w0 w []) ?_ ?_
  · skip
    refine wp_block ?_
    refine c_loop (fun (s5 : Int) a w => Env 46 a [(0, v0_1), (3, (vI s5))] ∧ M (Old w0) w0 w []) hl2 ⟨hE.sub ⟨rfl, rfl, trivial⟩, hM⟩ ?_
    rintro s5 a w ⟨hE, hM⟩ o8 hs6 hx7
    unfold L0_spec_l10Code at hs6
    refine wp_seq ?_
    refine c_region ?_
    refine s_move hE goes_none (by decide) rfl ?_; intro a hE
    refine s_move hE goes_none (by decide) rfl ?_; intro a hE
    refine s_len hE goes_none (by decide) rfl Try.underlying29 (hM.rd hv0_1) ?_; intro a hE
    refine s_int hE goes_none (by decide) rfl rfl rfl ?_; intro a hE
    refine c_fin ?_
    refine c_cond hE rfl ?_ ?_
    · intro hb9
      have hs6 := ite_t hs6 hb9
      refine wp_skip ?_
      refine c_nx ?_
      refine wp_seq ?_
      refine wp_block ?_
      refine c_region ?_
      refine s_move hE goes_none (by decide) rfl ?_; intro a hE
      refine s_move hE goes_none (by decide) rfl ?_; intro a hE
      obtain ⟨x10, e11, hs6⟩ := bind_some hs6
      have hi12 := idx_some e11
      refine s_indexS hE goes_none (by decide) rfl rfl Try.underlying29 ty26 (hM.rd hv0_1) hi12.1 ?_; intro a hE
      obtain ⟨cs13, hs14, hA15⟩ := sl_atRo hv0_1 hi12.2 -- ^
      obtain ⟨u16, rfl, h17⟩ := un_GShare hs14 -- ^
      refine s_loadA (cs := cat [[(vB x10.Place)], [u16]]) hE goes_none (by decide) rfl ty26 rfl (hM.atk hA15 (sl_blk hv0_1 hi12.2)) (cat_len (cl1 (n := 1) (m := 1) rfl (cl1 (n := 1) (m := 0) rfl cl0))) ?_; intro a hE
      obtain ⟨r18, e19, hs6⟩ := bind_some hs6
      refine s_call (vs := [(Value.agg (cat [[(vB x10.Place)], [u16]]).toArray)]) hE goes_none (by decide) rfl cb180 (c_spec_l10Share _ x10 u16 (hM.rdo h17) r18 e19) ?_
      rintro v w a ⟨rfl, hK⟩ hE
      have hM := hM.keep hK
      refine s_not hE goes_none (by decide) rfl ?_; intro a hE
      refine c_fin ?_
      refine c_cond hE rfl ?_ ?_
      · intro hb20
        have hs6 := ite_t hs6 hb20
        refine c_region ?_
        refine s_assign hE goes_none (by decide) rfl ?_; intro a hE
        refine c_fin ?_
        have ht21 := hx7 _ (Option.some.inj hs6).symm
        subst ht21
        have hr := Option.some.inj hF3
        subst hr
        exact wp_ret (r_inb (r_then (r_then (r_inb (r_then (r_then (k_ret1 hE rfl (res_tmp hE rfl) ⟨_, rfl, rfl, hM.kept⟩)))))))
      · intro hb20
        have hs6 := ite_f hs6 hb20
        refine wp_skip ?_
        refine c_nb ?_
        refine c_nx ?_
        refine wp_region_lit ?_
        refine s_move hE goes_none (by decide) rfl ?_; intro a hE
        refine s_int hE goes_none (by decide) rfl rfl rfl ?_; intro a hE
        refine s_assign hE goes_none (by decide) rfl ?_; intro a hE
        refine c_fin0 ?_
        refine c_mid ?_
        exact ⟨_, (Option.some.inj hs6).symm, hE.sub ⟨rfl, rfl, trivial⟩, hM⟩
    · intro hb9
      have hs6 := ite_f hs6 hb9
      refine wp_exit (e_then (e_then (e_eq ?_)))
      have ht22 := hx7 _ (Option.some.inj hs6).symm
      subst ht22
      refine c_mid ?_
      exact ⟨(), rfl, hE.sub ⟨rfl, trivial⟩, hM⟩
  · skip
    rintro a w ⟨s4, ht, hE, hM⟩
    subst ht
    have hF3 := el_nx hF3
    refine c_nx ?_
    refine wp_seq ?_
    refine c_region ?_
    refine s_move hE goes_none (by decide) rfl ?_; intro a hE
    obtain ⟨r23, e24, hF3⟩ := bind_some hF3
    refine s_call (vs := [v0_1]) hE goes_none (by decide) rfl cb181 (c_spec_l10Distinct _ p0 v0_1 (hM.rdo hv0_1) r23 e24) ?_
    rintro v w a ⟨rfl, hK⟩ hE
    have hM := hM.keep hK
    refine s_not hE goes_none (by decide) rfl ?_; intro a hE
    refine c_fin ?_
    refine c_cond hE rfl ?_ ?_
    · intro hb25
      have hF3 := ite_t hF3 hb25
      refine c_region ?_
      refine s_assign hE goes_none (by decide) rfl ?_; intro a hE
      refine c_fin ?_
      have hr := Option.some.inj hF3
      subst hr
      exact wp_ret (r_then (k_ret1 hE rfl (res_tmp hE rfl) ⟨_, rfl, rfl, hM.kept⟩))
    · intro hb25
      have hF3 := ite_f hF3 hb25
      refine wp_skip ?_
      refine c_nx ?_
      refine wp_seq ?_
      obtain ⟨j26, hl27, hF28⟩ := bind_some hF3
      refine c_join (fun a w => Env 46 a [(0, v0_1), (27, (vT j26))] ∧ M (Old w0) w0 w []) ?_ ?_
      · skip
        refine wp_region_lit ?_
        refine s_move hE goes_none (by decide) rfl ?_; intro a hE
        refine s_len hE goes_none (by decide) rfl Try.underlying29 (hM.rd hv0_1) ?_; intro a hE
        refine s_int hE goes_none (by decide) rfl rfl rfl ?_; intro a hE
        refine s_move hE goes_none (by decide) rfl ?_; intro a hE
        refine splitB (decide ((p0.length : Int) < 1)) (fun hb29 => ?_) (fun hb29 => ?_)
        · have hl27 := ite_t hl27 hb29
          refine s_skip hE rfl (lkb rfl hb29) rfl (by decide) ?_; intro a hE
          refine s_skip hE rfl (lkb rfl hb29) rfl (by decide) ?_; intro a hE
          refine s_skip hE rfl (lkb rfl hb29) rfl (by decide) ?_; intro a hE
          refine s_pickT hE goes_none (by decide) (lkb rfl hb29) rfl ?_; intro a hE
          refine c_fin0 ?_
          have ht30 := Option.some.inj hl27
          subst ht30
          refine c_mid ?_
          exact ⟨hE.sub ⟨rfl, rfl, trivial⟩, hM⟩
        · have hl27 := ite_f hl27 hb29
          refine s_move hE (goes_yes hE rfl (lkb rfl hb29)) (by decide) rfl ?_; intro a hE
          refine s_len hE (goes_yes hE rfl (lkb rfl hb29)) (by decide) rfl Try.underlying29 (hM.rd hv0_1) ?_; intro a hE
          refine s_int hE (goes_yes hE rfl (lkb rfl hb29)) (by decide) rfl rfl rfl ?_; intro a hE
          refine s_pickF hE goes_none (by decide) (lkb rfl hb29) rfl ?_; intro a hE
          refine c_fin0 ?_
          have ht31 := Option.some.inj hl27
          subst ht31
          refine c_mid ?_
          exact ⟨hE.sub ⟨rfl, rfl, trivial⟩, hM⟩
      · skip
        rintro a w ⟨hE, hM⟩
        refine c_cond hE rfl ?_ ?_
        · intro hb32
          have hF28 := ite_t hF28 hb32
          refine c_region ?_
          refine s_assign hE goes_none (by decide) rfl ?_; intro a hE
          refine c_fin ?_
          have hr := Option.some.inj hF28
          subst hr
          exact wp_ret (r_then (k_ret1 hE rfl (res_tmp hE rfl) ⟨_, rfl, rfl, hM.kept⟩))
        · intro hb32
          have hF28 := ite_f hF28 hb32
          refine wp_skip ?_
          refine c_nx ?_
          refine wp_seq ?_
          refine c_region ?_
          refine s_assign hE goes_none (by decide) rfl ?_; intro a hE
          refine c_fin ?_
          obtain ⟨j33, hl34, hF35⟩ := bind_some hF28
          refine c_cut (fun a w => ∃ s36 : Unit, j33 = Fl.nx s36 ∧ Env 46 a [] ∧ M (Old w0) w0 w []) ?_ ?_
          · skip
            refine wp_block ?_
            refine c_loop (fun (s37 : Int) a w => Env 46 a [(0, v0_1), (4, (vI s37))] ∧ M (Old w0) w0 w []) hl34 ⟨hE.sub ⟨rfl, rfl, trivial⟩, hM⟩ ?_
            rintro s37 a w ⟨hE, hM⟩ o40 hs38 hx39
            unfold L1_spec_l10Code at hs38
            refine wp_seq ?_
            refine c_region ?_
            refine s_move hE goes_none (by decide) rfl ?_; intro a hE
            refine s_move hE goes_none (by decide) rfl ?_; intro a hE
            refine s_len hE goes_none (by decide) rfl Try.underlying29 (hM.rd hv0_1) ?_; intro a hE
            refine s_int hE goes_none (by decide) rfl rfl rfl ?_; intro a hE
            refine c_fin ?_
            refine c_cond hE rfl ?_ ?_
            · intro hb41
              have hs38 := ite_t hs38 hb41
              refine wp_skip ?_
              refine c_nx ?_
              refine wp_seq ?_
              refine wp_block ?_
              obtain ⟨j42, hl43, hF44⟩ := bind_some hs38
              refine c_join (fun a w => Env 46 a [(0, v0_1), (4, (vI s37)), (45, (vT j42))] ∧ M (Old w0) w0 w []) ?_ ?_
              · skip
                obtain ⟨x46, e47, hl43⟩ := bind_some hl43
                have hi48 := idx_some e47
                obtain ⟨cs49, hs50, hA51⟩ := sl_atRo hv0_1 hi48.2 -- ^
                obtain ⟨u52, rfl, h53⟩ := un_GShare hs50 -- ^
                obtain ⟨x54, e55, hl43⟩ := bind_some hl43
                have hi56 := idx_some e55
                obtain ⟨cs57, hs58, hA59⟩ := sl_atRo hv0_1 hi56.2 -- ^
                obtain ⟨u60, rfl, h61⟩ := un_GShare hs58 -- ^
                refine c_draw (n := 46) (hd := [_, _, _, _, _, _, _, _, _, _, _, _]) (tl := []) hmix rfl rfl [34, 35, 36, 37, 38, 39, 40, 41, 42, 43, 44, 45] (by decide) (fun w => M (Old w0) w0 w []) (fun j => ([fun v _ => v = v0_1, fun v _ => v = (vI s37), fun v _ => v = (ptr (sb v0_1) (so v0_1 + (s37).toNat * 2)), fun v _ => v = (ptr (sb v0_1) (so v0_1 + (s37).toNat * 2 + 1)), fun v _ => v = u52, fun v _ => v = (vI (x46.Data.length : Int)), fun v _ => v = v0_1, fun v _ => v = (ptr (sb v0_1) (so v0_1 + ((0 : Int)).toNat * 2)), fun v _ => v = (ptr (sb v0_1) (so v0_1 + ((0 : Int)).toNat * 2 + 1)), fun v _ => v = u60, fun v _ => v = (vI (x54.Data.length : Int)), fun v _ => v = (vT ((x46.Data.length : Int) != (x54.Data.length : Int)))] : List (Value → World → Prop)).getD j (fun _ _ => True)) (fun _ _ h hk => h.keep hk) (gup (gupE (gupE (gupE (gupE (gupE (gupE (gupE (gupE (gupE (gupE (gupE (gupE gupN))))))))))))) hE hM.drew (steps_of (steps_cons ?_ (steps_cons ?_ (steps_cons ?_ (steps_cons ?_ (steps_cons ?_ (steps_cons ?_ (steps_cons ?_ (steps_cons ?_ (steps_cons ?_ (steps_cons ?_ (steps_cons ?_ (steps_cons ?_ steps_nil))))))))))))) ?_
                · intro a w ux45 hE hM hp
                  refine s_move hE goes_none (by decide) rfl ?_; intro a hE
                  exact ⟨Kept.refl _ _, _, _, rfl, hE, rfl⟩
                · intro a w ux45 hE hM hp
                  refine s_move hE goes_none (by decide) rfl ?_; intro a hE
                  exact ⟨Kept.refl _ _, _, _, rfl, hE, rfl⟩
                · intro a w ux45 hE hM hp
                  have f0 : ux45 0 = v0_1 := hp 0 _ rfl rfl
                  have f1 : ux45 1 = (vI s37) := hp 1 _ rfl rfl
                  refine s_indexS hE goes_none (by decide) (lk rfl f0) (lk rfl f1) Try.underlying29 ty26 (hM.rd hv0_1) hi48.1 ?_; intro a hE
                  exact ⟨Kept.refl _ _, _, _, rfl, hE, rfl⟩
                · intro a w ux45 hE hM hp
                  have f2 : ux45 2 = (ptr (sb v0_1) (so v0_1 + (s37).toNat * 2)) := hp 0 _ rfl rfl
                  refine s_fieldAddr hE goes_none (by decide) (lk rfl f2) (fd26_1) ?_; intro a hE
                  exact ⟨Kept.refl _ _, _, _, rfl, hE, rfl⟩
                · intro a w ux45 hE hM hp
                  have f3 : ux45 3 = (ptr (sb v0_1) (so v0_1 + (s37).toNat * 2 + 1)) := hp 0 _ rfl rfl
                  refine s_load (v := u52) hE goes_none (by decide) (lk rfl f3) ty24 rfl (At.cat (pre := [[(vB x46.Place)]]) (seg := [u52]) (post := []) (hM.atk hA51 (sl_blk hv0_1 hi48.2)) (cl1 (n := 1) (m := 0) rfl cl0)) ?_; intro a hE
                  exact ⟨Kept.refl _ _, _, _, rfl, hE, rfl⟩
                · intro a w ux45 hE hM hp
                  have f4 : ux45 4 = u52 := hp 0 _ rfl rfl
                  refine s_len hE goes_none (by decide) (lk rfl f4) Try.underlying24 (hM.rd h53) ?_; intro a hE
                  exact ⟨Kept.refl _ _, _, _, rfl, hE, rfl⟩
                · intro a w ux45 hE hM hp
                  refine s_move hE goes_none (by decide) rfl ?_; intro a hE
                  exact ⟨Kept.refl _ _, _, _, rfl, hE, rfl⟩
                · intro a w ux45 hE hM hp
                  have f6 : ux45 6 = v0_1 := hp 0 _ rfl rfl
                  refine s_indexS hE goes_none (by decide) (lk rfl f6) rfl Try.underlying29 ty26 (hM.rd hv0_1) hi56.1 ?_; intro a hE
                  exact ⟨Kept.refl _ _, _, _, rfl, hE, rfl⟩
                · intro a w ux45 hE hM hp
                  have f7 : ux45 7 = (ptr (sb v0_1) (so v0_1 + ((0 : Int)).toNat * 2)) := hp 0 _ rfl rfl
                  refine s_fieldAddr hE goes_none (by decide) (lk rfl f7) (fd26_1) ?_; intro a hE
                  exact ⟨Kept.refl _ _, _, _, rfl, hE, rfl⟩
                · intro a w ux45 hE hM hp
                  have f8 : ux45 8 = (ptr (sb v0_1) (so v0_1 + ((0 : Int)).toNat * 2 + 1)) := hp 0 _ rfl rfl
                  refine s_load (v := u60) hE goes_none (by decide) (lk rfl f8) ty24 rfl (At.cat (pre := [[(vB x54.Place)]]) (seg := [u60]) (post := []) (hM.atk hA59 (sl_blk hv0_1 hi56.2)) (cl1 (n := 1) (m := 0) rfl cl0)) ?_; intro a hE
                  exact ⟨Kept.refl _ _, _, _, rfl, hE, rfl⟩
                · intro a w ux45 hE hM hp
                  have f9 : ux45 9 = u60 := hp 0 _ rfl rfl
                  refine s_len hE goes_none (by decide) (lk rfl f9) Try.underlying24 (hM.rd h61) ?_; intro a hE
                  exact ⟨Kept.refl _ _, _, _, rfl, hE, rfl⟩
                · intro a w ux45 hE hM hp
                  have f5 : ux45 5 = (vI (x46.Data.length : Int)) := hp 0 _ rfl rfl
                  have f10 : ux45 10 = (vI (x54.Data.length : Int)) := hp 1 _ rfl rfl
                  refine s_int hE goes_none (by decide) (lk rfl f5) (lk rfl f10) rfl ?_; intro a hE
                  exact ⟨Kept.refl _ _, _, _, rfl, hE, rfl⟩
                · intro a w ux45 hE hM hg
                  have f0 : ux45 0 = v0_1 := hg 0 (by decide)
                  have f1 : ux45 1 = (vI s37) := hg 1 (by decide)
                  have f2 : ux45 2 = (ptr (sb v0_1) (so v0_1 + (s37).toNat * 2)) := hg 2 (by decide)
                  have f3 : ux45 3 = (ptr (sb v0_1) (so v0_1 + (s37).toNat * 2 + 1)) := hg 3 (by decide)
                  have f4 : ux45 4 = u52 := hg 4 (by decide)
                  have f5 : ux45 5 = (vI (x46.Data.length : Int)) := hg 5 (by decide)
                  have f6 : ux45 6 = v0_1 := hg 6 (by decide)
                  have f7 : ux45 7 = (ptr (sb v0_1) (so v0_1 + ((0 : Int)).toNat * 2)) := hg 7 (by decide)
                  have f8 : ux45 8 = (ptr (sb v0_1) (so v0_1 + ((0 : Int)).toNat * 2 + 1)) := hg 8 (by decide)
                  have f9 : ux45 9 = u60 := hg 9 (by decide)
                  have f10 : ux45 10 = (vI (x54.Data.length : Int)) := hg 10 (by decide)
                  have f11 : ux45 11 = (vT ((x46.Data.length : Int) != (x54.Data.length : Int))) := hg 11 (by decide)
                  have hE := hE.sub (e' := [(34, v0_1), (35, (vI s37)), (36, (ptr (sb v0_1) (so v0_1 + (s37).toNat * 2))), (37, (ptr (sb v0_1) (so v0_1 + (s37).toNat * 2 + 1))), (38, u52), (39, (vI (x46.Data.length : Int))), (40, v0_1), (41, (ptr (sb v0_1) (so v0_1 + ((0 : Int)).toNat * 2))), (42, (ptr (sb v0_1) (so v0_1 + ((0 : Int)).toNat * 2 + 1))), (43, u60), (44, (vI (x54.Data.length : Int))), (45, (vT ((x46.Data.length : Int) != (x54.Data.length : Int)))), (0, v0_1), (4, (vI s37)), (28, (vI s37)), (29, v0_1), (30, (vI (p0.length : Int))), (31, (vT (decide (s37 < (p0.length : Int)))))]) ⟨lk rfl f0, lk rfl f1, lk rfl f2, lk rfl f3, lk rfl f4, lk rfl f5, lk rfl f6, lk rfl f7, lk rfl f8, lk rfl f9, lk rfl f10, lk rfl f11, rfl, rfl, rfl, rfl, rfl, rfl, trivial⟩
                  refine c_fin0 ?_
                  have ht62 := Option.some.inj hl43
                  subst ht62
                  refine c_mid ?_
                  exact ⟨hE.sub ⟨rfl, rfl, rfl, trivial⟩, hM⟩
              · skip
                rintro a w ⟨hE, hM⟩
                refine c_cond hE rfl ?_ ?_
                · intro hb63
                  have hF44 := ite_t hF44 hb63
                  refine c_region ?_
                  refine s_assign hE goes_none (by decide) rfl ?_; intro a hE
                  refine c_fin ?_
                  have ht64 := hx39 _ (Option.some.inj hF44).symm
                  subst ht64
                  have hr := Option.some.inj hF35
                  subst hr
                  exact wp_ret (r_inb (r_then (r_then (r_inb (r_then (r_then (k_ret1 hE rfl (res_tmp hE rfl) ⟨_, rfl, rfl, hM.kept⟩)))))))
                · intro hb63
                  have hF44 := ite_f hF44 hb63
                  refine wp_skip ?_
                  refine c_nb ?_
                  refine c_nx ?_
                  refine wp_region_lit ?_
                  refine s_move hE goes_none (by decide) rfl ?_; intro a hE
                  refine s_int hE goes_none (by decide) rfl rfl rfl ?_; intro a hE
                  refine s_assign hE goes_none (by decide) rfl ?_; intro a hE
                  refine c_fin0 ?_
                  refine c_mid ?_
                  exact ⟨_, (Option.some.inj hF44).symm, hE.sub ⟨rfl, rfl, trivial⟩, hM⟩
            · intro hb41
              have hs38 := ite_f hs38 hb41
              refine wp_exit (e_then (e_then (e_eq ?_)))
              have ht65 := hx39 _ (Option.some.inj hs38).symm
              subst ht65
              refine c_mid ?_
              exact ⟨(), rfl, hE.sub trivial, hM⟩
          · skip
            rintro a w ⟨s36, ht, hE, hM⟩
            subst ht
            have hF35 := el_nx hF35
            refine c_nx ?_
            refine c_region ?_
            refine s_assign hE goes_none (by decide) rfl ?_; intro a hE
            refine c_fin ?_
            have hr := Option.some.inj hF35
            subst hr
            exact wp_ret (k_ret1 hE rfl (res_tmp hE rfl) ⟨_, rfl, rfl, hM.kept⟩)
noncomputable def F_spec_l10Both (p0 : Int) (p1 : (List GShare)) (p2 : Int) : Option (Int) :=
  (F_spec_l01Field p0).bind fun (r1 : Bool) => if (!r1) = true then (some 1) else ((F_spec_l10Code p1).bind fun (r4 : Int) => ((if (r4 == 0) = true then ((F_spec_l01In p2 1 8).bind fun (r13 : Bool) => some (!r13)) else (some false) : Option (Bool)).bind fun (j9 : Bool) => if j9 = true then (some 2) else (some r4) : Option (Int)).bind fun (j6 : Int) => some j6)
set_option maxRecDepth 20000 in
set_option maxHeartbeats 400000 in
theorem c_spec_l10Both (w0 : World) (p0 : Int) (p1 : (List GShare)) (v1_1 : Value) (hv1_1 : Ro w0 p1 [v1_1]) (p2 : Int) (r : Int) (hF : F_spec_l10Both p0 p1 p2 = some r) :
    Calls Try.prog 66 [(vI p0), v1_1, (vI p2)].toArray w0 (fun en w' => ∃ v, en = .returned v ∧ (v = (vI r) ∧ Kept (Old w0) w0 w')) := by
  refine c_enter (n := 21) Try.func66 rfl rfl (Nat.le_of_ble_eq_true rfl) rfl ?_
  intro a hE
  have hM := M.start w0
  unfold F_spec_l10Both at hF
  refine c_region ?_
  refine s_assign hE goes_none (by decide) rfl ?_; intro a hE
  refine c_fin ?_
  refine wp_seq ?_
  refine c_region ?_
  refine s_move hE goes_none (by decide) rfl ?_; intro a hE
  obtain ⟨r1, e2, hF⟩ := bind_some hF
  refine s_call (vs := [(vI p0)]) hE goes_none (by decide) rfl cb127 (c_spec_l01Field _ p0 r1 e2) ?_
  rintro v w a ⟨rfl, hK⟩ hE
  have hM := hM.keep hK
  refine s_not hE goes_none (by decide) rfl ?_; intro a hE
  refine c_fin ?_
  refine c_cond hE rfl ?_ ?_
  · intro hb3
    have hF := ite_t hF hb3
    refine c_region ?_
    refine s_assign hE goes_none (by decide) rfl ?_; intro a hE
    refine c_fin ?_
    have hr := Option.some.inj hF
    subst hr
    exact wp_ret (r_then (k_ret1 hE rfl (res_tmp hE rfl) ⟨_, rfl, rfl, hM.kept⟩))
  · intro hb3
    have hF := ite_f hF hb3
    refine wp_skip ?_
    refine c_nx ?_
    refine c_region ?_
    refine s_move hE goes_none (by decide) rfl ?_; intro a hE
    obtain ⟨r4, e5, hF⟩ := bind_some hF
    refine s_call (vs := [v1_1]) hE goes_none (by decide) rfl cb128 (c_spec_l10Code _ p1 v1_1 (hM.rdo hv1_1) r4 e5) ?_
    rintro v w a ⟨rfl, hK⟩ hE
    have hM := hM.keep hK
    refine s_assign hE goes_none (by decide) rfl ?_; intro a hE
    refine c_fin ?_
    obtain ⟨j6, hl7, hF8⟩ := bind_some hF
    refine c_join (fun a w => Env 21 a [(7, (vI j6))] ∧ M (Old w0) w0 w []) ?_ ?_
    · skip
      obtain ⟨j9, hl10, hF11⟩ := bind_some hl7
      refine c_join (fun a w => Env 21 a [(7, (vI r4)), (19, (vT j9))] ∧ M (Old w0) w0 w []) ?_ ?_
      · skip
        refine wp_region_lit ?_
        refine s_move hE goes_none (by decide) rfl ?_; intro a hE
        refine s_int hE goes_none (by decide) rfl rfl rfl ?_; intro a hE
        refine s_move hE goes_none (by decide) rfl ?_; intro a hE
        refine splitB (r4 == 0) (fun hb12 => ?_) (fun hb12 => ?_)
        · have hl10 := ite_t hl10 hb12
          refine s_move hE (goes_yes hE rfl (lkb rfl hb12)) (by decide) rfl ?_; intro a hE
          obtain ⟨r13, e14, hl10⟩ := bind_some hl10
          refine s_call (vs := [(vI p2), (vI 1), (vI 8)]) hE (goes_yes hE rfl (lkb rfl hb12)) (by decide) rfl cb86 (c_spec_l01In _ p2 1 8 r13 e14) ?_
          rintro v w a ⟨rfl, hK⟩ hE
          have hM := hM.keep hK
          refine s_not hE (goes_yes hE rfl (lkb rfl hb12)) (by decide) rfl ?_; intro a hE
          refine s_pickT hE goes_none (by decide) (lkb rfl hb12) rfl ?_; intro a hE
          refine c_fin0 ?_
          have ht15 := Option.some.inj hl10
          subst ht15
          refine c_mid ?_
          exact ⟨hE.sub ⟨rfl, rfl, trivial⟩, hM⟩
        · have hl10 := ite_f hl10 hb12
          refine s_skip hE rfl (lkb rfl hb12) rfl (by decide) ?_; intro a hE
          refine s_skip hE rfl (lkb rfl hb12) rfl (by decide) ?_; intro a hE
          refine s_skip hE rfl (lkb rfl hb12) rfl (by decide) ?_; intro a hE
          refine s_pickF hE goes_none (by decide) (lkb rfl hb12) rfl ?_; intro a hE
          refine c_fin0 ?_
          have ht16 := Option.some.inj hl10
          subst ht16
          refine c_mid ?_
          exact ⟨hE.sub ⟨rfl, rfl, trivial⟩, hM⟩
      · skip
        rintro a w ⟨hE, hM⟩
        refine c_cond hE rfl ?_ ?_
        · intro hb17
          have hF11 := ite_t hF11 hb17
          refine wp_region_lit ?_
          refine s_assign hE goes_none (by decide) rfl ?_; intro a hE
          refine c_fin0 ?_
          have ht18 := Option.some.inj hF11
          subst ht18
          refine c_mid ?_
          exact ⟨hE.sub ⟨rfl, trivial⟩, hM⟩
        · intro hb17
          have hF11 := ite_f hF11 hb17
          refine wp_skip ?_
          have ht19 := Option.some.inj hF11
          subst ht19
          refine c_mid ?_
          exact ⟨hE.sub ⟨rfl, trivial⟩, hM⟩
    · skip
      rintro a w ⟨hE, hM⟩
      refine c_region ?_
      refine s_move hE goes_none (by decide) rfl ?_; intro a hE
      refine s_assign hE goes_none (by decide) rfl ?_; intro a hE
      refine c_fin ?_
      have hr := Option.some.inj hF8
      subst hr
      exact wp_ret (k_ret1 hE rfl (res_tmp hE rfl) ⟨_, rfl, rfl, hM.kept⟩)
noncomputable def L0_spec_l03Ones (s4 : Int × Int) : Option (Fl (Int × Int) Int) :=
  if (decide (s4.1 > 0)) = true then (some (Fl.nx (wr (Int.tdiv s4.1 2), wr (s4.2 + (Int.tmod s4.1 2))))) else (some (Fl.ex s4.2))
noncomputable def F_spec_l03Ones (p0 : Int) : Option (Int) :=
  (iter (L0_spec_l03Ones) (p0, 0) : Option (Int)).bind fun (j1 : Int) => some j1
set_option maxRecDepth 20000 in
set_option maxHeartbeats 400000 in
theorem c_spec_l03Ones (w0 : World) (p0 : Int) (r : Int) (hF : F_spec_l03Ones p0 = some r) :
    Calls Try.prog 169 [(vI p0)].toArray w0 (fun en w' => ∃ v, en = .returned v ∧ (v = (vI r) ∧ Kept (Old w0) w0 w')) := by
  refine c_enter (n := 13) Try.func169 rfl rfl (Nat.le_of_ble_eq_true rfl) rfl ?_
  intro a hE
  have hM := M.start w0
  unfold F_spec_l03Ones at hF
  refine c_region ?_
  refine s_assign hE goes_none (by decide) rfl ?_; intro a hE
  refine c_fin ?_
  refine c_region ?_
  refine s_assign hE goes_none (by decide) rfl ?_; intro a hE
  refine c_fin ?_
  obtain ⟨j1, hl2, hF3⟩ := bind_some hF
  refine c_join (fun a w => Env 13 a [(3, (vI j1))] ∧ M (Old w0) w0 w []) ?_ ?_
  · skip
    refine wp_block ?_
    refine c_loop (fun (s4 : Int × Int) a w => Env 13 a [(0, (vI s4.1)), (3, (vI s4.2))] ∧ M (Old w0) w0 w []) hl2 ⟨hE.sub ⟨rfl, rfl, trivial⟩, hM⟩ ?_
    rintro s4 a w ⟨hE, hM⟩ o7 hs5 hx6
    unfold L0_spec_l03Ones at hs5
    refine wp_seq ?_
    refine c_region ?_
    refine s_move hE goes_none (by decide) rfl ?_; intro a hE
    refine s_int hE goes_none (by decide) rfl rfl rfl ?_; intro a hE
    refine c_fin ?_
    refine c_cond hE rfl ?_ ?_
    · intro hb8
      have hs5 := ite_t hs5 hb8
      refine wp_skip ?_
      refine c_nx ?_
      refine wp_seq ?_
      refine wp_block ?_
      refine wp_region_lit ?_
      refine s_move hE goes_none (by decide) rfl ?_; intro a hE
      refine s_move hE goes_none (by decide) rfl ?_; intro a hE
      refine s_int hE goes_none (by decide) rfl rfl (bI_rem _ _ (by decide)) ?_; intro a hE
      refine s_int hE goes_none (by decide) rfl rfl rfl ?_; intro a hE
      refine s_assign hE goes_none (by decide) rfl ?_; intro a hE
      refine c_fin0 ?_
      refine c_nb ?_
      refine c_nx ?_
      refine wp_region_lit ?_
      refine s_move hE goes_none (by decide) rfl ?_; intro a hE
      refine s_int hE goes_none (by decide) rfl rfl (bI_quo _ _ (by decide)) ?_; intro a hE
      refine s_assign hE goes_none (by decide) rfl ?_; intro a hE
      refine c_fin0 ?_
      refine c_mid ?_
      exact ⟨_, (Option.some.inj hs5).symm, hE.sub ⟨rfl, rfl, trivial⟩, hM⟩
    · intro hb8
      have hs5 := ite_f hs5 hb8
      refine wp_exit (e_then (e_then (e_eq ?_)))
      have ht9 := hx6 _ (Option.some.inj hs5).symm
      subst ht9
      refine c_mid ?_
      exact ⟨hE.sub ⟨rfl, trivial⟩, hM⟩
  · skip
    rintro a w ⟨hE, hM⟩
    refine c_region ?_
    refine s_move hE goes_none (by decide) rfl ?_; intro a hE
    refine s_assign hE goes_none (by decide) rfl ?_; intro a hE
    refine c_fin ?_
    have hr := Option.some.inj hF3
    subst hr
    exact wp_ret (k_ret1 hE rfl (res_tmp hE rfl) ⟨_, rfl, rfl, hM.kept⟩)
noncomputable def F_spec_l10Less (p0 : Int) (p1 : Int) : Option (Bool) :=
  (if ((xorI p0 p1) != 0) = true then (some ((andI p0 (andI (xorI p0 p1) (wr (0 - (xorI p0 p1))))) != 0)) else (some false) : Option (Bool)).bind fun (j1 : Bool) => some j1
set_option maxRecDepth 20000 in
set_option maxHeartbeats 400000 in
theorem c_spec_l10Less (w0 : World) (p0 : Int) (p1 : Int) (r : Bool) (hF : F_spec_l10Less p0 p1 = some r) :
    Calls Try.prog 170 [(vI p0), (vI p1)].toArray w0 (fun en w' => ∃ v, en = .returned v ∧ (v = (vT r) ∧ Kept (Old w0) w0 w')) := by
  refine c_enter (n := 20) Try.func170 rfl rfl (Nat.le_of_ble_eq_true rfl) rfl ?_
  intro a hE
  have hM := M.start w0
  unfold F_spec_l10Less at hF
  refine c_region ?_
  refine s_assign hE goes_none (by decide) rfl ?_; intro a hE
  refine c_fin ?_
  refine c_region ?_
  refine s_move hE goes_none (by decide) rfl ?_; intro a hE
  refine s_move hE goes_none (by decide) rfl ?_; intro a hE
  refine s_int hE goes_none (by decide) rfl rfl rfl ?_; intro a hE
  refine s_assign hE goes_none (by decide) rfl ?_; intro a hE
  refine c_fin ?_
  obtain ⟨j1, hl2, hF3⟩ := bind_some hF
  refine c_join (fun a w => Env 20 a [(4, (vT j1))] ∧ M (Old w0) w0 w []) ?_ ?_
  · skip
    refine wp_region_lit ?_
    refine s_move hE goes_none (by decide) rfl ?_; intro a hE
    refine s_int hE goes_none (by decide) rfl rfl rfl ?_; intro a hE
    refine s_move hE goes_none (by decide) rfl ?_; intro a hE
    refine splitB ((xorI p0 p1) != 0) (fun hb4 => ?_) (fun hb4 => ?_)
    · have hl2 := ite_t hl2 hb4
      refine s_move hE (goes_yes hE rfl (lkb rfl hb4)) (by decide) rfl ?_; intro a hE
      refine s_move hE (goes_yes hE rfl (lkb rfl hb4)) (by decide) rfl ?_; intro a hE
      refine s_move hE (goes_yes hE rfl (lkb rfl hb4)) (by decide) rfl ?_; intro a hE
      refine s_neg hE (goes_yes hE rfl (lkb rfl hb4)) (by decide) rfl ?_; intro a hE
      refine s_int hE (goes_yes hE rfl (lkb rfl hb4)) (by decide) rfl rfl rfl ?_; intro a hE
      refine s_int hE (goes_yes hE rfl (lkb rfl hb4)) (by decide) rfl rfl rfl ?_; intro a hE
      refine s_int hE (goes_yes hE rfl (lkb rfl hb4)) (by decide) rfl rfl rfl ?_; intro a hE
      refine s_pickT hE goes_none (by decide) (lkb rfl hb4) rfl ?_; intro a hE
      refine s_assign hE goes_none (by decide) rfl ?_; intro a hE
      refine c_fin0 ?_
      have ht5 := Option.some.inj hl2
      subst ht5
      refine c_mid ?_
      exact ⟨hE.sub ⟨rfl, trivial⟩, hM⟩
    · have hl2 := ite_f hl2 hb4
      refine s_skip hE rfl (lkb rfl hb4) rfl (by decide) ?_; intro a hE
      refine s_skip hE rfl (lkb rfl hb4) rfl (by decide) ?_; intro a hE
      refine s_skip hE rfl (lkb rfl hb4) rfl (by decide) ?_; intro a hE
      refine s_skip hE rfl (lkb rfl hb4) rfl (by decide) ?_; intro a hE
      refine s_skip hE rfl (lkb rfl hb4) rfl (by decide) ?_; intro a hE
      refine s_skip hE rfl (lkb rfl hb4) rfl (by decide) ?_; intro a hE
      refine s_skip hE rfl (lkb rfl hb4) rfl (by decide) ?_; intro a hE
      refine s_pickF hE goes_none (by decide) (lkb rfl hb4) rfl ?_; intro a hE
      refine s_assign hE goes_none (by decide) rfl ?_; intro a hE
      refine c_fin0 ?_
      have ht6 := Option.some.inj hl2
      subst ht6
      refine c_mid ?_
      exact ⟨hE.sub ⟨rfl, trivial⟩, hM⟩
  · skip
    rintro a w ⟨hE, hM⟩
    have hr := Option.some.inj hF3
    subst hr
    exact wp_ret (k_ret1 hE rfl (res_tmp hE rfl) ⟨_, rfl, rfl, hM.kept⟩)
noncomputable def L0_spec_l10Some (p0 : (List GShare)) (p1 : Int) (s12 : (List GShare) × (List Int) × Int) : Option (Fl ((List GShare) × (List Int) × Int) ((List GShare) × (List Int))) :=
  if (decide (s12.2.2 < (p0.length : Int))) = true then (((nonneg (IntKind.u64.wrap s12.2.2)).bind fun _ => (if ((andI (shrI p1 (IntKind.u64.wrap s12.2.2)) 1) == 1) = true then ((idx p0 s12.2.2).bind fun (x37 : GShare) => (app 32 s12.1 ([x37] : List GShare)).bind fun (l47 : (List GShare)) => some ((s12.1 ++ ([x37] : List GShare)), s12.2.1)) else ((app 8 s12.2.1 ([s12.2.2] : List Int)).bind fun (l55 : (List Int)) => some (s12.1, (s12.2.1 ++ ([s12.2.2] : List Int)))) : Option ((List GShare) × (List Int))).bind fun (j29 : (List GShare) × (List Int)) => some (j29.1, j29.2) : Option ((List GShare) × (List Int))).bind fun (j21 : (List GShare) × (List Int)) => some (Fl.nx (j21.1, j21.2, wr (s12.2.2 + 1)))) else (some (Fl.ex (s12.1, s12.2.1)))
noncomputable def F_spec_l10Some (p0 : (List GShare)) (p1 : Int) : Option ((List GShare) × (List Int)) :=
  (iter (L0_spec_l10Some p0 p1) (([] : List GShare), ([] : List Int), 0) : Option ((List GShare) × (List Int))).bind fun (j5 : (List GShare) × (List Int)) => some (j5.1, j5.2)
set_option maxRecDepth 20000 in
set_option maxHeartbeats 400000 in
theorem c_spec_l10Some (w0 : World) (p0 : (List GShare)) (v0_1 : Value) (hv0_1 : Ro w0 p0 [v0_1]) (p1 : Int) (r : (List GShare) × (List Int)) (hF : F_spec_l10Some p0 p1 = some r) :
    Calls Try.prog 171 [v0_1, (vI p1)].toArray w0 (fun en w' => ∃ v, en = .returned v ∧ (∃ (y1 : Value) (y2 : Value), v = (Value.tuple [y1, y2].toArray) ∧ Fr w0 w' [osl NoB (r.2 : List Int) y2] ∧ Ro w' (r.1 : (List GShare)) [y1] ∧ Kept (Old w0) w0 w')) := by
  refine c_enter (n := 36) Try.func171 rfl rfl (Nat.le_of_ble_eq_true rfl) rfl ?_
  intro a hE
  have hM := M.start w0
  unfold F_spec_l10Some at hF
  refine c_region ?_
  refine s_assign hE goes_none (by decide) rfl ?_; intro a hE
  refine s_assign hE goes_none (by decide) rfl ?_; intro a hE
  refine c_fin ?_
  refine c_region ?_
  refine s_build (xs := []) (S := NoB) (l := ([] : List GShare)) (vs := []) hE hM.emp noB goes_none (by decide) rfl rfl rfl Try.underlying29 ty26 rfl (by decide) (fun _ h => ⟨rfl, h⟩) (fun _ h => by cases h) ?_; intro u1 w a hM hE
  refine s_buildF (xs := []) (l := ([] : List Int)) (vs := []) hE hM goes_none (by decide) rfl rfl Try.underlying51 ty2 rfl (by decide) rfl ?_; intro u3 w a hM hE
  refine s_assign hE goes_none (by decide) rfl ?_; intro a hE
  refine s_assign hE goes_none (by decide) rfl ?_; intro a hE
  refine c_fin ?_
  refine wp_seq ?_
  refine c_region ?_
  refine s_assign hE goes_none (by decide) rfl ?_; intro a hE
  refine c_fin ?_
  obtain ⟨j5, hl6, hF7⟩ := bind_some hF
  refine c_cut (fun a w => ∃ (u8 : Value) (u10 : Value), Env 36 a [(6, u8), (7, u10)] ∧ M (Old w0) w0 w [osl (Old w0) (j5.1 : List GShare) u8, osl NoB (j5.2 : List Int) u10]) ?_ ?_
  · skip
    refine wp_block ?_
    have hM := hM.pull (pre := [_])
    have hM := hM.oslWk (S' := Old w0) noB (fun _ h => h)
    refine c_loop (fun (s12 : (List GShare) × (List Int) × Int) a w => ∃ (u13 : Value) (u15 : Value), Env 36 a [(0, v0_1), (1, (vI p1)), (6, u13), (7, u15), (8, (vI s12.2.2))] ∧ M (Old w0) w0 w [osl (Old w0) (s12.1 : List GShare) u13, osl NoB (s12.2.1 : List Int) u15]) hl6 ⟨u1, u3, hE.sub ⟨rfl, rfl, rfl, rfl, rfl, trivial⟩, hM⟩ ?_
    rintro s12 a w ⟨u13, u15, hE, hM⟩ o19 hs17 hx18
    unfold L0_spec_l10Some at hs17
    refine wp_seq ?_
    refine c_region ?_
    refine s_move hE goes_none (by decide) rfl ?_; intro a hE
    refine s_move hE goes_none (by decide) rfl ?_; intro a hE
    refine s_len hE goes_none (by decide) rfl Try.underlying29 (hM.rd hv0_1) ?_; intro a hE
    refine s_int hE goes_none (by decide) rfl rfl rfl ?_; intro a hE
    refine c_fin ?_
    refine c_cond hE rfl ?_ ?_
    · intro hb20
      have hs17 := ite_t hs17 hb20
      refine wp_skip ?_
      refine c_nx ?_
      obtain ⟨j21, hl22, hF23⟩ := bind_some hs17
      refine c_join (fun a w => ∃ (u24 : Value) (u26 : Value), Env 36 a [(0, v0_1), (1, (vI p1)), (6, u24), (7, u26), (8, (vI s12.2.2))] ∧ M (Old w0) w0 w [osl (Old w0) (j21.1 : List GShare) u24, osl NoB (j21.2 : List Int) u26]) ?_ ?_
      · skip
        refine wp_block ?_
        refine c_region ?_
        refine s_move hE goes_none (by decide) rfl ?_; intro a hE
        refine s_move hE goes_none (by decide) rfl ?_; intro a hE
        refine s_conv hE goes_none (by decide) rfl Try.underlying3 Try.underlying147 ?_; intro a hE
        obtain ⟨_, e28, hl22⟩ := bind_some hl22
        have e28 := nonneg_some e28
        refine s_sh hE goes_none (by decide) rfl rfl (bI_shr _ _ e28) ?_; intro a hE
        refine s_int hE goes_none (by decide) rfl rfl rfl ?_; intro a hE
        refine s_int hE goes_none (by decide) rfl rfl rfl ?_; intro a hE
        refine c_fin ?_
        obtain ⟨j29, hl30, hF31⟩ := bind_some hl22
        refine c_cut (fun a w => ∃ (u32 : Value) (u34 : Value), Env 36 a [(0, v0_1), (1, (vI p1)), (6, u32), (7, u34), (8, (vI s12.2.2))] ∧ M (Old w0) w0 w [osl (Old w0) (j29.1 : List GShare) u32, osl NoB (j29.2 : List Int) u34]) ?_ ?_
        · skip
          refine c_cond hE rfl ?_ ?_
          · intro hb36
            have hl30 := ite_t hl30 hb36
            refine wp_region_lit ?_
            refine s_move hE goes_none (by decide) rfl ?_; intro a hE
            refine s_move hE goes_none (by decide) rfl ?_; intro a hE
            refine s_move hE goes_none (by decide) rfl ?_; intro a hE
            obtain ⟨x37, e38, hl30⟩ := bind_some hl30
            have hi39 := idx_some e38
            refine s_indexS hE goes_none (by decide) rfl rfl Try.underlying29 ty26 (hM.rd hv0_1) hi39.1 ?_; intro a hE
            obtain ⟨cs40, hs41, hA42⟩ := sl_atRo hv0_1 hi39.2 -- ^
            obtain ⟨u43, rfl, h44⟩ := un_GShare hs41 -- ^
            refine s_loadA (cs := cat [[(vB x37.Place)], [u43]]) hE goes_none (by decide) rfl ty26 rfl (hM.atk hA42 (sl_blk hv0_1 hi39.2)) (cat_len (cl1 (n := 1) (m := 1) rfl (cl1 (n := 1) (m := 0) rfl cl0))) ?_; intro a hE
            have hM := hM.addRo (S := (Old w0)) (x := x37) (cs := cat [[(vB x37.Place)], [u43]]) (fun _ h => h) (pk_GShare (hM.rd h44) (by simp))
            refine s_build1 (xs := [.tmp 27]) (seg := cat [[(vB x37.Place)], [u43]]) hE hM (fun _ h => h) goes_none (by decide) rfl rfl Try.underlying29 ty26 rfl (by decide) ?_; intro u45 w a hM hE
            obtain ⟨l47, e48, hl30⟩ := bind_some hl30
            obtain ⟨e51, rfl⟩ := app_some e48
            have hM := hM.pull (pre := [_])
            refine s_appendR hE hM (fun _ h => h) goes_none (by decide) rfl rfl Try.underlying29 ty26 rfl (by decide) e51 ?_; intro u49 w a hM hE
            refine s_assign hE goes_none (by decide) rfl ?_; intro a hE
            refine c_fin0 ?_
            have ht52 := Option.some.inj hl30
            subst ht52
            refine c_mid ?_
            exact ⟨u49, u15, hE.sub ⟨rfl, rfl, rfl, rfl, rfl, trivial⟩, hM⟩
          · intro hb36
            have hl30 := ite_f hl30 hb36
            refine wp_region_lit ?_
            refine s_move hE goes_none (by decide) rfl ?_; intro a hE
            refine s_move hE goes_none (by decide) rfl ?_; intro a hE
            refine s_buildF (xs := [.tmp 31]) (l := ([s12.2.2] : List Int)) (vs := [(vI s12.2.2)]) hE hM goes_none (by decide) rfl rfl Try.underlying51 ty2 rfl (by decide) rfl ?_; intro u53 w a hM hE
            obtain ⟨l55, e56, hl30⟩ := bind_some hl30
            obtain ⟨e59, rfl⟩ := app_some e56
            have hM := hM.pull (pre := [_, _])
            refine s_appendF hE hM goes_none (by decide) rfl rfl (hM.sl (pre := [_]) noB) Try.underlying51 ty2 rfl (by decide) e59 ?_; intro u57 w a hM hE
            refine s_assign hE goes_none (by decide) rfl ?_; intro a hE
            refine c_fin0 ?_
            have ht60 := Option.some.inj hl30
            subst ht60
            refine c_mid ?_
            have hM := hM.pull (pre := [_, _])
            have hM := M.fst (l := [_, _]) hM
            exact ⟨u13, u57, hE.sub ⟨rfl, rfl, rfl, rfl, rfl, trivial⟩, hM⟩
        · skip
          rintro a w ⟨u32, u34, hE, hM⟩
          refine c_nb ?_
          have ht61 := Option.some.inj hF31
          subst ht61
          refine c_mid ?_
          exact ⟨u32, u34, hE.sub ⟨rfl, rfl, rfl, rfl, rfl, trivial⟩, hM⟩
      · skip
        rintro a w ⟨u24, u26, hE, hM⟩
        refine wp_region_lit ?_
        refine s_move hE goes_none (by decide) rfl ?_; intro a hE
        refine s_int hE goes_none (by decide) rfl rfl rfl ?_; intro a hE
        refine s_assign hE goes_none (by decide) rfl ?_; intro a hE
        refine c_fin0 ?_
        refine c_mid ?_
        exact ⟨_, (Option.some.inj hF23).symm, u24, u26, hE.sub ⟨rfl, rfl, rfl, rfl, rfl, trivial⟩, hM⟩
    · intro hb20
      have hs17 := ite_f hs17 hb20
      refine wp_exit (e_then (e_then (e_eq ?_)))
      have ht62 := hx18 _ (Option.some.inj hs17).symm
      subst ht62
      refine c_mid ?_
      exact ⟨u13, u15, hE.sub ⟨rfl, rfl, trivial⟩, hM⟩
  · skip
    rintro a w ⟨u8, u10, hE, hM⟩
    refine c_nx ?_
    refine c_region ?_
    refine s_move hE goes_none (by decide) rfl ?_; intro a hE
    refine s_move hE goes_none (by decide) rfl ?_; intro a hE
    refine s_assign hE goes_none (by decide) rfl ?_; intro a hE
    refine s_assign hE goes_none (by decide) rfl ?_; intro a hE
    refine c_fin ?_
    have hr := Option.some.inj hF7
    subst hr
    have hro63 : Ro w (j5.1 : (List GShare)) [u8] := (hM.sl (pre := []) (fun _ h => h))
    have hM := hM.pull (pre := [_])
    have hM := M.fst (l := [_]) hM
    exact wp_ret (k_ret2 hE rfl (res_tmp hE rfl) (res_tmp hE rfl) ⟨_, rfl, u8, u10, rfl, hM.outF (locN1 locN0), hro63, hM.kept⟩)
noncomputable def L0_spec_l10Places (p0 : (List GShare)) (s8 : (List UInt8) × Int) : Option (Fl ((List UInt8) × Int) (List UInt8)) :=
  if (decide (s8.2 < (p0.length : Int))) = true then ((idx p0 s8.2).bind fun (x15 : GShare) => (app 1 s8.1 ([x15.Place] : List UInt8)).bind fun (l25 : (List UInt8)) => some (Fl.nx ((s8.1 ++ ([x15.Place] : List UInt8)), wr (s8.2 + 1)))) else (some (Fl.ex s8.1))
noncomputable def F_spec_l10Places (p0 : (List GShare)) : Option ((List UInt8)) :=
  (iter (L0_spec_l10Places p0) (([] : List UInt8), 0) : Option ((List UInt8))).bind fun (j3 : (List UInt8)) => some j3
set_option maxRecDepth 20000 in
set_option maxHeartbeats 400000 in
theorem c_spec_l10Places (w0 : World) (p0 : (List GShare)) (v0_1 : Value) (hv0_1 : Ro w0 p0 [v0_1]) (r : (List UInt8)) (hF : F_spec_l10Places p0 = some r) :
    Calls Try.prog 78 [v0_1].toArray w0 (fun en w' => ∃ v, en = .returned v ∧ (∃ (y1 : Value), v = y1 ∧ Fr w0 w' [osl NoB (r : List UInt8) y1] ∧ Kept (Old w0) w0 w')) := by
  refine c_enter (n := 21) Try.func78 rfl rfl (Nat.le_of_ble_eq_true rfl) rfl ?_
  intro a hE
  have hM := M.start w0
  unfold F_spec_l10Places at hF
  refine c_region ?_
  refine s_assign hE goes_none (by decide) rfl ?_; intro a hE
  refine c_fin ?_
  refine c_region ?_
  refine s_buildF (xs := []) (l := ([] : List UInt8)) (vs := []) hE hM goes_none (by decide) rfl rfl Try.underlying24 ty5 rfl (by decide) rfl ?_; intro u1 w a hM hE
  refine s_assign hE goes_none (by decide) rfl ?_; intro a hE
  refine c_fin ?_
  refine wp_seq ?_
  refine c_region ?_
  refine s_assign hE goes_none (by decide) rfl ?_; intro a hE
  refine c_fin ?_
  obtain ⟨j3, hl4, hF5⟩ := bind_some hF
  refine c_cut (fun a w => ∃ (u6 : Value), Env 21 a [(3, u6)] ∧ M (Old w0) w0 w [osl NoB (j3 : List UInt8) u6]) ?_ ?_
  · skip
    refine wp_block ?_
    refine c_loop (fun (s8 : (List UInt8) × Int) a w => ∃ (u9 : Value), Env 21 a [(0, v0_1), (3, u9), (4, (vI s8.2))] ∧ M (Old w0) w0 w [osl NoB (s8.1 : List UInt8) u9]) hl4 ⟨u1, hE.sub ⟨rfl, rfl, rfl, trivial⟩, hM⟩ ?_
    rintro s8 a w ⟨u9, hE, hM⟩ o13 hs11 hx12
    unfold L0_spec_l10Places at hs11
    refine wp_seq ?_
    refine c_region ?_
    refine s_move hE goes_none (by decide) rfl ?_; intro a hE
    refine s_move hE goes_none (by decide) rfl ?_; intro a hE
    refine s_len hE goes_none (by decide) rfl Try.underlying29 (hM.rd hv0_1) ?_; intro a hE
    refine s_int hE goes_none (by decide) rfl rfl rfl ?_; intro a hE
    refine c_fin ?_
    refine c_cond hE rfl ?_ ?_
    · intro hb14
      have hs11 := ite_t hs11 hb14
      refine wp_skip ?_
      refine c_nx ?_
      refine wp_seq ?_
      refine wp_block ?_
      refine wp_region_lit ?_
      refine s_move hE goes_none (by decide) rfl ?_; intro a hE
      refine s_move hE goes_none (by decide) rfl ?_; intro a hE
      refine s_move hE goes_none (by decide) rfl ?_; intro a hE
      obtain ⟨x15, e16, hs11⟩ := bind_some hs11
      have hi17 := idx_some e16
      refine s_indexS hE goes_none (by decide) rfl rfl Try.underlying29 ty26 (hM.rd hv0_1) hi17.1 ?_; intro a hE
      refine s_fieldAddr hE goes_none (by decide) rfl (fd26_0) ?_; intro a hE
      obtain ⟨cs18, hs19, hA20⟩ := sl_atRo hv0_1 hi17.2 -- ^
      obtain ⟨u21, rfl, h22⟩ := un_GShare hs19 -- ^
      refine s_load (v := (vB x15.Place)) hE goes_none (by decide) rfl ty5 rfl (At.cat (pre := []) (seg := [(vB x15.Place)]) (post := [[u21]]) (hM.atk hA20 (sl_blk hv0_1 hi17.2)) cl0) ?_; intro a hE
      refine s_buildF (xs := [.tmp 17]) (l := ([x15.Place] : List UInt8)) (vs := [(vB x15.Place)]) hE hM goes_none (by decide) rfl rfl Try.underlying24 ty5 rfl (by decide) rfl ?_; intro u23 w a hM hE
      obtain ⟨l25, e26, hs11⟩ := bind_some hs11
      obtain ⟨e29, rfl⟩ := app_some e26
      have hM := hM.pull (pre := [_])
      refine s_appendF hE hM goes_none (by decide) rfl rfl (hM.sl (pre := [_]) noB) Try.underlying24 ty5 rfl (by decide) e29 ?_; intro u27 w a hM hE
      refine s_assign hE goes_none (by decide) rfl ?_; intro a hE
      refine c_fin0 ?_
      refine c_nb ?_
      refine c_nx ?_
      refine wp_region_lit ?_
      refine s_move hE goes_none (by decide) rfl ?_; intro a hE
      refine s_int hE goes_none (by decide) rfl rfl rfl ?_; intro a hE
      refine s_assign hE goes_none (by decide) rfl ?_; intro a hE
      refine c_fin0 ?_
      refine c_mid ?_
      have hM := M.fst (l := [_]) hM
      exact ⟨_, (Option.some.inj hs11).symm, u27, hE.sub ⟨rfl, rfl, rfl, trivial⟩, hM⟩
    · intro hb14
      have hs11 := ite_f hs11 hb14
      refine wp_exit (e_then (e_then (e_eq ?_)))
      have ht30 := hx12 _ (Option.some.inj hs11).symm
      subst ht30
      refine c_mid ?_
      exact ⟨u9, hE.sub ⟨rfl, trivial⟩, hM⟩
  · skip
    rintro a w ⟨u6, hE, hM⟩
    refine c_nx ?_
    refine c_region ?_
    refine s_move hE goes_none (by decide) rfl ?_; intro a hE
    refine s_assign hE goes_none (by decide) rfl ?_; intro a hE
    refine c_fin ?_
    have hr := Option.some.inj hF5
    subst hr
    exact wp_ret (k_ret1 hE rfl (res_tmp hE rfl) ⟨_, rfl, u6, rfl, hM.outF (locN1 locN0), hM.kept⟩)
noncomputable def L0_spec_l01Times (p0 : Int) (s4 : Int × Int × Int) : Option (Fl (Int × Int × Int) Int) :=
  if (decide (s4.2.2 > 0)) = true then (((if ((Int.tmod s4.2.2 2) == 1) = true then (some (xorI s4.1 s4.2.1)) else (some s4.1) : Option (Int)).bind fun (j12 : Int) => (if (decide ((wr (s4.2.1 * 2)) ≥ 256)) = true then (some (xorI (wr (s4.2.1 * 2)) p0)) else (some (wr (s4.2.1 * 2))) : Option (Int)).bind fun (j18 : Int) => some (j12, j18) : Option (Int × Int)).bind fun (j9 : Int × Int) => some (Fl.nx (j9.1, j9.2, wr (Int.tdiv s4.2.2 2)))) else (some (Fl.ex s4.1))
noncomputable def F_spec_l01Times (p0 : Int) (p1 : UInt8) (p2 : UInt8) : Option (UInt8) :=
  (iter (L0_spec_l01Times p0) (0, bI p1, bI p2) : Option (Int)).bind fun (j1 : Int) => some (byteI j1)
set_option maxRecDepth 20000 in
set_option maxHeartbeats 400000 in
theorem c_spec_l01Times (w0 : World) (p0 : Int) (p1 : UInt8) (p2 : UInt8) (r : UInt8) (hF : F_spec_l01Times p0 p1 p2 = some r) :
    Calls Try.prog 183 [(vI p0), (vB p1), (vB p2)].toArray w0 (fun en w' => ∃ v, en = .returned v ∧ (v = (vB r) ∧ Kept (Old w0) w0 w')) := by
  refine c_enter (n := 33) Try.func183 rfl rfl (Nat.le_of_ble_eq_true rfl) rfl ?_
  intro a hE
  have hM := M.start w0
  unfold F_spec_l01Times at hF
  refine c_region ?_
  refine s_assign hE goes_none (by decide) rfl ?_; intro a hE
  refine c_fin ?_
  refine c_region ?_
  refine s_move hE goes_none (by decide) rfl ?_; intro a hE
  refine s_conv hE goes_none (by decide) rfl Try.underlying5 Try.underlying2 ?_; intro a hE
  rw [byte_wide] at hE
  refine s_assign hE goes_none (by decide) rfl ?_; intro a hE
  refine s_assign hE goes_none (by decide) rfl ?_; intro a hE
  refine c_fin ?_
  refine wp_seq ?_
  refine c_region ?_
  refine s_move hE goes_none (by decide) rfl ?_; intro a hE
  refine s_conv hE goes_none (by decide) rfl Try.underlying5 Try.underlying2 ?_; intro a hE
  rw [byte_wide] at hE
  refine s_assign hE goes_none (by decide) rfl ?_; intro a hE
  refine c_fin ?_
  obtain ⟨j1, hl2, hF3⟩ := bind_some hF
  refine c_cut (fun a w => Env 33 a [(7, (vI j1))] ∧ M (Old w0) w0 w []) ?_ ?_
  · skip
    refine wp_block ?_
    refine c_loop (fun (s4 : Int × Int × Int) a w => Env 33 a [(0, (vI p0)), (7, (vI s4.1)), (8, (vI s4.2.1)), (9, (vI s4.2.2))] ∧ M (Old w0) w0 w []) hl2 ⟨hE.sub ⟨rfl, rfl, rfl, rfl, trivial⟩, hM⟩ ?_
    rintro s4 a w ⟨hE, hM⟩ o7 hs5 hx6
    unfold L0_spec_l01Times at hs5
    refine wp_seq ?_
    refine c_region ?_
    refine s_move hE goes_none (by decide) rfl ?_; intro a hE
    refine s_int hE goes_none (by decide) rfl rfl rfl ?_; intro a hE
    refine c_fin ?_
    refine c_cond hE rfl ?_ ?_
    · intro hb8
      have hs5 := ite_t hs5 hb8
      refine wp_skip ?_
      refine c_nx ?_
      obtain ⟨j9, hl10, hF11⟩ := bind_some hs5
      refine c_join (fun a w => Env 33 a [(0, (vI p0)), (7, (vI j9.1)), (8, (vI j9.2)), (9, (vI s4.2.2))] ∧ M (Old w0) w0 w []) ?_ ?_
      · skip
        refine wp_block ?_
        obtain ⟨j12, hl13, hF14⟩ := bind_some hl10
        refine c_join (fun a w => Env 33 a [(0, (vI p0)), (7, (vI j12)), (8, (vI s4.2.1)), (9, (vI s4.2.2))] ∧ M (Old w0) w0 w []) ?_ ?_
        · skip
          refine c_region ?_
          refine s_move hE goes_none (by decide) rfl ?_; intro a hE
          refine s_int hE goes_none (by decide) rfl rfl (bI_rem _ _ (by decide)) ?_; intro a hE
          refine s_int hE goes_none (by decide) rfl rfl rfl ?_; intro a hE
          refine c_fin ?_
          refine c_cond hE rfl ?_ ?_
          · intro hb15
            have hl13 := ite_t hl13 hb15
            refine wp_region_lit ?_
            refine s_move hE goes_none (by decide) rfl ?_; intro a hE
            refine s_move hE goes_none (by decide) rfl ?_; intro a hE
            refine s_int hE goes_none (by decide) rfl rfl rfl ?_; intro a hE
            refine s_assign hE goes_none (by decide) rfl ?_; intro a hE
            refine c_fin0 ?_
            have ht16 := Option.some.inj hl13
            subst ht16
            refine c_mid ?_
            exact ⟨hE.sub ⟨rfl, rfl, rfl, rfl, trivial⟩, hM⟩
          · intro hb15
            have hl13 := ite_f hl13 hb15
            refine wp_skip ?_
            have ht17 := Option.some.inj hl13
            subst ht17
            refine c_mid ?_
            exact ⟨hE.sub ⟨rfl, rfl, rfl, rfl, trivial⟩, hM⟩
        · skip
          rintro a w ⟨hE, hM⟩
          refine c_region ?_
          refine s_move hE goes_none (by decide) rfl ?_; intro a hE
          refine s_int hE goes_none (by decide) rfl rfl rfl ?_; intro a hE
          refine s_assign hE goes_none (by decide) rfl ?_; intro a hE
          refine c_fin ?_
          refine c_region ?_
          refine s_move hE goes_none (by decide) rfl ?_; intro a hE
          refine s_int hE goes_none (by decide) rfl rfl rfl ?_; intro a hE
          refine c_fin ?_
          obtain ⟨j18, hl19, hF20⟩ := bind_some hF14
          refine c_cut (fun a w => Env 33 a [(0, (vI p0)), (7, (vI j12)), (8, (vI j18)), (9, (vI s4.2.2))] ∧ M (Old w0) w0 w []) ?_ ?_
          · skip
            refine c_cond hE rfl ?_ ?_
            · intro hb21
              have hl19 := ite_t hl19 hb21
              refine wp_region_lit ?_
              refine s_move hE goes_none (by decide) rfl ?_; intro a hE
              refine s_move hE goes_none (by decide) rfl ?_; intro a hE
              refine s_int hE goes_none (by decide) rfl rfl rfl ?_; intro a hE
              refine s_assign hE goes_none (by decide) rfl ?_; intro a hE
              refine c_fin0 ?_
              have ht22 := Option.some.inj hl19
              subst ht22
              refine c_mid ?_
              exact ⟨hE.sub ⟨rfl, rfl, rfl, rfl, trivial⟩, hM⟩
            · intro hb21
              have hl19 := ite_f hl19 hb21
              refine wp_skip ?_
              have ht23 := Option.some.inj hl19
              subst ht23
              refine c_mid ?_
              exact ⟨hE.sub ⟨rfl, rfl, rfl, rfl, trivial⟩, hM⟩
          · skip
            rintro a w ⟨hE, hM⟩
            refine c_nb ?_
            have ht24 := Option.some.inj hF20
            subst ht24
            refine c_mid ?_
            exact ⟨hE.sub ⟨rfl, rfl, rfl, rfl, trivial⟩, hM⟩
      · skip
        rintro a w ⟨hE, hM⟩
        refine wp_region_lit ?_
        refine s_move hE goes_none (by decide) rfl ?_; intro a hE
        refine s_int hE goes_none (by decide) rfl rfl (bI_quo _ _ (by decide)) ?_; intro a hE
        refine s_assign hE goes_none (by decide) rfl ?_; intro a hE
        refine c_fin0 ?_
        refine c_mid ?_
        exact ⟨_, (Option.some.inj hF11).symm, hE.sub ⟨rfl, rfl, rfl, rfl, trivial⟩, hM⟩
    · intro hb8
      have hs5 := ite_f hs5 hb8
      refine wp_exit (e_then (e_then (e_eq ?_)))
      have ht25 := hx6 _ (Option.some.inj hs5).symm
      subst ht25
      refine c_mid ?_
      exact ⟨hE.sub ⟨rfl, trivial⟩, hM⟩
  · skip
    rintro a w ⟨hE, hM⟩
    refine c_nx ?_
    refine c_region ?_
    refine s_move hE goes_none (by decide) rfl ?_; intro a hE
    refine s_conv hE goes_none (by decide) rfl Try.underlying2 Try.underlying5 ?_; intro a hE
    rw [byteI_val] at hE
    refine s_assign hE goes_none (by decide) rfl ?_; intro a hE
    refine c_fin ?_
    have hr := Option.some.inj hF3
    subst hr
    exact wp_ret (k_ret1 hE rfl (res_tmp hE rfl) ⟨_, rfl, rfl, hM.kept⟩)
noncomputable def L0_spec_l01Power (p0 : Int) (s4 : UInt8 × Int × UInt8) : Option (Fl (UInt8 × Int × UInt8) UInt8) :=
  if (decide (s4.2.1 > 0)) = true then (((if ((Int.tmod s4.2.1 2) == 1) = true then ((F_spec_l01Times p0 s4.2.2 s4.1).bind fun (r16 : UInt8) => some r16) else (some s4.2.2) : Option (UInt8)).bind fun (j12 : UInt8) => (F_spec_l01Times p0 s4.1 s4.1).bind fun (r20 : UInt8) => some (r20, j12) : Option (UInt8 × UInt8)).bind fun (j9 : UInt8 × UInt8) => some (Fl.nx (j9.1, wr (Int.tdiv s4.2.1 2), j9.2))) else (some (Fl.ex s4.2.2))
noncomputable def F_spec_l01Power (p0 : Int) (p1 : UInt8) (p2 : Int) : Option (UInt8) :=
  (iter (L0_spec_l01Power p0) (p1, p2, 1) : Option (UInt8)).bind fun (j1 : UInt8) => some j1
set_option maxRecDepth 20000 in
set_option maxHeartbeats 400000 in
theorem c_spec_l01Power (w0 : World) (p0 : Int) (p1 : UInt8) (p2 : Int) (r : UInt8) (hF : F_spec_l01Power p0 p1 p2 = some r) :
    Calls Try.prog 200 [(vI p0), (vB p1), (vI p2)].toArray w0 (fun en w' => ∃ v, en = .returned v ∧ (v = (vB r) ∧ Kept (Old w0) w0 w')) := by
  refine c_enter (n := 24) Try.func200 rfl rfl (Nat.le_of_ble_eq_true rfl) rfl ?_
  intro a hE
  have hM := M.start w0
  unfold F_spec_l01Power at hF
  refine c_region ?_
  refine s_assign hE goes_none (by decide) rfl ?_; intro a hE
  refine c_fin ?_
  refine c_region ?_
  refine s_assign hE goes_none (by decide) rfl ?_; intro a hE
  refine c_fin ?_
  obtain ⟨j1, hl2, hF3⟩ := bind_some hF
  refine c_join (fun a w => Env 24 a [(7, (vB j1))] ∧ M (Old w0) w0 w []) ?_ ?_
  · skip
    refine wp_block ?_
    refine c_loop (fun (s4 : UInt8 × Int × UInt8) a w => Env 24 a [(0, (vI p0)), (1, (vB s4.1)), (2, (vI s4.2.1)), (7, (vB s4.2.2))] ∧ M (Old w0) w0 w []) hl2 ⟨hE.sub ⟨rfl, rfl, rfl, rfl, trivial⟩, hM⟩ ?_
    rintro s4 a w ⟨hE, hM⟩ o7 hs5 hx6
    unfold L0_spec_l01Power at hs5
    refine wp_seq ?_
    refine c_region ?_
    refine s_move hE goes_none (by decide) rfl ?_; intro a hE
    refine s_int hE goes_none (by decide) rfl rfl rfl ?_; intro a hE
    refine c_fin ?_
    refine c_cond hE rfl ?_ ?_
    · intro hb8
      have hs5 := ite_t hs5 hb8
      refine wp_skip ?_
      refine c_nx ?_
      obtain ⟨j9, hl10, hF11⟩ := bind_some hs5
      refine c_join (fun a w => Env 24 a [(0, (vI p0)), (1, (vB j9.1)), (2, (vI s4.2.1)), (7, (vB j9.2))] ∧ M (Old w0) w0 w []) ?_ ?_
      · skip
        refine wp_block ?_
        obtain ⟨j12, hl13, hF14⟩ := bind_some hl10
        refine c_join (fun a w => Env 24 a [(0, (vI p0)), (1, (vB s4.1)), (2, (vI s4.2.1)), (7, (vB j12))] ∧ M (Old w0) w0 w []) ?_ ?_
        · skip
          refine c_region ?_
          refine s_move hE goes_none (by decide) rfl ?_; intro a hE
          refine s_int hE goes_none (by decide) rfl rfl (bI_rem _ _ (by decide)) ?_; intro a hE
          refine s_int hE goes_none (by decide) rfl rfl rfl ?_; intro a hE
          refine c_fin ?_
          refine c_cond hE rfl ?_ ?_
          · intro hb15
            have hl13 := ite_t hl13 hb15
            refine wp_region_lit ?_
            refine s_move hE goes_none (by decide) rfl ?_; intro a hE
            refine s_move hE goes_none (by decide) rfl ?_; intro a hE
            refine s_move hE goes_none (by decide) rfl ?_; intro a hE
            obtain ⟨r16, e17, hl13⟩ := bind_some hl13
            refine s_call (vs := [(vI p0), (vB s4.2.2), (vB s4.1)]) hE goes_none (by decide) rfl cb183 (c_spec_l01Times _ p0 s4.2.2 s4.1 r16 e17) ?_
            rintro v w a ⟨rfl, hK⟩ hE
            have hM := hM.keep hK
            refine s_assign hE goes_none (by decide) rfl ?_; intro a hE
            refine c_fin0 ?_
            have ht18 := Option.some.inj hl13
            subst ht18
            refine c_mid ?_
            exact ⟨hE.sub ⟨rfl, rfl, rfl, rfl, trivial⟩, hM⟩
          · intro hb15
            have hl13 := ite_f hl13 hb15
            refine wp_skip ?_
            have ht19 := Option.some.inj hl13
            subst ht19
            refine c_mid ?_
            exact ⟨hE.sub ⟨rfl, rfl, rfl, rfl, trivial⟩, hM⟩
        · skip
          rintro a w ⟨hE, hM⟩
          refine wp_region_lit ?_
          refine s_move hE goes_none (by decide) rfl ?_; intro a hE
          refine s_move hE goes_none (by decide) rfl ?_; intro a hE
          refine s_move hE goes_none (by decide) rfl ?_; intro a hE
          obtain ⟨r20, e21, hF14⟩ := bind_some hF14
          refine s_call (vs := [(vI p0), (vB s4.1), (vB s4.1)]) hE goes_none (by decide) rfl cb183 (c_spec_l01Times _ p0 s4.1 s4.1 r20 e21) ?_
          rintro v w a ⟨rfl, hK⟩ hE
          have hM := hM.keep hK
          refine s_assign hE goes_none (by decide) rfl ?_; intro a hE
          refine c_fin0 ?_
          refine c_nb ?_
          have ht22 := Option.some.inj hF14
          subst ht22
          refine c_mid ?_
          exact ⟨hE.sub ⟨rfl, rfl, rfl, rfl, trivial⟩, hM⟩
      · skip
        rintro a w ⟨hE, hM⟩
        refine wp_region_lit ?_
        refine s_move hE goes_none (by decide) rfl ?_; intro a hE
        refine s_int hE goes_none (by decide) rfl rfl (bI_quo _ _ (by decide)) ?_; intro a hE
        refine s_assign hE goes_none (by decide) rfl ?_; intro a hE
        refine c_fin0 ?_
        refine c_mid ?_
        exact ⟨_, (Option.some.inj hF11).symm, hE.sub ⟨rfl, rfl, rfl, rfl, trivial⟩, hM⟩
    · intro hb8
      have hs5 := ite_f hs5 hb8
      refine wp_exit (e_then (e_then (e_eq ?_)))
      have ht23 := hx6 _ (Option.some.inj hs5).symm
      subst ht23
      refine c_mid ?_
      exact ⟨hE.sub ⟨rfl, trivial⟩, hM⟩
  · skip
    rintro a w ⟨hE, hM⟩
    refine c_region ?_
    refine s_move hE goes_none (by decide) rfl ?_; intro a hE
    refine s_assign hE goes_none (by decide) rfl ?_; intro a hE
    refine c_fin ?_
    have hr := Option.some.inj hF3
    subst hr
    exact wp_ret (k_ret1 hE rfl (res_tmp hE rfl) ⟨_, rfl, rfl, hM.kept⟩)
noncomputable def F_spec_l01Inv (p0 : Int) (p1 : UInt8) : Option (UInt8) :=
  (F_spec_l01Power p0 p1 254).bind fun (r1 : UInt8) => some r1
set_option maxRecDepth 20000 in
set_option maxHeartbeats 400000 in
theorem c_spec_l01Inv (w0 : World) (p0 : Int) (p1 : UInt8) (r : UInt8) (hF : F_spec_l01Inv p0 p1 = some r) :
    Calls Try.prog 184 [(vI p0), (vB p1)].toArray w0 (fun en w' => ∃ v, en = .returned v ∧ (v = (vB r) ∧ Kept (Old w0) w0 w')) := by
  refine c_enter (n := 8) Try.func184 rfl rfl (Nat.le_of_ble_eq_true rfl) rfl ?_
  intro a hE
  have hM := M.start w0
  unfold F_spec_l01Inv at hF
  refine c_region ?_
  refine s_assign hE goes_none (by decide) rfl ?_; intro a hE
  refine c_fin ?_
  refine c_region ?_
  refine s_move hE goes_none (by decide) rfl ?_; intro a hE
  refine s_move hE goes_none (by decide) rfl ?_; intro a hE
  obtain ⟨r1, e2, hF⟩ := bind_some hF
  refine s_call (vs := [(vI p0), (vB p1), (vI 254)]) hE goes_none (by decide) rfl cb200 (c_spec_l01Power _ p0 p1 254 r1 e2) ?_
  rintro v w a ⟨rfl, hK⟩ hE
  have hM := hM.keep hK
  refine s_assign hE goes_none (by decide) rfl ?_; intro a hE
  refine c_fin ?_
  have hr := Option.some.inj hF
  subst hr
  exact wp_ret (k_ret1 hE rfl (res_tmp hE rfl) ⟨_, rfl, rfl, hM.kept⟩)
noncomputable def L2_spec_l01Interpolate (p0 : Int) (p1 : (List UInt8)) (s24 : UInt8 × Int × (List UInt8)) (s47 : (List UInt8) × Int) : Option (Fl ((List UInt8) × Int) (List UInt8)) :=
  if (decide (s47.2 < (s24.2.2.length : Int))) = true then (((idx s47.1 s47.2).bind fun (x60 : UInt8) => (idx s24.2.2 s47.2).bind fun (x63 : UInt8) => (idx p1 s24.2.1).bind fun (x66 : UInt8) => (F_spec_l01Times p0 x63 x66).bind fun (r69 : UInt8) => (idx s47.1 s47.2).bind fun (x71 : UInt8) => some (s47.1.set (s47.2).toNat (x60 ^^^ r69)) : Option ((List UInt8))).bind fun (j54 : (List UInt8)) => (idx j54 (wr (s47.2 + 1))).bind fun (x76 : UInt8) => (idx s24.2.2 s47.2).bind fun (x79 : UInt8) => (idx j54 (wr (s47.2 + 1))).bind fun (x82 : UInt8) => some (Fl.nx ((j54.set ((wr (s47.2 + 1))).toNat (x76 ^^^ x79)), wr (s47.2 + 1)))) else (some (Fl.ex s47.1))
noncomputable def L1_spec_l01Interpolate (p0 : Int) (p1 : (List UInt8)) (s10 : (List UInt8) × Int) (s24 : UInt8 × Int × (List UInt8)) : Option (Fl (UInt8 × Int × (List UInt8)) (UInt8 × (List UInt8))) :=
  if (decide (s24.2.1 < (p1.length : Int))) = true then ((if (s24.2.1 == s10.2) = true then (some (s24.1, s24.2.2)) else ((mkS 1 (0 : UInt8) (wr ((s24.2.2.length : Int) + 1))).bind fun (l38 : (List UInt8)) => (iter (L2_spec_l01Interpolate p0 p1 s24) (l38, 0) : Option ((List UInt8))).bind fun (j42 : (List UInt8)) => (idx p1 s10.2).bind fun (x87 : UInt8) => (idx p1 s24.2.1).bind fun (x90 : UInt8) => (F_spec_l01Times p0 s24.1 (x87 ^^^ x90)).bind fun (r93 : UInt8) => some (r93, j42)) : Option (UInt8 × (List UInt8))).bind fun (j31 : UInt8 × (List UInt8)) => some (Fl.nx (j31.1, wr (s24.2.1 + 1), j31.2))) else (some (Fl.ex (s24.1, s24.2.2)))
noncomputable def L3_spec_l01Interpolate (p0 : Int) (j19 : UInt8 × (List UInt8)) (j97 : UInt8) (s114 : Int × (List UInt8)) : Option (Fl (Int × (List UInt8)) (List UInt8)) :=
  if (decide (s114.1 < (j19.2.length : Int))) = true then ((idx s114.2 s114.1).bind fun (x122 : UInt8) => (idx j19.2 s114.1).bind fun (x125 : UInt8) => (F_spec_l01Times p0 x125 j97).bind fun (r128 : UInt8) => (idx s114.2 s114.1).bind fun (x130 : UInt8) => some (Fl.nx (wr (s114.1 + 1), (s114.2.set (s114.1).toNat (x122 ^^^ r128))))) else (some (Fl.ex s114.2))
noncomputable def L0_spec_l01Interpolate (p0 : Int) (p1 : (List UInt8)) (p2 : (List UInt8)) (s10 : (List UInt8) × Int) : Option (Fl ((List UInt8) × Int) (List UInt8)) :=
  if (decide (s10.2 < (p1.length : Int))) = true then ((iter (L1_spec_l01Interpolate p0 p1 s10) (1, 0, ([1] : List UInt8)) : Option (UInt8 × (List UInt8))).bind fun (j19 : UInt8 × (List UInt8)) => ((idx p2 s10.2).bind fun (x101 : UInt8) => (F_spec_l01Inv p0 j19.1).bind fun (r104 : UInt8) => (F_spec_l01Times p0 x101 r104).bind fun (r106 : UInt8) => some r106 : Option (UInt8)).bind fun (j97 : UInt8) => (iter (L3_spec_l01Interpolate p0 j19 j97) (0, s10.1) : Option ((List UInt8))).bind fun (j109 : (List UInt8)) => some (Fl.nx (j109, wr (s10.2 + 1)))) else (some (Fl.ex s10.1))
noncomputable def F_spec_l01Interpolate (p0 : Int) (p1 : (List UInt8)) (p2 : (List UInt8)) : Option ((List UInt8)) :=
  (mkS 1 (0 : UInt8) (p1.length : Int)).bind fun (l1 : (List UInt8)) => (iter (L0_spec_l01Interpolate p0 p1 p2) (l1, 0) : Option ((List UInt8))).bind fun (j5 : (List UInt8)) => some j5
set_option maxRecDepth 20000 in
set_option maxHeartbeats 400000 in
theorem c_spec_l01Interpolate (w0 : World) (p0 : Int) (p1 : (List UInt8)) (v1_1 : Value) (hv1_1 : Ro w0 p1 [v1_1]) (p2 : (List UInt8)) (v2_1 : Value) (hv2_1 : Ro w0 p2 [v2_1]) (r : (List UInt8)) (hF : F_spec_l01Interpolate p0 p1 p2 = some r) :
    Calls Try.prog 131 [(vI p0), v1_1, v2_1].toArray w0 (fun en w' => ∃ v, en = .returned v ∧ (∃ (y1 : Value), v = y1 ∧ Fr w0 w' [osl NoB (r : List UInt8) y1] ∧ Kept (Old w0) w0 w')) := by
  refine c_enter (n := 121) Try.func131 rfl rfl (Nat.le_of_ble_eq_true rfl) rfl ?_
  intro a hE
  have hM := M.start w0
  unfold F_spec_l01Interpolate at hF
  refine c_region ?_
  refine s_assign hE goes_none (by decide) rfl ?_; intro a hE
  refine c_fin ?_
  refine c_region ?_
  refine s_move hE goes_none (by decide) rfl ?_; intro a hE
  refine s_len hE goes_none (by decide) rfl Try.underlying24 (hM.rd hv1_1) ?_; intro a hE
  obtain ⟨l1, e2, hF⟩ := bind_some hF
  refine s_make hE hM goes_none (by decide) rfl rfl Try.underlying24 ty5 rfl (by decide) (fun _ => sat_flat.2 ⟨rfl, rfl⟩) e2 ?_; intro u3 w a hM hE
  refine s_assign hE goes_none (by decide) rfl ?_; intro a hE
  refine c_fin ?_
  refine wp_seq ?_
  refine c_region ?_
  refine s_assign hE goes_none (by decide) rfl ?_; intro a hE
  refine c_fin ?_
  obtain ⟨j5, hl6, hF7⟩ := bind_some hF
  refine c_cut (fun a w => ∃ (u8 : Value), Env 121 a [(7, u8)] ∧ M (Old w0) w0 w [osl NoB (j5 : List UInt8) u8]) ?_ ?_
  · skip
    refine wp_block ?_
    refine c_loop (fun (s10 : (List UInt8) × Int) a w => ∃ (u11 : Value), Env 121 a [(0, (vI p0)), (1, v1_1), (2, v2_1), (7, u11), (8, (vI s10.2))] ∧ M (Old w0) w0 w [osl NoB (s10.1 : List UInt8) u11]) hl6 ⟨u3, hE.sub ⟨rfl, rfl, rfl, rfl, rfl, trivial⟩, hM⟩ ?_
    rintro s10 a w ⟨u11, hE, hM⟩ o15 hs13 hx14
    unfold L0_spec_l01Interpolate at hs13
    refine wp_seq ?_
    refine c_region ?_
    refine s_move hE goes_none (by decide) rfl ?_; intro a hE
    refine s_move hE goes_none (by decide) rfl ?_; intro a hE
    refine s_len hE goes_none (by decide) rfl Try.underlying24 (hM.rd hv1_1) ?_; intro a hE
    refine s_int hE goes_none (by decide) rfl rfl rfl ?_; intro a hE
    refine c_fin ?_
    refine c_cond hE rfl ?_ ?_
    · intro hb16
      have hs13 := ite_t hs13 hb16
      refine wp_skip ?_
      refine c_nx ?_
      refine wp_seq ?_
      refine wp_block ?_
      refine c_region ?_
      refine s_buildF (xs := [.const (vB 1)]) (l := ([1] : List UInt8)) (vs := [(vB 1)]) hE hM goes_none (by decide) rfl rfl Try.underlying24 ty5 rfl (by decide) rfl ?_; intro u17 w a hM hE
      refine s_assign hE goes_none (by decide) rfl ?_; intro a hE
      refine s_assign hE goes_none (by decide) rfl ?_; intro a hE
      refine c_fin ?_
      refine wp_seq ?_
      refine c_region ?_
      refine s_assign hE goes_none (by decide) rfl ?_; intro a hE
      refine c_fin ?_
      obtain ⟨j19, hl20, hF21⟩ := bind_some hs13
      refine c_cut (fun a w => ∃ (u22 : Value), Env 121 a [(0, (vI p0)), (1, v1_1), (2, v2_1), (7, u11), (8, (vI s10.2)), (9, u22), (10, (vB j19.1))] ∧ M (Old w0) w0 w [osl NoB (s10.1 : List UInt8) u11, osl NoB (j19.2 : List UInt8) u22]) ?_ ?_
      · skip
        refine wp_block ?_
        have hM := hM.pull (pre := [_])
        refine c_loop (fun (s24 : UInt8 × Int × (List UInt8)) a w => ∃ (u25 : Value), Env 121 a [(0, (vI p0)), (1, v1_1), (2, v2_1), (7, u11), (8, (vI s10.2)), (9, u25), (10, (vB s24.1)), (11, (vI s24.2.1))] ∧ M (Old w0) w0 w [osl NoB (s10.1 : List UInt8) u11, osl NoB (s24.2.2 : List UInt8) u25]) hl20 ⟨u17, hE.sub ⟨rfl, rfl, rfl, rfl, rfl, rfl, rfl, rfl, trivial⟩, hM⟩ ?_
        rintro s24 a w ⟨u25, hE, hM⟩ o29 hs27 hx28
        unfold L1_spec_l01Interpolate at hs27
        refine wp_seq ?_
        refine c_region ?_
        refine s_move hE goes_none (by decide) rfl ?_; intro a hE
        refine s_move hE goes_none (by decide) rfl ?_; intro a hE
        refine s_len hE goes_none (by decide) rfl Try.underlying24 (hM.rd hv1_1) ?_; intro a hE
        refine s_int hE goes_none (by decide) rfl rfl rfl ?_; intro a hE
        refine c_fin ?_
        refine c_cond hE rfl ?_ ?_
        · intro hb30
          have hs27 := ite_t hs27 hb30
          refine wp_skip ?_
          refine c_nx ?_
          obtain ⟨j31, hl32, hF33⟩ := bind_some hs27
          refine c_join (fun a w => ∃ (u34 : Value), Env 121 a [(0, (vI p0)), (1, v1_1), (2, v2_1), (7, u11), (8, (vI s10.2)), (9, u34), (10, (vB j31.1)), (11, (vI s24.2.1))] ∧ M (Old w0) w0 w [osl NoB (s10.1 : List UInt8) u11, osl NoB (j31.2 : List UInt8) u34]) ?_ ?_
          · skip
            refine wp_block ?_
            refine wp_seq ?_
            refine c_region ?_
            refine s_move hE goes_none (by decide) rfl ?_; intro a hE
            refine s_move hE goes_none (by decide) rfl ?_; intro a hE
            refine s_int hE goes_none (by decide) rfl rfl rfl ?_; intro a hE
            refine c_fin ?_
            refine c_cond hE rfl ?_ ?_
            · intro hb36
              have hl32 := ite_t hl32 hb36
              refine wp_exit (e_then (e_eq ?_))
              have ht37 := Option.some.inj hl32
              subst ht37
              refine c_mid ?_
              exact ⟨u25, hE.sub ⟨rfl, rfl, rfl, rfl, rfl, rfl, rfl, rfl, trivial⟩, hM⟩
            · intro hb36
              have hl32 := ite_f hl32 hb36
              refine wp_skip ?_
              refine c_nx ?_
              refine c_region ?_
              refine s_move hE goes_none (by decide) rfl ?_; intro a hE
              refine s_len hE goes_none (by decide) rfl Try.underlying24 (hM.sl (pre := [_]) noB) ?_; intro a hE
              refine s_int hE goes_none (by decide) rfl rfl rfl ?_; intro a hE
              obtain ⟨l38, e39, hl32⟩ := bind_some hl32
              refine s_make hE hM goes_none (by decide) rfl rfl Try.underlying24 ty5 rfl (by decide) (fun _ => sat_flat.2 ⟨rfl, rfl⟩) e39 ?_; intro u40 w a hM hE
              refine s_assign hE goes_none (by decide) rfl ?_; intro a hE
              refine c_fin ?_
              refine wp_seq ?_
              refine c_region ?_
              refine s_assign hE goes_none (by decide) rfl ?_; intro a hE
              refine c_fin ?_
              obtain ⟨j42, hl43, hF44⟩ := bind_some hl32
              refine c_cut (fun a w => ∃ (u45 : Value), Env 121 a [(0, (vI p0)), (1, v1_1), (2, v2_1), (7, u11), (8, (vI s10.2)), (10, (vB s24.1)), (11, (vI s24.2.1)), (12, u45)] ∧ M (Old w0) w0 w [osl NoB (s10.1 : List UInt8) u11, osl NoB (j42 : List UInt8) u45]) ?_ ?_
              · skip
                refine wp_block ?_
                have hM := hM.pull (pre := [_, _])
                have hM := hM.pull (pre := [_, _])
                refine c_loop (fun (s47 : (List UInt8) × Int) a w => ∃ (u48 : Value), Env 121 a [(0, (vI p0)), (1, v1_1), (2, v2_1), (7, u11), (8, (vI s10.2)), (9, u25), (10, (vB s24.1)), (11, (vI s24.2.1)), (12, u48), (13, (vI s47.2))] ∧ M (Old w0) w0 w [osl NoB (s10.1 : List UInt8) u11, osl NoB (s24.2.2 : List UInt8) u25, osl NoB (s47.1 : List UInt8) u48]) hl43 ⟨u40, hE.sub ⟨rfl, rfl, rfl, rfl, rfl, rfl, rfl, rfl, rfl, rfl, trivial⟩, hM⟩ ?_
                rintro s47 a w ⟨u48, hE, hM⟩ o52 hs50 hx51
                unfold L2_spec_l01Interpolate at hs50
                refine wp_seq ?_
                refine c_region ?_
                refine s_move hE goes_none (by decide) rfl ?_; intro a hE
                refine s_move hE goes_none (by decide) rfl ?_; intro a hE
                refine s_len hE goes_none (by decide) rfl Try.underlying24 (hM.sl (pre := [_]) noB) ?_; intro a hE
                refine s_int hE goes_none (by decide) rfl rfl rfl ?_; intro a hE
                refine c_fin ?_
                refine c_cond hE rfl ?_ ?_
                · intro hb53
                  have hs50 := ite_t hs50 hb53
                  refine wp_skip ?_
                  refine c_nx ?_
                  refine wp_seq ?_
                  refine wp_block ?_
                  obtain ⟨j54, hl55, hF56⟩ := bind_some hs50
                  refine c_join (fun a w => ∃ (u57 : Value), Env 121 a [(0, (vI p0)), (1, v1_1), (2, v2_1), (7, u11), (8, (vI s10.2)), (9, u25), (10, (vB s24.1)), (11, (vI s24.2.1)), (12, u57), (13, (vI s47.2))] ∧ M (Old w0) w0 w [osl NoB (s10.1 : List UInt8) u11, osl NoB (s24.2.2 : List UInt8) u25, osl NoB (j54 : List UInt8) u57]) ?_ ?_
                  · skip
                    obtain ⟨x60, e61, hl55⟩ := bind_some hl55
                    have hi62 := idx_some e61
                    obtain ⟨x63, e64, hl55⟩ := bind_some hl55
                    have hi65 := idx_some e64
                    obtain ⟨x66, e67, hl55⟩ := bind_some hl55
                    have hi68 := idx_some e67
                    obtain ⟨r69, e70, hl55⟩ := bind_some hl55
                    obtain ⟨x71, e72, hl55⟩ := bind_some hl55
                    have hi73 := idx_some e72
                    refine c_draw (n := 121) (hd := [_, _, _, _, _, _, _, _, _, _, _, _, _, _, _, _, _, _]) (tl := [_]) hmix rfl rfl [45, 46, 47, 48, 49, 50, 51, 52, 53, 54, 55, 56, 57, 58, 59, 60, 61, 62] (by decide) (fun w => M (Old w0) w0 w [osl NoB (s10.1 : List UInt8) u11, osl NoB (s24.2.2 : List UInt8) u25, osl NoB (s47.1 : List UInt8) u48]) (fun j => ([fun v _ => v = u48, fun v _ => v = (vI s47.2), fun v _ => v = u48, fun v _ => v = (vI s47.2), fun v _ => v = (ptr (sb u48) (so u48 + (s47.2).toNat * 1)), fun v _ => v = (vB x60), fun v _ => v = (vI p0), fun v _ => v = u25, fun v _ => v = (vI s47.2), fun v _ => v = (ptr (sb u25) (so u25 + (s47.2).toNat * 1)), fun v _ => v = (vB x63), fun v _ => v = v1_1, fun v _ => v = (vI s24.2.1), fun v _ => v = (ptr (sb v1_1) (so v1_1 + (s24.2.1).toNat * 1)), fun v _ => v = (vB x66), fun v _ => v = (vB r69), fun v _ => v = (vB (x60 ^^^ r69)), fun v _ => v = (ptr (sb u48) (so u48 + (s47.2).toNat * 1))] : List (Value → World → Prop)).getD j (fun _ _ => True)) (fun _ _ h hk => h.keep hk) (gup (gupE (gupE (gupE (gupE (gupE (gupE (gupE (gupE (gupE (gupE (gupE (gupE (gupE (gupE (gupE (gupE (gupE (gupE gupN))))))))))))))))))) hE hM.drew (steps_of (steps_cons ?_ (steps_cons ?_ (steps_cons ?_ (steps_cons ?_ (steps_cons ?_ (steps_cons ?_ (steps_cons ?_ (steps_cons ?_ (steps_cons ?_ (steps_cons ?_ (steps_cons ?_ (steps_cons ?_ (steps_cons ?_ (steps_cons ?_ (steps_cons ?_ (steps_cons ?_ (steps_cons ?_ (steps_cons ?_ steps_nil))))))))))))))))))) ?_
                    · intro a w ux59 hE hM hp
                      refine s_move hE goes_none (by decide) rfl ?_; intro a hE
                      exact ⟨Kept.refl _ _, _, _, rfl, hE, rfl⟩
                    · intro a w ux59 hE hM hp
                      refine s_move hE goes_none (by decide) rfl ?_; intro a hE
                      exact ⟨Kept.refl _ _, _, _, rfl, hE, rfl⟩
                    · intro a w ux59 hE hM hp
                      refine s_move hE goes_none (by decide) rfl ?_; intro a hE
                      exact ⟨Kept.refl _ _, _, _, rfl, hE, rfl⟩
                    · intro a w ux59 hE hM hp
                      refine s_move hE goes_none (by decide) rfl ?_; intro a hE
                      exact ⟨Kept.refl _ _, _, _, rfl, hE, rfl⟩
                    · intro a w ux59 hE hM hp
                      have f2 : ux59 2 = u48 := hp 0 _ rfl rfl
                      have f3 : ux59 3 = (vI s47.2) := hp 1 _ rfl rfl
                      refine s_indexS hE goes_none (by decide) (lk rfl f2) (lk rfl f3) Try.underlying24 ty5 (hM.sl (pre := [_, _]) noB) hi62.1 ?_; intro a hE
                      exact ⟨Kept.refl _ _, _, _, rfl, hE, rfl⟩
                    · intro a w ux59 hE hM hp
                      have f4 : ux59 4 = (ptr (sb u48) (so u48 + (s47.2).toNat * 1)) := hp 0 _ rfl rfl
                      refine s_load (v := (vB x60)) hE goes_none (by decide) (lk rfl f4) ty5 rfl (sl_atF (hM.sl (pre := [_, _]) noB) hi62.2) ?_; intro a hE
                      exact ⟨Kept.refl _ _, _, _, rfl, hE, rfl⟩
                    · intro a w ux59 hE hM hp
                      refine s_move hE goes_none (by decide) rfl ?_; intro a hE
                      exact ⟨Kept.refl _ _, _, _, rfl, hE, rfl⟩
                    · intro a w ux59 hE hM hp
                      refine s_move hE goes_none (by decide) rfl ?_; intro a hE
                      exact ⟨Kept.refl _ _, _, _, rfl, hE, rfl⟩
                    · intro a w ux59 hE hM hp
                      refine s_move hE goes_none (by decide) rfl ?_; intro a hE
                      exact ⟨Kept.refl _ _, _, _, rfl, hE, rfl⟩
                    · intro a w ux59 hE hM hp
                      have f7 : ux59 7 = u25 := hp 0 _ rfl rfl
                      have f8 : ux59 8 = (vI s47.2) := hp 1 _ rfl rfl
                      refine s_indexS hE goes_none (by decide) (lk rfl f7) (lk rfl f8) Try.underlying24 ty5 (hM.sl (pre := [_]) noB) hi65.1 ?_; intro a hE
                      exact ⟨Kept.refl _ _, _, _, rfl, hE, rfl⟩
                    · intro a w ux59 hE hM hp
                      have f9 : ux59 9 = (ptr (sb u25) (so u25 + (s47.2).toNat * 1)) := hp 0 _ rfl rfl
                      refine s_load (v := (vB x63)) hE goes_none (by decide) (lk rfl f9) ty5 rfl (sl_atF (hM.sl (pre := [_]) noB) hi65.2) ?_; intro a hE
                      exact ⟨Kept.refl _ _, _, _, rfl, hE, rfl⟩
                    · intro a w ux59 hE hM hp
                      refine s_move hE goes_none (by decide) rfl ?_; intro a hE
                      exact ⟨Kept.refl _ _, _, _, rfl, hE, rfl⟩
                    · intro a w ux59 hE hM hp
                      refine s_move hE goes_none (by decide) rfl ?_; intro a hE
                      exact ⟨Kept.refl _ _, _, _, rfl, hE, rfl⟩
                    · intro a w ux59 hE hM hp
                      have f11 : ux59 11 = v1_1 := hp 0 _ rfl rfl
                      have f12 : ux59 12 = (vI s24.2.1) := hp 1 _ rfl rfl
                      refine s_indexS hE goes_none (by decide) (lk rfl f11) (lk rfl f12) Try.underlying24 ty5 (hM.rd hv1_1) hi68.1 ?_; intro a hE
                      exact ⟨Kept.refl _ _, _, _, rfl, hE, rfl⟩
                    · intro a w ux59 hE hM hp
                      have f13 : ux59 13 = (ptr (sb v1_1) (so v1_1 + (s24.2.1).toNat * 1)) := hp 0 _ rfl rfl
                      refine s_load (v := (vB x66)) hE goes_none (by decide) (lk rfl f13) ty5 rfl (sl_atF (hM.rd hv1_1) hi68.2) ?_; intro a hE
                      exact ⟨Kept.refl _ _, _, _, rfl, hE, rfl⟩
                    · intro a w ux59 hE hM hp
                      have f6 : ux59 6 = (vI p0) := hp 0 _ rfl rfl
                      have f10 : ux59 10 = (vB x63) := hp 1 _ rfl rfl
                      have f14 : ux59 14 = (vB x66) := hp 2 _ rfl rfl
                      refine s_call (vs := [(vI p0), (vB x63), (vB x66)]) hE goes_none (by decide) (evs_of (evsC (lk rfl f6) (evsC (lk rfl f10) (evsC (lk rfl f14) evsN)))) cb183 (c_spec_l01Times _ p0 x63 x66 r69 e70) ?_
                      rintro v w a ⟨rfl, hK⟩ hE
                      exact ⟨hK, _, _, rfl, hE, rfl⟩
                    · intro a w ux59 hE hM hp
                      have f5 : ux59 5 = (vB x60) := hp 0 _ rfl rfl
                      have f15 : ux59 15 = (vB r69) := hp 1 _ rfl rfl
                      refine s_int hE goes_none (by decide) (lk rfl f5) (lk rfl f15) (bB_xor x60 r69) ?_; intro a hE
                      exact ⟨Kept.refl _ _, _, _, rfl, hE, rfl⟩
                    · intro a w ux59 hE hM hp
                      have f0 : ux59 0 = u48 := hp 0 _ rfl rfl
                      have f1 : ux59 1 = (vI s47.2) := hp 1 _ rfl rfl
                      refine s_indexS hE goes_none (by decide) (lk rfl f0) (lk rfl f1) Try.underlying24 ty5 (hM.sl (pre := [_, _]) noB) hi73.1 ?_; intro a hE
                      exact ⟨Kept.refl _ _, _, _, rfl, hE, rfl⟩
                    · intro a w ux59 hE hM hg
                      have f0 : ux59 0 = u48 := hg 0 (by decide)
                      have f1 : ux59 1 = (vI s47.2) := hg 1 (by decide)
                      have f2 : ux59 2 = u48 := hg 2 (by decide)
                      have f3 : ux59 3 = (vI s47.2) := hg 3 (by decide)
                      have f4 : ux59 4 = (ptr (sb u48) (so u48 + (s47.2).toNat * 1)) := hg 4 (by decide)
                      have f5 : ux59 5 = (vB x60) := hg 5 (by decide)
                      have f6 : ux59 6 = (vI p0) := hg 6 (by decide)
                      have f7 : ux59 7 = u25 := hg 7 (by decide)
                      have f8 : ux59 8 = (vI s47.2) := hg 8 (by decide)
                      have f9 : ux59 9 = (ptr (sb u25) (so u25 + (s47.2).toNat * 1)) := hg 9 (by decide)
                      have f10 : ux59 10 = (vB x63) := hg 10 (by decide)
                      have f11 : ux59 11 = v1_1 := hg 11 (by decide)
                      have f12 : ux59 12 = (vI s24.2.1) := hg 12 (by decide)
                      have f13 : ux59 13 = (ptr (sb v1_1) (so v1_1 + (s24.2.1).toNat * 1)) := hg 13 (by decide)
                      have f14 : ux59 14 = (vB x66) := hg 14 (by decide)
                      have f15 : ux59 15 = (vB r69) := hg 15 (by decide)
                      have f16 : ux59 16 = (vB (x60 ^^^ r69)) := hg 16 (by decide)
                      have f17 : ux59 17 = (ptr (sb u48) (so u48 + (s47.2).toNat * 1)) := hg 17 (by decide)
                      have hE := hE.sub (e' := [(45, u48), (46, (vI s47.2)), (47, u48), (48, (vI s47.2)), (49, (ptr (sb u48) (so u48 + (s47.2).toNat * 1))), (50, (vB x60)), (51, (vI p0)), (52, u25), (53, (vI s47.2)), (54, (ptr (sb u25) (so u25 + (s47.2).toNat * 1))), (55, (vB x63)), (56, v1_1), (57, (vI s24.2.1)), (58, (ptr (sb v1_1) (so v1_1 + (s24.2.1).toNat * 1))), (59, (vB x66)), (60, (vB r69)), (61, (vB (x60 ^^^ r69))), (62, (ptr (sb u48) (so u48 + (s47.2).toNat * 1))), (0, (vI p0)), (1, v1_1), (2, v2_1), (7, u11), (8, (vI s10.2)), (9, u25), (10, (vB s24.1)), (11, (vI s24.2.1)), (12, u48), (13, (vI s47.2)), (39, (vI s47.2)), (40, u25), (41, (vI (s24.2.2.length : Int))), (42, (vT (decide (s47.2 < (s24.2.2.length : Int)))))]) ⟨lk rfl f0, lk rfl f1, lk rfl f2, lk rfl f3, lk rfl f4, lk rfl f5, lk rfl f6, lk rfl f7, lk rfl f8, lk rfl f9, lk rfl f10, lk rfl f11, lk rfl f12, lk rfl f13, lk rfl f14, lk rfl f15, lk rfl f16, lk rfl f17, rfl, rfl, rfl, rfl, rfl, rfl, rfl, rfl, rfl, rfl, rfl, rfl, rfl, rfl, trivial⟩
                      have hM := hM.pull (pre := [_, _])
                      refine s_storeS (i := (s47.2).toNat) (k0 := 0) (seg := [(vB (x60 ^^^ r69))]) (xo := x71) (xn := x60 ^^^ r69) hE hM goes_none rfl rfl rfl ty5 rfl (Flat.cell (x60 ^^^ r69 : UInt8)) hi73.2 (fit_num (m := 1) rfl (by decide)) (splice_all (Eq.trans rfl (Eq.symm rfl))) ?_; intro w a hM hE
                      refine c_fin0 ?_
                      have ht74 := Option.some.inj hl55
                      subst ht74
                      refine c_mid ?_
                      have hM := hM.pull (pre := [_, _])
                      have hM := hM.pull (pre := [_, _])
                      exact ⟨u48, hE.sub ⟨rfl, rfl, rfl, rfl, rfl, rfl, rfl, rfl, rfl, rfl, trivial⟩, hM⟩
                  · skip
                    rintro a w ⟨u57, hE, hM⟩
                    obtain ⟨x76, e77, hF56⟩ := bind_some hF56
                    have hi78 := idx_some e77
                    obtain ⟨x79, e80, hF56⟩ := bind_some hF56
                    have hi81 := idx_some e80
                    obtain ⟨x82, e83, hF56⟩ := bind_some hF56
                    have hi84 := idx_some e83
                    refine c_draw (n := 121) (hd := [_, _, _, _, _, _, _, _, _, _, _, _, _, _]) (tl := [_]) hmix rfl rfl [63, 64, 65, 66, 67, 68, 69, 70, 71, 72, 73, 74, 75, 76] (by decide) (fun w => M (Old w0) w0 w [osl NoB (s10.1 : List UInt8) u11, osl NoB (s24.2.2 : List UInt8) u25, osl NoB (j54 : List UInt8) u57]) (fun j => ([fun v _ => v = u57, fun v _ => v = (vI s47.2), fun v _ => v = (vI (wr (s47.2 + 1))), fun v _ => v = u57, fun v _ => v = (vI s47.2), fun v _ => v = (vI (wr (s47.2 + 1))), fun v _ => v = (ptr (sb u57) (so u57 + ((wr (s47.2 + 1))).toNat * 1)), fun v _ => v = (vB x76), fun v _ => v = u25, fun v _ => v = (vI s47.2), fun v _ => v = (ptr (sb u25) (so u25 + (s47.2).toNat * 1)), fun v _ => v = (vB x79), fun v _ => v = (vB (x76 ^^^ x79)), fun v _ => v = (ptr (sb u57) (so u57 + ((wr (s47.2 + 1))).toNat * 1))] : List (Value → World → Prop)).getD j (fun _ _ => True)) (fun _ _ h hk => h.keep hk) (gup (gupE (gupE (gupE (gupE (gupE (gupE (gupE (gupE (gupE (gupE (gupE (gupE (gupE (gupE gupN))))))))))))))) hE hM.drew (steps_of (steps_cons ?_ (steps_cons ?_ (steps_cons ?_ (steps_cons ?_ (steps_cons ?_ (steps_cons ?_ (steps_cons ?_ (steps_cons ?_ (steps_cons ?_ (steps_cons ?_ (steps_cons ?_ (steps_cons ?_ (steps_cons ?_ (steps_cons ?_ steps_nil))))))))))))))) ?_
                    · intro a w ux75 hE hM hp
                      refine s_move hE goes_none (by decide) rfl ?_; intro a hE
                      exact ⟨Kept.refl _ _, _, _, rfl, hE, rfl⟩
                    · intro a w ux75 hE hM hp
                      refine s_move hE goes_none (by decide) rfl ?_; intro a hE
                      exact ⟨Kept.refl _ _, _, _, rfl, hE, rfl⟩
                    · intro a w ux75 hE hM hp
                      have f1 : ux75 1 = (vI s47.2) := hp 0 _ rfl rfl
                      refine s_int hE goes_none (by decide) (lk rfl f1) rfl rfl ?_; intro a hE
                      exact ⟨Kept.refl _ _, _, _, rfl, hE, rfl⟩
                    · intro a w ux75 hE hM hp
                      refine s_move hE goes_none (by decide) rfl ?_; intro a hE
                      exact ⟨Kept.refl _ _, _, _, rfl, hE, rfl⟩
                    · intro a w ux75 hE hM hp
                      refine s_move hE goes_none (by decide) rfl ?_; intro a hE
                      exact ⟨Kept.refl _ _, _, _, rfl, hE, rfl⟩
                    · intro a w ux75 hE hM hp
                      have f4 : ux75 4 = (vI s47.2) := hp 0 _ rfl rfl
                      refine s_int hE goes_none (by decide) (lk rfl f4) rfl rfl ?_; intro a hE
                      exact ⟨Kept.refl _ _, _, _, rfl, hE, rfl⟩
                    · intro a w ux75 hE hM hp
                      have f3 : ux75 3 = u57 := hp 0 _ rfl rfl
                      have f5 : ux75 5 = (vI (wr (s47.2 + 1))) := hp 1 _ rfl rfl
                      refine s_indexS hE goes_none (by decide) (lk rfl f3) (lk rfl f5) Try.underlying24 ty5 (hM.sl (pre := [_, _]) noB) hi78.1 ?_; intro a hE
                      exact ⟨Kept.refl _ _, _, _, rfl, hE, rfl⟩
                    · intro a w ux75 hE hM hp
                      have f6 : ux75 6 = (ptr (sb u57) (so u57 + ((wr (s47.2 + 1))).toNat * 1)) := hp 0 _ rfl rfl
                      refine s_load (v := (vB x76)) hE goes_none (by decide) (lk rfl f6) ty5 rfl (sl_atF (hM.sl (pre := [_, _]) noB) hi78.2) ?_; intro a hE
                      exact ⟨Kept.refl _ _, _, _, rfl, hE, rfl⟩
                    · intro a w ux75 hE hM hp
                      refine s_move hE goes_none (by decide) rfl ?_; intro a hE
                      exact ⟨Kept.refl _ _, _, _, rfl, hE, rfl⟩
                    · intro a w ux75 hE hM hp
                      refine s_move hE goes_none (by decide) rfl ?_; intro a hE
                      exact ⟨Kept.refl _ _, _, _, rfl, hE, rfl⟩
                    · intro a w ux75 hE hM hp
                      have f8 : ux75 8 = u25 := hp 0 _ rfl rfl
                      have f9 : ux75 9 = (vI s47.2) := hp 1 _ rfl rfl
                      refine s_indexS hE goes_none (by decide) (lk rfl f8) (lk rfl f9) Try.underlying24 ty5 (hM.sl (pre := [_]) noB) hi81.1 ?_; intro a hE
                      exact ⟨Kept.refl _ _, _, _, rfl, hE, rfl⟩
                    · intro a w ux75 hE hM hp
                      have f10 : ux75 10 = (ptr (sb u25) (so u25 + (s47.2).toNat * 1)) := hp 0 _ rfl rfl
                      refine s_load (v := (vB x79)) hE goes_none (by decide) (lk rfl f10) ty5 rfl (sl_atF (hM.sl (pre := [_]) noB) hi81.2) ?_; intro a hE
                      exact ⟨Kept.refl _ _, _, _, rfl, hE, rfl⟩
                    · intro a w ux75 hE hM hp
                      have f7 : ux75 7 = (vB x76) := hp 0 _ rfl rfl
                      have f11 : ux75 11 = (vB x79) := hp 1 _ rfl rfl
                      refine s_int hE goes_none (by decide) (lk rfl f7) (lk rfl f11) (bB_xor x76 x79) ?_; intro a hE
                      exact ⟨Kept.refl _ _, _, _, rfl, hE, rfl⟩
                    · intro a w ux75 hE hM hp
                      have f0 : ux75 0 = u57 := hp 0 _ rfl rfl
                      have f2 : ux75 2 = (vI (wr (s47.2 + 1))) := hp 1 _ rfl rfl
                      refine s_indexS hE goes_none (by decide) (lk rfl f0) (lk rfl f2) Try.underlying24 ty5 (hM.sl (pre := [_, _]) noB) hi84.1 ?_; intro a hE
                      exact ⟨Kept.refl _ _, _, _, rfl, hE, rfl⟩
                    · intro a w ux75 hE hM hg
                      have f0 : ux75 0 = u57 := hg 0 (by decide)
                      have f1 : ux75 1 = (vI s47.2) := hg 1 (by decide)
                      have f2 : ux75 2 = (vI (wr (s47.2 + 1))) := hg 2 (by decide)
                      have f3 : ux75 3 = u57 := hg 3 (by decide)
                      have f4 : ux75 4 = (vI s47.2) := hg 4 (by decide)
                      have f5 : ux75 5 = (vI (wr (s47.2 + 1))) := hg 5 (by decide)
                      have f6 : ux75 6 = (ptr (sb u57) (so u57 + ((wr (s47.2 + 1))).toNat * 1)) := hg 6 (by decide)
                      have f7 : ux75 7 = (vB x76) := hg 7 (by decide)
                      have f8 : ux75 8 = u25 := hg 8 (by decide)
                      have f9 : ux75 9 = (vI s47.2) := hg 9 (by decide)
                      have f10 : ux75 10 = (ptr (sb u25) (so u25 + (s47.2).toNat * 1)) := hg 10 (by decide)
                      have f11 : ux75 11 = (vB x79) := hg 11 (by decide)
                      have f12 : ux75 12 = (vB (x76 ^^^ x79)) := hg 12 (by decide)
                      have f13 : ux75 13 = (ptr (sb u57) (so u57 + ((wr (s47.2 + 1))).toNat * 1)) := hg 13 (by decide)
                      have hE := hE.sub (e' := [(63, u57), (64, (vI s47.2)), (65, (vI (wr (s47.2 + 1)))), (66, u57), (67, (vI s47.2)), (68, (vI (wr (s47.2 + 1)))), (69, (ptr (sb u57) (so u57 + ((wr (s47.2 + 1))).toNat * 1))), (70, (vB x76)), (71, u25), (72, (vI s47.2)), (73, (ptr (sb u25) (so u25 + (s47.2).toNat * 1))), (74, (vB x79)), (75, (vB (x76 ^^^ x79))), (76, (ptr (sb u57) (so u57 + ((wr (s47.2 + 1))).toNat * 1))), (0, (vI p0)), (1, v1_1), (2, v2_1), (7, u11), (8, (vI s10.2)), (9, u25), (10, (vB s24.1)), (11, (vI s24.2.1)), (12, u57), (13, (vI s47.2))]) ⟨lk rfl f0, lk rfl f1, lk rfl f2, lk rfl f3, lk rfl f4, lk rfl f5, lk rfl f6, lk rfl f7, lk rfl f8, lk rfl f9, lk rfl f10, lk rfl f11, lk rfl f12, lk rfl f13, rfl, rfl, rfl, rfl, rfl, rfl, rfl, rfl, rfl, rfl, trivial⟩
                      have hM := hM.pull (pre := [_, _])
                      refine s_storeS (i := ((wr (s47.2 + 1))).toNat) (k0 := 0) (seg := [(vB (x76 ^^^ x79))]) (xo := x82) (xn := x76 ^^^ x79) hE hM goes_none rfl rfl rfl ty5 rfl (Flat.cell (x76 ^^^ x79 : UInt8)) hi84.2 (fit_num (m := 1) rfl (by decide)) (splice_all (Eq.trans rfl (Eq.symm rfl))) ?_; intro w a hM hE
                      refine c_fin0 ?_
                      refine c_nb ?_
                      refine c_nx ?_
                      refine wp_region_lit ?_
                      refine s_move hE goes_none (by decide) rfl ?_; intro a hE
                      refine s_int hE goes_none (by decide) rfl rfl rfl ?_; intro a hE
                      refine s_assign hE goes_none (by decide) rfl ?_; intro a hE
                      refine c_fin0 ?_
                      refine c_mid ?_
                      have hM := hM.pull (pre := [_, _])
                      have hM := hM.pull (pre := [_, _])
                      exact ⟨_, (Option.some.inj hF56).symm, u57, hE.sub ⟨rfl, rfl, rfl, rfl, rfl, rfl, rfl, rfl, rfl, rfl, trivial⟩, hM⟩
                · intro hb53
                  have hs50 := ite_f hs50 hb53
                  refine wp_exit (e_then (e_then (e_eq ?_)))
                  have ht85 := hx51 _ (Option.some.inj hs50).symm
                  subst ht85
                  refine c_mid ?_
                  have hM := hM.pull (pre := [_, _])
                  have hM := hM.pull (pre := [_])
                  have hM := M.fst (l := [_, _]) hM
                  exact ⟨u48, hE.sub ⟨rfl, rfl, rfl, rfl, rfl, rfl, rfl, rfl, trivial⟩, hM⟩
              · skip
                rintro a w ⟨u45, hE, hM⟩
                refine c_nx ?_
                refine c_region ?_
                refine s_move hE goes_none (by decide) rfl ?_; intro a hE
                refine s_assign hE goes_none (by decide) rfl ?_; intro a hE
                refine c_fin ?_
                obtain ⟨x87, e88, hF44⟩ := bind_some hF44
                have hi89 := idx_some e88
                obtain ⟨x90, e91, hF44⟩ := bind_some hF44
                have hi92 := idx_some e91
                obtain ⟨r93, e94, hF44⟩ := bind_some hF44
                refine c_draw (n := 121) (hd := [_, _, _, _, _, _, _, _, _, _, _, _]) (tl := [_]) hmix rfl rfl [78, 79, 80, 81, 82, 83, 84, 85, 86, 87, 88, 89] (by decide) (fun w => M (Old w0) w0 w [osl NoB (s10.1 : List UInt8) u11, osl NoB (j42 : List UInt8) u45]) (fun j => ([fun v _ => v = (vI p0), fun v _ => v = (vB s24.1), fun v _ => v = v1_1, fun v _ => v = (vI s10.2), fun v _ => v = (ptr (sb v1_1) (so v1_1 + (s10.2).toNat * 1)), fun v _ => v = (vB x87), fun v _ => v = v1_1, fun v _ => v = (vI s24.2.1), fun v _ => v = (ptr (sb v1_1) (so v1_1 + (s24.2.1).toNat * 1)), fun v _ => v = (vB x90), fun v _ => v = (vB (x87 ^^^ x90)), fun v _ => v = (vB r93)] : List (Value → World → Prop)).getD j (fun _ _ => True)) (fun _ _ h hk => h.keep hk) (gup (gupE (gupE (gupE (gupE (gupE (gupE (gupE (gupE (gupE (gupE (gupE (gupE gupN))))))))))))) hE hM.drew (steps_of (steps_cons ?_ (steps_cons ?_ (steps_cons ?_ (steps_cons ?_ (steps_cons ?_ (steps_cons ?_ (steps_cons ?_ (steps_cons ?_ (steps_cons ?_ (steps_cons ?_ (steps_cons ?_ (steps_cons ?_ steps_nil))))))))))))) ?_
                · intro a w ux86 hE hM hp
                  refine s_move hE goes_none (by decide) rfl ?_; intro a hE
                  exact ⟨Kept.refl _ _, _, _, rfl, hE, rfl⟩
                · intro a w ux86 hE hM hp
                  refine s_move hE goes_none (by decide) rfl ?_; intro a hE
                  exact ⟨Kept.refl _ _, _, _, rfl, hE, rfl⟩
                · intro a w ux86 hE hM hp
                  refine s_move hE goes_none (by decide) rfl ?_; intro a hE
                  exact ⟨Kept.refl _ _, _, _, rfl, hE, rfl⟩
                · intro a w ux86 hE hM hp
                  refine s_move hE goes_none (by decide) rfl ?_; intro a hE
                  exact ⟨Kept.refl _ _, _, _, rfl, hE, rfl⟩
                · intro a w ux86 hE hM hp
                  have f2 : ux86 2 = v1_1 := hp 0 _ rfl rfl
                  have f3 : ux86 3 = (vI s10.2) := hp 1 _ rfl rfl
                  refine s_indexS hE goes_none (by decide) (lk rfl f2) (lk rfl f3) Try.underlying24 ty5 (hM.rd hv1_1) hi89.1 ?_; intro a hE
                  exact ⟨Kept.refl _ _, _, _, rfl, hE, rfl⟩
                · intro a w ux86 hE hM hp
                  have f4 : ux86 4 = (ptr (sb v1_1) (so v1_1 + (s10.2).toNat * 1)) := hp 0 _ rfl rfl
                  refine s_load (v := (vB x87)) hE goes_none (by decide) (lk rfl f4) ty5 rfl (sl_atF (hM.rd hv1_1) hi89.2) ?_; intro a hE
                  exact ⟨Kept.refl _ _, _, _, rfl, hE, rfl⟩
                · intro a w ux86 hE hM hp
                  refine s_move hE goes_none (by decide) rfl ?_; intro a hE
                  exact ⟨Kept.refl _ _, _, _, rfl, hE, rfl⟩
                · intro a w ux86 hE hM hp
                  refine s_move hE goes_none (by decide) rfl ?_; intro a hE
                  exact ⟨Kept.refl _ _, _, _, rfl, hE, rfl⟩
                · intro a w ux86 hE hM hp
                  have f6 : ux86 6 = v1_1 := hp 0 _ rfl rfl
                  have f7 : ux86 7 = (vI s24.2.1) := hp 1 _ rfl rfl
                  refine s_indexS hE goes_none (by decide) (lk rfl f6) (lk rfl f7) Try.underlying24 ty5 (hM.rd hv1_1) hi92.1 ?_; intro a hE
                  exact ⟨Kept.refl _ _, _, _, rfl, hE, rfl⟩
                · intro a w ux86 hE hM hp
                  have f8 : ux86 8 = (ptr (sb v1_1) (so v1_1 + (s24.2.1).toNat * 1)) := hp 0 _ rfl rfl
                  refine s_load (v := (vB x90)) hE goes_none (by decide) (lk rfl f8) ty5 rfl (sl_atF (hM.rd hv1_1) hi92.2) ?_; intro a hE
                  exact ⟨Kept.refl _ _, _, _, rfl, hE, rfl⟩
                · intro a w ux86 hE hM hp
                  have f5 : ux86 5 = (vB x87) := hp 0 _ rfl rfl
                  have f9 : ux86 9 = (vB x90) := hp 1 _ rfl rfl
                  refine s_int hE goes_none (by decide) (lk rfl f5) (lk rfl f9) (bB_xor x87 x90) ?_; intro a hE
                  exact ⟨Kept.refl _ _, _, _, rfl, hE, rfl⟩
                · intro a w ux86 hE hM hp
                  have f0 : ux86 0 = (vI p0) := hp 0 _ rfl rfl
                  have f1 : ux86 1 = (vB s24.1) := hp 1 _ rfl rfl
                  have f10 : ux86 10 = (vB (x87 ^^^ x90)) := hp 2 _ rfl rfl
                  refine s_call (vs := [(vI p0), (vB s24.1), (vB (x87 ^^^ x90))]) hE goes_none (by decide) (evs_of (evsC (lk rfl f0) (evsC (lk rfl f1) (evsC (lk rfl f10) evsN)))) cb183 (c_spec_l01Times _ p0 s24.1 (x87 ^^^ x90) r93 e94) ?_
                  rintro v w a ⟨rfl, hK⟩ hE
                  exact ⟨hK, _, _, rfl, hE, rfl⟩
                · intro a w ux86 hE hM hg
                  have f0 : ux86 0 = (vI p0) := hg 0 (by decide)
                  have f1 : ux86 1 = (vB s24.1) := hg 1 (by decide)
                  have f2 : ux86 2 = v1_1 := hg 2 (by decide)
                  have f3 : ux86 3 = (vI s10.2) := hg 3 (by decide)
                  have f4 : ux86 4 = (ptr (sb v1_1) (so v1_1 + (s10.2).toNat * 1)) := hg 4 (by decide)
                  have f5 : ux86 5 = (vB x87) := hg 5 (by decide)
                  have f6 : ux86 6 = v1_1 := hg 6 (by decide)
                  have f7 : ux86 7 = (vI s24.2.1) := hg 7 (by decide)
                  have f8 : ux86 8 = (ptr (sb v1_1) (so v1_1 + (s24.2.1).toNat * 1)) := hg 8 (by decide)
                  have f9 : ux86 9 = (vB x90) := hg 9 (by decide)
                  have f10 : ux86 10 = (vB (x87 ^^^ x90)) := hg 10 (by decide)
                  have f11 : ux86 11 = (vB r93) := hg 11 (by decide)
                  have hE := hE.sub (e' := [(78, (vI p0)), (79, (vB s24.1)), (80, v1_1), (81, (vI s10.2)), (82, (ptr (sb v1_1) (so v1_1 + (s10.2).toNat * 1))), (83, (vB x87)), (84, v1_1), (85, (vI s24.2.1)), (86, (ptr (sb v1_1) (so v1_1 + (s24.2.1).toNat * 1))), (87, (vB x90)), (88, (vB (x87 ^^^ x90))), (89, (vB r93)), (0, (vI p0)), (1, v1_1), (2, v2_1), (7, u11), (8, (vI s10.2)), (9, u45), (10, (vB s24.1)), (11, (vI s24.2.1)), (12, u45), (77, u45)]) ⟨lk rfl f0, lk rfl f1, lk rfl f2, lk rfl f3, lk rfl f4, lk rfl f5, lk rfl f6, lk rfl f7, lk rfl f8, lk rfl f9, lk rfl f10, lk rfl f11, rfl, rfl, rfl, rfl, rfl, rfl, rfl, rfl, rfl, rfl, trivial⟩
                  refine s_assign hE goes_none (by decide) rfl ?_; intro a hE
                  refine c_fin0 ?_
                  refine c_nb ?_
                  have ht95 := Option.some.inj hF44
                  subst ht95
                  refine c_mid ?_
                  exact ⟨u45, hE.sub ⟨rfl, rfl, rfl, rfl, rfl, rfl, rfl, rfl, trivial⟩, hM⟩
          · skip
            rintro a w ⟨u34, hE, hM⟩
            refine wp_region_lit ?_
            refine s_move hE goes_none (by decide) rfl ?_; intro a hE
            refine s_int hE goes_none (by decide) rfl rfl rfl ?_; intro a hE
            refine s_assign hE goes_none (by decide) rfl ?_; intro a hE
            refine c_fin0 ?_
            refine c_mid ?_
            exact ⟨_, (Option.some.inj hF33).symm, u34, hE.sub ⟨rfl, rfl, rfl, rfl, rfl, rfl, rfl, rfl, trivial⟩, hM⟩
        · intro hb30
          have hs27 := ite_f hs27 hb30
          refine wp_exit (e_then (e_then (e_eq ?_)))
          have ht96 := hx28 _ (Option.some.inj hs27).symm
          subst ht96
          refine c_mid ?_
          exact ⟨u25, hE.sub ⟨rfl, rfl, rfl, rfl, rfl, rfl, rfl, trivial⟩, hM⟩
      · skip
        rintro a w ⟨u22, hE, hM⟩
        refine c_nx ?_
        obtain ⟨j97, hl98, hF99⟩ := bind_some hF21
        refine c_join (fun a w => Env 121 a [(0, (vI p0)), (1, v1_1), (2, v2_1), (7, u11), (8, (vI s10.2)), (9, u22), (14, (vB j97))] ∧ M (Old w0) w0 w [osl NoB (s10.1 : List UInt8) u11, osl NoB (j19.2 : List UInt8) u22]) ?_ ?_
        · skip
          obtain ⟨x101, e102, hl98⟩ := bind_some hl98
          have hi103 := idx_some e102
          obtain ⟨r104, e105, hl98⟩ := bind_some hl98
          obtain ⟨r106, e107, hl98⟩ := bind_some hl98
          refine c_draw (n := 121) (hd := [_, _, _, _, _, _, _, _, _, _]) (tl := []) hmix rfl rfl [90, 91, 92, 93, 94, 95, 96, 97, 98, 14] (by decide) (fun w => M (Old w0) w0 w [osl NoB (s10.1 : List UInt8) u11, osl NoB (j19.2 : List UInt8) u22]) (fun j => ([fun v _ => v = (vI p0), fun v _ => v = v2_1, fun v _ => v = (vI s10.2), fun v _ => v = (ptr (sb v2_1) (so v2_1 + (s10.2).toNat * 1)), fun v _ => v = (vB x101), fun v _ => v = (vI p0), fun v _ => v = (vB j19.1), fun v _ => v = (vB r104), fun v _ => v = (vB r106), fun v _ => v = (vB r106)] : List (Value → World → Prop)).getD j (fun _ _ => True)) (fun _ _ h hk => h.keep hk) (gup (gupE (gupE (gupE (gupE (gupE (gupE (gupE (gupE (gupE (gupE gupN))))))))))) hE hM.drew (steps_of (steps_cons ?_ (steps_cons ?_ (steps_cons ?_ (steps_cons ?_ (steps_cons ?_ (steps_cons ?_ (steps_cons ?_ (steps_cons ?_ (steps_cons ?_ (steps_cons ?_ steps_nil))))))))))) ?_
          · intro a w ux100 hE hM hp
            refine s_move hE goes_none (by decide) rfl ?_; intro a hE
            exact ⟨Kept.refl _ _, _, _, rfl, hE, rfl⟩
          · intro a w ux100 hE hM hp
            refine s_move hE goes_none (by decide) rfl ?_; intro a hE
            exact ⟨Kept.refl _ _, _, _, rfl, hE, rfl⟩
          · intro a w ux100 hE hM hp
            refine s_move hE goes_none (by decide) rfl ?_; intro a hE
            exact ⟨Kept.refl _ _, _, _, rfl, hE, rfl⟩
          · intro a w ux100 hE hM hp
            have f1 : ux100 1 = v2_1 := hp 0 _ rfl rfl
            have f2 : ux100 2 = (vI s10.2) := hp 1 _ rfl rfl
            refine s_indexS hE goes_none (by decide) (lk rfl f1) (lk rfl f2) Try.underlying24 ty5 (hM.rd hv2_1) hi103.1 ?_; intro a hE
            exact ⟨Kept.refl _ _, _, _, rfl, hE, rfl⟩
          · intro a w ux100 hE hM hp
            have f3 : ux100 3 = (ptr (sb v2_1) (so v2_1 + (s10.2).toNat * 1)) := hp 0 _ rfl rfl
            refine s_load (v := (vB x101)) hE goes_none (by decide) (lk rfl f3) ty5 rfl (sl_atF (hM.rd hv2_1) hi103.2) ?_; intro a hE
            exact ⟨Kept.refl _ _, _, _, rfl, hE, rfl⟩
          · intro a w ux100 hE hM hp
            refine s_move hE goes_none (by decide) rfl ?_; intro a hE
            exact ⟨Kept.refl _ _, _, _, rfl, hE, rfl⟩
          · intro a w ux100 hE hM hp
            refine s_move hE goes_none (by decide) rfl ?_; intro a hE
            exact ⟨Kept.refl _ _, _, _, rfl, hE, rfl⟩
          · intro a w ux100 hE hM hp
            have f5 : ux100 5 = (vI p0) := hp 0 _ rfl rfl
            have f6 : ux100 6 = (vB j19.1) := hp 1 _ rfl rfl
            refine s_call (vs := [(vI p0), (vB j19.1)]) hE goes_none (by decide) (evs_of (evsC (lk rfl f5) (evsC (lk rfl f6) evsN))) cb184 (c_spec_l01Inv _ p0 j19.1 r104 e105) ?_
            rintro v w a ⟨rfl, hK⟩ hE
            exact ⟨hK, _, _, rfl, hE, rfl⟩
          · intro a w ux100 hE hM hp
            have f0 : ux100 0 = (vI p0) := hp 0 _ rfl rfl
            have f4 : ux100 4 = (vB x101) := hp 1 _ rfl rfl
            have f7 : ux100 7 = (vB r104) := hp 2 _ rfl rfl
            refine s_call (vs := [(vI p0), (vB x101), (vB r104)]) hE goes_none (by decide) (evs_of (evsC (lk rfl f0) (evsC (lk rfl f4) (evsC (lk rfl f7) evsN)))) cb183 (c_spec_l01Times _ p0 x101 r104 r106 e107) ?_
            rintro v w a ⟨rfl, hK⟩ hE
            exact ⟨hK, _, _, rfl, hE, rfl⟩
          · intro a w ux100 hE hM hp
            have f8 : ux100 8 = (vB r106) := hp 0 _ rfl rfl
            refine s_assign hE goes_none (by decide) (lk rfl f8) ?_; intro a hE
            exact ⟨Kept.refl _ _, _, _, rfl, hE, rfl⟩
          · intro a w ux100 hE hM hg
            have f0 : ux100 0 = (vI p0) := hg 0 (by decide)
            have f1 : ux100 1 = v2_1 := hg 1 (by decide)
            have f2 : ux100 2 = (vI s10.2) := hg 2 (by decide)
            have f3 : ux100 3 = (ptr (sb v2_1) (so v2_1 + (s10.2).toNat * 1)) := hg 3 (by decide)
            have f4 : ux100 4 = (vB x101) := hg 4 (by decide)
            have f5 : ux100 5 = (vI p0) := hg 5 (by decide)
            have f6 : ux100 6 = (vB j19.1) := hg 6 (by decide)
            have f7 : ux100 7 = (vB r104) := hg 7 (by decide)
            have f8 : ux100 8 = (vB r106) := hg 8 (by decide)
            have f9 : ux100 9 = (vB r106) := hg 9 (by decide)
            have hE := hE.sub (e' := [(90, (vI p0)), (91, v2_1), (92, (vI s10.2)), (93, (ptr (sb v2_1) (so v2_1 + (s10.2).toNat * 1))), (94, (vB x101)), (95, (vI p0)), (96, (vB j19.1)), (97, (vB r104)), (98, (vB r106)), (14, (vB r106)), (0, (vI p0)), (1, v1_1), (2, v2_1), (7, u11), (8, (vI s10.2)), (9, u22), (10, (vB j19.1))]) ⟨lk rfl f0, lk rfl f1, lk rfl f2, lk rfl f3, lk rfl f4, lk rfl f5, lk rfl f6, lk rfl f7, lk rfl f8, lk rfl f9, rfl, rfl, rfl, rfl, rfl, rfl, rfl, trivial⟩
            refine c_fin0 ?_
            have ht108 := Option.some.inj hl98
            subst ht108
            refine c_mid ?_
            exact ⟨hE.sub ⟨rfl, rfl, rfl, rfl, rfl, rfl, rfl, trivial⟩, hM⟩
        · skip
          rintro a w ⟨hE, hM⟩
          refine c_region ?_
          refine s_assign hE goes_none (by decide) rfl ?_; intro a hE
          refine c_fin ?_
          obtain ⟨j109, hl110, hF111⟩ := bind_some hF99
          refine c_cut (fun a w => ∃ (u112 : Value), Env 121 a [(0, (vI p0)), (1, v1_1), (2, v2_1), (7, u112), (8, (vI s10.2))] ∧ M (Old w0) w0 w [osl NoB (j109 : List UInt8) u112]) ?_ ?_
          · skip
            refine wp_block ?_
            have hM := hM.pull (pre := [_])
            refine c_loop (fun (s114 : Int × (List UInt8)) a w => ∃ (u115 : Value), Env 121 a [(0, (vI p0)), (1, v1_1), (2, v2_1), (7, u115), (8, (vI s10.2)), (9, u22), (14, (vB j97)), (15, (vI s114.1))] ∧ M (Old w0) w0 w [osl NoB (j19.2 : List UInt8) u22, osl NoB (s114.2 : List UInt8) u115]) hl110 ⟨u11, hE.sub ⟨rfl, rfl, rfl, rfl, rfl, rfl, rfl, rfl, trivial⟩, hM⟩ ?_
            rintro s114 a w ⟨u115, hE, hM⟩ o119 hs117 hx118
            unfold L3_spec_l01Interpolate at hs117
            refine wp_seq ?_
            refine c_region ?_
            refine s_move hE goes_none (by decide) rfl ?_; intro a hE
            refine s_move hE goes_none (by decide) rfl ?_; intro a hE
            refine s_len hE goes_none (by decide) rfl Try.underlying24 (hM.sl (pre := []) noB) ?_; intro a hE
            refine s_int hE goes_none (by decide) rfl rfl rfl ?_; intro a hE
            refine c_fin ?_
            refine c_cond hE rfl ?_ ?_
            · intro hb120
              have hs117 := ite_t hs117 hb120
              refine wp_skip ?_
              refine c_nx ?_
              refine wp_seq ?_
              refine wp_block ?_
              obtain ⟨x122, e123, hs117⟩ := bind_some hs117
              have hi124 := idx_some e123
              obtain ⟨x125, e126, hs117⟩ := bind_some hs117
              have hi127 := idx_some e126
              obtain ⟨r128, e129, hs117⟩ := bind_some hs117
              obtain ⟨x130, e131, hs117⟩ := bind_some hs117
              have hi132 := idx_some e131
              refine c_draw (n := 121) (hd := [_, _, _, _, _, _, _, _, _, _, _, _, _, _, _]) (tl := [_]) hmix rfl rfl [105, 106, 107, 108, 109, 110, 111, 112, 113, 114, 115, 116, 117, 118, 119] (by decide) (fun w => M (Old w0) w0 w [osl NoB (j19.2 : List UInt8) u22, osl NoB (s114.2 : List UInt8) u115]) (fun j => ([fun v _ => v = u115, fun v _ => v = (vI s114.1), fun v _ => v = u115, fun v _ => v = (vI s114.1), fun v _ => v = (ptr (sb u115) (so u115 + (s114.1).toNat * 1)), fun v _ => v = (vB x122), fun v _ => v = (vI p0), fun v _ => v = u22, fun v _ => v = (vI s114.1), fun v _ => v = (ptr (sb u22) (so u22 + (s114.1).toNat * 1)), fun v _ => v = (vB x125), fun v _ => v = (vB j97), fun v _ => v = (vB r128), fun v _ => v = (vB (x122 ^^^ r128)), fun v _ => v = (ptr (sb u115) (so u115 + (s114.1).toNat * 1))] : List (Value → World → Prop)).getD j (fun _ _ => True)) (fun _ _ h hk => h.keep hk) (gup (gupE (gupE (gupE (gupE (gupE (gupE (gupE (gupE (gupE (gupE (gupE (gupE (gupE (gupE (gupE gupN)))))))))))))))) hE hM.drew (steps_of (steps_cons ?_ (steps_cons ?_ (steps_cons ?_ (steps_cons ?_ (steps_cons ?_ (steps_cons ?_ (steps_cons ?_ (steps_cons ?_ (steps_cons ?_ (steps_cons ?_ (steps_cons ?_ (steps_cons ?_ (steps_cons ?_ (steps_cons ?_ (steps_cons ?_ steps_nil)))))))))))))))) ?_
              · intro a w ux121 hE hM hp
                refine s_move hE goes_none (by decide) rfl ?_; intro a hE
                exact ⟨Kept.refl _ _, _, _, rfl, hE, rfl⟩
              · intro a w ux121 hE hM hp
                refine s_move hE goes_none (by decide) rfl ?_; intro a hE
                exact ⟨Kept.refl _ _, _, _, rfl, hE, rfl⟩
              · intro a w ux121 hE hM hp
                refine s_move hE goes_none (by decide) rfl ?_; intro a hE
                exact ⟨Kept.refl _ _, _, _, rfl, hE, rfl⟩
              · intro a w ux121 hE hM hp
                refine s_move hE goes_none (by decide) rfl ?_; intro a hE
                exact ⟨Kept.refl _ _, _, _, rfl, hE, rfl⟩
              · intro a w ux121 hE hM hp
                have f2 : ux121 2 = u115 := hp 0 _ rfl rfl
                have f3 : ux121 3 = (vI s114.1) := hp 1 _ rfl rfl
                refine s_indexS hE goes_none (by decide) (lk rfl f2) (lk rfl f3) Try.underlying24 ty5 (hM.sl (pre := [_]) noB) hi124.1 ?_; intro a hE
                exact ⟨Kept.refl _ _, _, _, rfl, hE, rfl⟩
              · intro a w ux121 hE hM hp
                have f4 : ux121 4 = (ptr (sb u115) (so u115 + (s114.1).toNat * 1)) := hp 0 _ rfl rfl
                refine s_load (v := (vB x122)) hE goes_none (by decide) (lk rfl f4) ty5 rfl (sl_atF (hM.sl (pre := [_]) noB) hi124.2) ?_; intro a hE
                exact ⟨Kept.refl _ _, _, _, rfl, hE, rfl⟩
              · intro a w ux121 hE hM hp
                refine s_move hE goes_none (by decide) rfl ?_; intro a hE
                exact ⟨Kept.refl _ _, _, _, rfl, hE, rfl⟩
              · intro a w ux121 hE hM hp
                refine s_move hE goes_none (by decide) rfl ?_; intro a hE
                exact ⟨Kept.refl _ _, _, _, rfl, hE, rfl⟩
              · intro a w ux121 hE hM hp
                refine s_move hE goes_none (by decide) rfl ?_; intro a hE
                exact ⟨Kept.refl _ _, _, _, rfl, hE, rfl⟩
              · intro a w ux121 hE hM hp
                have f7 : ux121 7 = u22 := hp 0 _ rfl rfl
                have f8 : ux121 8 = (vI s114.1) := hp 1 _ rfl rfl
                refine s_indexS hE goes_none (by decide) (lk rfl f7) (lk rfl f8) Try.underlying24 ty5 (hM.sl (pre := []) noB) hi127.1 ?_; intro a hE
                exact ⟨Kept.refl _ _, _, _, rfl, hE, rfl⟩
              · intro a w ux121 hE hM hp
                have f9 : ux121 9 = (ptr (sb u22) (so u22 + (s114.1).toNat * 1)) := hp 0 _ rfl rfl
                refine s_load (v := (vB x125)) hE goes_none (by decide) (lk rfl f9) ty5 rfl (sl_atF (hM.sl (pre := []) noB) hi127.2) ?_; intro a hE
                exact ⟨Kept.refl _ _, _, _, rfl, hE, rfl⟩
              · intro a w ux121 hE hM hp
                refine s_move hE goes_none (by decide) rfl ?_; intro a hE
                exact ⟨Kept.refl _ _, _, _, rfl, hE, rfl⟩
              · intro a w ux121 hE hM hp
                have f6 : ux121 6 = (vI p0) := hp 0 _ rfl rfl
                have f10 : ux121 10 = (vB x125) := hp 1 _ rfl rfl
                have f11 : ux121 11 = (vB j97) := hp 2 _ rfl rfl
                refine s_call (vs := [(vI p0), (vB x125), (vB j97)]) hE goes_none (by decide) (evs_of (evsC (lk rfl f6) (evsC (lk rfl f10) (evsC (lk rfl f11) evsN)))) cb183 (c_spec_l01Times _ p0 x125 j97 r128 e129) ?_
                rintro v w a ⟨rfl, hK⟩ hE
                exact ⟨hK, _, _, rfl, hE, rfl⟩
              · intro a w ux121 hE hM hp
                have f5 : ux121 5 = (vB x122) := hp 0 _ rfl rfl
                have f12 : ux121 12 = (vB r128) := hp 1 _ rfl rfl
                refine s_int hE goes_none (by decide) (lk rfl f5) (lk rfl f12) (bB_xor x122 r128) ?_; intro a hE
                exact ⟨Kept.refl _ _, _, _, rfl, hE, rfl⟩
              · intro a w ux121 hE hM hp
                have f0 : ux121 0 = u115 := hp 0 _ rfl rfl
                have f1 : ux121 1 = (vI s114.1) := hp 1 _ rfl rfl
                refine s_indexS hE goes_none (by decide) (lk rfl f0) (lk rfl f1) Try.underlying24 ty5 (hM.sl (pre := [_]) noB) hi132.1 ?_; intro a hE
                exact ⟨Kept.refl _ _, _, _, rfl, hE, rfl⟩
              · intro a w ux121 hE hM hg
                have f0 : ux121 0 = u115 := hg 0 (by decide)
                have f1 : ux121 1 = (vI s114.1) := hg 1 (by decide)
                have f2 : ux121 2 = u115 := hg 2 (by decide)
                have f3 : ux121 3 = (vI s114.1) := hg 3 (by decide)
                have f4 : ux121 4 = (ptr (sb u115) (so u115 + (s114.1).toNat * 1)) := hg 4 (by decide)
                have f5 : ux121 5 = (vB x122) := hg 5 (by decide)
                have f6 : ux121 6 = (vI p0) := hg 6 (by decide)
                have f7 : ux121 7 = u22 := hg 7 (by decide)
                have f8 : ux121 8 = (vI s114.1) := hg 8 (by decide)
                have f9 : ux121 9 = (ptr (sb u22) (so u22 + (s114.1).toNat * 1)) := hg 9 (by decide)
                have f10 : ux121 10 = (vB x125) := hg 10 (by decide)
                have f11 : ux121 11 = (vB j97) := hg 11 (by decide)
                have f12 : ux121 12 = (vB r128) := hg 12 (by decide)
                have f13 : ux121 13 = (vB (x122 ^^^ r128)) := hg 13 (by decide)
                have f14 : ux121 14 = (ptr (sb u115) (so u115 + (s114.1).toNat * 1)) := hg 14 (by decide)
                have hE := hE.sub (e' := [(105, u115), (106, (vI s114.1)), (107, u115), (108, (vI s114.1)), (109, (ptr (sb u115) (so u115 + (s114.1).toNat * 1))), (110, (vB x122)), (111, (vI p0)), (112, u22), (113, (vI s114.1)), (114, (ptr (sb u22) (so u22 + (s114.1).toNat * 1))), (115, (vB x125)), (116, (vB j97)), (117, (vB r128)), (118, (vB (x122 ^^^ r128))), (119, (ptr (sb u115) (so u115 + (s114.1).toNat * 1))), (0, (vI p0)), (1, v1_1), (2, v2_1), (7, u115), (8, (vI s10.2)), (9, u22), (14, (vB j97)), (15, (vI s114.1)), (99, (vI s114.1)), (100, u22), (101, (vI (j19.2.length : Int))), (102, (vT (decide (s114.1 < (j19.2.length : Int)))))]) ⟨lk rfl f0, lk rfl f1, lk rfl f2, lk rfl f3, lk rfl f4, lk rfl f5, lk rfl f6, lk rfl f7, lk rfl f8, lk rfl f9, lk rfl f10, lk rfl f11, lk rfl f12, lk rfl f13, lk rfl f14, rfl, rfl, rfl, rfl, rfl, rfl, rfl, rfl, rfl, rfl, rfl, rfl, trivial⟩
                have hM := hM.pull (pre := [_])
                refine s_storeS (i := (s114.1).toNat) (k0 := 0) (seg := [(vB (x122 ^^^ r128))]) (xo := x130) (xn := x122 ^^^ r128) hE hM goes_none rfl rfl rfl ty5 rfl (Flat.cell (x122 ^^^ r128 : UInt8)) hi132.2 (fit_num (m := 1) rfl (by decide)) (splice_all (Eq.trans rfl (Eq.symm rfl))) ?_; intro w a hM hE
                refine c_fin0 ?_
                refine c_nb ?_
                refine c_nx ?_
                refine wp_region_lit ?_
                refine s_move hE goes_none (by decide) rfl ?_; intro a hE
                refine s_int hE goes_none (by decide) rfl rfl rfl ?_; intro a hE
                refine s_assign hE goes_none (by decide) rfl ?_; intro a hE
                refine c_fin0 ?_
                refine c_mid ?_
                have hM := hM.pull (pre := [_])
                exact ⟨_, (Option.some.inj hs117).symm, u115, hE.sub ⟨rfl, rfl, rfl, rfl, rfl, rfl, rfl, rfl, trivial⟩, hM⟩
            · intro hb120
              have hs117 := ite_f hs117 hb120
              refine wp_exit (e_then (e_then (e_eq ?_)))
              have ht133 := hx118 _ (Option.some.inj hs117).symm
              subst ht133
              refine c_mid ?_
              have hM := hM.pull (pre := [_])
              have hM := M.fst (l := [_]) hM
              exact ⟨u115, hE.sub ⟨rfl, rfl, rfl, rfl, rfl, trivial⟩, hM⟩
          · skip
            rintro a w ⟨u112, hE, hM⟩
            refine c_nb ?_
            refine c_nx ?_
            refine wp_region_lit ?_
            refine s_move hE goes_none (by decide) rfl ?_; intro a hE
            refine s_int hE goes_none (by decide) rfl rfl rfl ?_; intro a hE
            refine s_assign hE goes_none (by decide) rfl ?_; intro a hE
            refine c_fin0 ?_
            refine c_mid ?_
            exact ⟨_, (Option.some.inj hF111).symm, u112, hE.sub ⟨rfl, rfl, rfl, rfl, rfl, trivial⟩, hM⟩
    · intro hb16
      have hs13 := ite_f hs13 hb16
      refine wp_exit (e_then (e_then (e_eq ?_)))
      have ht134 := hx14 _ (Option.some.inj hs13).symm
      subst ht134
      refine c_mid ?_
      exact ⟨u11, hE.sub ⟨rfl, trivial⟩, hM⟩
  · skip
    rintro a w ⟨u8, hE, hM⟩
    refine c_nx ?_
    refine c_region ?_
    refine s_move hE goes_none (by decide) rfl ?_; intro a hE
    refine s_assign hE goes_none (by decide) rfl ?_; intro a hE
    refine c_fin ?_
    have hr := Option.some.inj hF7
    subst hr
    exact wp_ret (k_ret1 hE rfl (res_tmp hE rfl) ⟨_, rfl, u8, rfl, hM.outF (locN1 locN0), hM.kept⟩)
noncomputable def L0_spec_l01Value (p0 : Int) (p1 : (List UInt8)) (p2 : UInt8) (s4 : UInt8 × Int) : Option (Fl (UInt8 × Int) UInt8) :=
  if (decide (s4.2 ≥ 0)) = true then ((F_spec_l01Times p0 s4.1 p2).bind fun (r10 : UInt8) => (idx p1 s4.2).bind fun (x12 : UInt8) => some (Fl.nx (r10 ^^^ x12, wr (s4.2 - 1)))) else (some (Fl.ex s4.1))
noncomputable def F_spec_l01Value (p0 : Int) (p1 : (List UInt8)) (p2 : UInt8) : Option (UInt8) :=
  (iter (L0_spec_l01Value p0 p1 p2) (0, wr ((p1.length : Int) - 1)) : Option (UInt8)).bind fun (j1 : UInt8) => some j1
set_option maxRecDepth 20000 in
set_option maxHeartbeats 400000 in
theorem c_spec_l01Value (w0 : World) (p0 : Int) (p1 : (List UInt8)) (v1_1 : Value) (hv1_1 : Ro w0 p1 [v1_1]) (p2 : UInt8) (r : UInt8) (hF : F_spec_l01Value p0 p1 p2 = some r) :
    Calls Try.prog 130 [(vI p0), v1_1, (vB p2)].toArray w0 (fun en w' => ∃ v, en = .returned v ∧ (v = (vB r) ∧ Kept (Old w0) w0 w')) := by
  refine c_enter (n := 26) Try.func130 rfl rfl (Nat.le_of_ble_eq_true rfl) rfl ?_
  intro a hE
  have hM := M.start w0
  unfold F_spec_l01Value at hF
  refine c_region ?_
  refine s_assign hE goes_none (by decide) rfl ?_; intro a hE
  refine c_fin ?_
  refine c_region ?_
  refine s_assign hE goes_none (by decide) rfl ?_; intro a hE
  refine c_fin ?_
  refine wp_seq ?_
  refine c_region ?_
  refine s_move hE goes_none (by decide) rfl ?_; intro a hE
  refine s_len hE goes_none (by decide) rfl Try.underlying24 (hM.rd hv1_1) ?_; intro a hE
  refine s_int hE goes_none (by decide) rfl rfl rfl ?_; intro a hE
  refine s_assign hE goes_none (by decide) rfl ?_; intro a hE
  refine c_fin ?_
  obtain ⟨j1, hl2, hF3⟩ := bind_some hF
  refine c_cut (fun a w => Env 26 a [(7, (vB j1))] ∧ M (Old w0) w0 w []) ?_ ?_
  · skip
    refine wp_block ?_
    refine c_loop (fun (s4 : UInt8 × Int) a w => Env 26 a [(0, (vI p0)), (1, v1_1), (2, (vB p2)), (7, (vB s4.1)), (8, (vI s4.2))] ∧ M (Old w0) w0 w []) hl2 ⟨hE.sub ⟨rfl, rfl, rfl, rfl, rfl, trivial⟩, hM⟩ ?_
    rintro s4 a w ⟨hE, hM⟩ o7 hs5 hx6
    unfold L0_spec_l01Value at hs5
    refine wp_seq ?_
    refine c_region ?_
    refine s_move hE goes_none (by decide) rfl ?_; intro a hE
    refine s_int hE goes_none (by decide) rfl rfl rfl ?_; intro a hE
    refine c_fin ?_
    refine c_cond hE rfl ?_ ?_
    · intro hb8
      have hs5 := ite_t hs5 hb8
      refine wp_skip ?_
      refine c_nx ?_
      refine wp_seq ?_
      refine wp_block ?_
      obtain ⟨r10, e11, hs5⟩ := bind_some hs5
      obtain ⟨x12, e13, hs5⟩ := bind_some hs5
      have hi14 := idx_some e13
      refine c_draw (n := 26) (hd := [_, _, _, _, _, _, _, _, _]) (tl := [_]) hmix rfl rfl [16, 17, 18, 19, 20, 21, 22, 23, 24] (by decide) (fun w => M (Old w0) w0 w []) (fun j => ([fun v _ => v = (vI p0), fun v _ => v = (vB s4.1), fun v _ => v = (vB p2), fun v _ => v = (vB r10), fun v _ => v = v1_1, fun v _ => v = (vI s4.2), fun v _ => v = (ptr (sb v1_1) (so v1_1 + (s4.2).toNat * 1)), fun v _ => v = (vB x12), fun v _ => v = (vB (r10 ^^^ x12))] : List (Value → World → Prop)).getD j (fun _ _ => True)) (fun _ _ h hk => h.keep hk) (gup (gupE (gupE (gupE (gupE (gupE (gupE (gupE (gupE (gupE gupN)))))))))) hE hM.drew (steps_of (steps_cons ?_ (steps_cons ?_ (steps_cons ?_ (steps_cons ?_ (steps_cons ?_ (steps_cons ?_ (steps_cons ?_ (steps_cons ?_ (steps_cons ?_ steps_nil)))))))))) ?_
      · intro a w ux9 hE hM hp
        refine s_move hE goes_none (by decide) rfl ?_; intro a hE
        exact ⟨Kept.refl _ _, _, _, rfl, hE, rfl⟩
      · intro a w ux9 hE hM hp
        refine s_move hE goes_none (by decide) rfl ?_; intro a hE
        exact ⟨Kept.refl _ _, _, _, rfl, hE, rfl⟩
      · intro a w ux9 hE hM hp
        refine s_move hE goes_none (by decide) rfl ?_; intro a hE
        exact ⟨Kept.refl _ _, _, _, rfl, hE, rfl⟩
      · intro a w ux9 hE hM hp
        have f0 : ux9 0 = (vI p0) := hp 0 _ rfl rfl
        have f1 : ux9 1 = (vB s4.1) := hp 1 _ rfl rfl
        have f2 : ux9 2 = (vB p2) := hp 2 _ rfl rfl
        refine s_call (vs := [(vI p0), (vB s4.1), (vB p2)]) hE goes_none (by decide) (evs_of (evsC (lk rfl f0) (evsC (lk rfl f1) (evsC (lk rfl f2) evsN)))) cb183 (c_spec_l01Times _ p0 s4.1 p2 r10 e11) ?_
        rintro v w a ⟨rfl, hK⟩ hE
        exact ⟨hK, _, _, rfl, hE, rfl⟩
      · intro a w ux9 hE hM hp
        refine s_move hE goes_none (by decide) rfl ?_; intro a hE
        exact ⟨Kept.refl _ _, _, _, rfl, hE, rfl⟩
      · intro a w ux9 hE hM hp
        refine s_move hE goes_none (by decide) rfl ?_; intro a hE
        exact ⟨Kept.refl _ _, _, _, rfl, hE, rfl⟩
      · intro a w ux9 hE hM hp
        have f4 : ux9 4 = v1_1 := hp 0 _ rfl rfl
        have f5 : ux9 5 = (vI s4.2) := hp 1 _ rfl rfl
        refine s_indexS hE goes_none (by decide) (lk rfl f4) (lk rfl f5) Try.underlying24 ty5 (hM.rd hv1_1) hi14.1 ?_; intro a hE
        exact ⟨Kept.refl _ _, _, _, rfl, hE, rfl⟩
      · intro a w ux9 hE hM hp
        have f6 : ux9 6 = (ptr (sb v1_1) (so v1_1 + (s4.2).toNat * 1)) := hp 0 _ rfl rfl
        refine s_load (v := (vB x12)) hE goes_none (by decide) (lk rfl f6) ty5 rfl (sl_atF (hM.rd hv1_1) hi14.2) ?_; intro a hE
        exact ⟨Kept.refl _ _, _, _, rfl, hE, rfl⟩
      · intro a w ux9 hE hM hp
        have f3 : ux9 3 = (vB r10) := hp 0 _ rfl rfl
        have f7 : ux9 7 = (vB x12) := hp 1 _ rfl rfl
        refine s_int hE goes_none (by decide) (lk rfl f3) (lk rfl f7) (bB_xor r10 x12) ?_; intro a hE
        exact ⟨Kept.refl _ _, _, _, rfl, hE, rfl⟩
      · intro a w ux9 hE hM hg
        have f0 : ux9 0 = (vI p0) := hg 0 (by decide)
        have f1 : ux9 1 = (vB s4.1) := hg 1 (by decide)
        have f2 : ux9 2 = (vB p2) := hg 2 (by decide)
        have f3 : ux9 3 = (vB r10) := hg 3 (by decide)
        have f4 : ux9 4 = v1_1 := hg 4 (by decide)
        have f5 : ux9 5 = (vI s4.2) := hg 5 (by decide)
        have f6 : ux9 6 = (ptr (sb v1_1) (so v1_1 + (s4.2).toNat * 1)) := hg 6 (by decide)
        have f7 : ux9 7 = (vB x12) := hg 7 (by decide)
        have f8 : ux9 8 = (vB (r10 ^^^ x12)) := hg 8 (by decide)
        have hE := hE.sub (e' := [(16, (vI p0)), (17, (vB s4.1)), (18, (vB p2)), (19, (vB r10)), (20, v1_1), (21, (vI s4.2)), (22, (ptr (sb v1_1) (so v1_1 + (s4.2).toNat * 1))), (23, (vB x12)), (24, (vB (r10 ^^^ x12))), (0, (vI p0)), (1, v1_1), (2, (vB p2)), (7, (vB s4.1)), (8, (vI s4.2)), (12, (vI s4.2)), (13, (vT (decide (s4.2 ≥ 0))))]) ⟨lk rfl f0, lk rfl f1, lk rfl f2, lk rfl f3, lk rfl f4, lk rfl f5, lk rfl f6, lk rfl f7, lk rfl f8, rfl, rfl, rfl, rfl, rfl, rfl, rfl, trivial⟩
        refine s_assign hE goes_none (by decide) rfl ?_; intro a hE
        refine c_fin0 ?_
        refine c_nb ?_
        refine c_nx ?_
        refine wp_region_lit ?_
        refine s_move hE goes_none (by decide) rfl ?_; intro a hE
        refine s_int hE goes_none (by decide) rfl rfl rfl ?_; intro a hE
        refine s_assign hE goes_none (by decide) rfl ?_; intro a hE
        refine c_fin0 ?_
        refine c_mid ?_
        exact ⟨_, (Option.some.inj hs5).symm, hE.sub ⟨rfl, rfl, rfl, rfl, rfl, trivial⟩, hM⟩
    · intro hb8
      have hs5 := ite_f hs5 hb8
      refine wp_exit (e_then (e_then (e_eq ?_)))
      have ht15 := hx6 _ (Option.some.inj hs5).symm
      subst ht15
      refine c_mid ?_
      exact ⟨hE.sub ⟨rfl, trivial⟩, hM⟩
  · skip
    rintro a w ⟨hE, hM⟩
    refine c_nx ?_
    refine c_region ?_
    refine s_move hE goes_none (by decide) rfl ?_; intro a hE
    refine s_assign hE goes_none (by decide) rfl ?_; intro a hE
    refine c_fin ?_
    have hr := Option.some.inj hF3
    subst hr
    exact wp_ret (k_ret1 hE rfl (res_tmp hE rfl) ⟨_, rfl, rfl, hM.kept⟩)
noncomputable def L1_spec_l10At (p1 : (List GShare)) (s11 : (List UInt8) × Int) (s33 : (List UInt8) × Int) : Option (Fl ((List UInt8) × Int) (List UInt8)) :=
  if (decide (s33.2 < (p1.length : Int))) = true then ((idx p1 s33.2).bind fun (x40 : GShare) => (idx x40.Data s11.2).bind fun (x48 : UInt8) => (app 1 s33.1 ([x48] : List UInt8)).bind fun (l53 : (List UInt8)) => some (Fl.nx ((s33.1 ++ ([x48] : List UInt8)), wr (s33.2 + 1)))) else (some (Fl.ex s33.1))
noncomputable def L0_spec_l10At (p0 : Int) (p1 : (List GShare)) (p2 : UInt8) (r1 : (List UInt8)) (s11 : (List UInt8) × Int) : Option (Fl ((List UInt8) × Int) (List UInt8)) :=
  (idx p1 (0 : Int)).bind fun (x17 : GShare) => if (decide (s11.2 < (x17.Data.length : Int))) = true then ((iter (L1_spec_l10At p1 s11) (([] : List UInt8), 0) : Option ((List UInt8))).bind fun (j28 : (List UInt8)) => (F_spec_l01Interpolate p0 r1 j28).bind fun (r59 : (List UInt8)) => (F_spec_l01Value p0 r59 p2).bind fun (r62 : UInt8) => (app 1 s11.1 ([r62] : List UInt8)).bind fun (l66 : (List UInt8)) => some (Fl.nx ((s11.1 ++ ([r62] : List UInt8)), wr (s11.2 + 1)))) else (some (Fl.ex s11.1))
noncomputable def F_spec_l10At (p0 : Int) (p1 : (List GShare)) (p2 : UInt8) : Option ((List UInt8)) :=
  (F_spec_l10Places p1).bind fun (r1 : (List UInt8)) => (iter (L0_spec_l10At p0 p1 p2 r1) (([] : List UInt8), 0) : Option ((List UInt8))).bind fun (j6 : (List UInt8)) => some j6
set_option maxRecDepth 20000 in
set_option maxHeartbeats 400000 in
theorem c_spec_l10At (w0 : World) (p0 : Int) (p1 : (List GShare)) (v1_1 : Value) (hv1_1 : Ro w0 p1 [v1_1]) (p2 : UInt8) (r : (List UInt8)) (hF : F_spec_l10At p0 p1 p2 = some r) :
    Calls Try.prog 68 [(vI p0), v1_1, (vB p2)].toArray w0 (fun en w' => ∃ v, en = .returned v ∧ (∃ (y1 : Value), v = y1 ∧ Fr w0 w' [osl NoB (r : List UInt8) y1] ∧ Kept (Old w0) w0 w')) := by
  refine c_enter (n := 53) Try.func68 rfl rfl (Nat.le_of_ble_eq_true rfl) rfl ?_
  intro a hE
  have hM := M.start w0
  unfold F_spec_l10At at hF
  refine c_region ?_
  refine s_assign hE goes_none (by decide) rfl ?_; intro a hE
  refine c_fin ?_
  refine c_region ?_
  refine s_move hE goes_none (by decide) rfl ?_; intro a hE
  obtain ⟨r1, e2, hF⟩ := bind_some hF
  refine s_call (vs := [v1_1]) hE goes_none (by decide) rfl cb78 (c_spec_l10Places _ p1 v1_1 (hM.rdo hv1_1) r1 e2) ?_
  rintro u3 w a ⟨_, rfl, hFr, hK⟩ hE
  have hM := hM.add hK hFr
  refine s_buildF (xs := []) (l := ([] : List UInt8)) (vs := []) hE hM goes_none (by decide) rfl rfl Try.underlying24 ty5 rfl (by decide) rfl ?_; intro u4 w a hM hE
  refine s_assign hE goes_none (by decide) rfl ?_; intro a hE
  refine s_assign hE goes_none (by decide) rfl ?_; intro a hE
  refine c_fin ?_
  refine wp_seq ?_
  refine c_region ?_
  refine s_assign hE goes_none (by decide) rfl ?_; intro a hE
  refine c_fin ?_
  obtain ⟨j6, hl7, hF8⟩ := bind_some hF
  refine c_cut (fun a w => ∃ (u9 : Value), Env 53 a [(8, u9)] ∧ M (Old w0) w0 w [osl NoB (j6 : List UInt8) u9]) ?_ ?_
  · skip
    refine wp_block ?_
    have hM := hM.pull (pre := [_])
    refine c_loop (fun (s11 : (List UInt8) × Int) a w => ∃ (u12 : Value), Env 53 a [(0, (vI p0)), (1, v1_1), (2, (vB p2)), (7, u3), (8, u12), (9, (vI s11.2))] ∧ M (Old w0) w0 w [osl NoB (r1 : List UInt8) u3, osl NoB (s11.1 : List UInt8) u12]) hl7 ⟨u4, hE.sub ⟨rfl, rfl, rfl, rfl, rfl, rfl, trivial⟩, hM⟩ ?_
    rintro s11 a w ⟨u12, hE, hM⟩ o16 hs14 hx15
    unfold L0_spec_l10At at hs14
    refine wp_seq ?_
    refine c_region ?_
    refine s_move hE goes_none (by decide) rfl ?_; intro a hE
    refine s_move hE goes_none (by decide) rfl ?_; intro a hE
    obtain ⟨x17, e18, hs14⟩ := bind_some hs14
    have hi19 := idx_some e18
    refine s_indexS hE goes_none (by decide) rfl rfl Try.underlying29 ty26 (hM.rd hv1_1) hi19.1 ?_; intro a hE
    refine s_fieldAddr hE goes_none (by decide) rfl (fd26_1) ?_; intro a hE
    obtain ⟨cs20, hs21, hA22⟩ := sl_atRo hv1_1 hi19.2 -- ^
    obtain ⟨u23, rfl, h24⟩ := un_GShare hs21 -- ^
    refine s_load (v := u23) hE goes_none (by decide) rfl ty24 rfl (At.cat (pre := [[(vB x17.Place)]]) (seg := [u23]) (post := []) (hM.atk hA22 (sl_blk hv1_1 hi19.2)) (cl1 (n := 1) (m := 0) rfl cl0)) ?_; intro a hE
    refine s_len hE goes_none (by decide) rfl Try.underlying24 (hM.rd h24) ?_; intro a hE
    refine s_int hE goes_none (by decide) rfl rfl rfl ?_; intro a hE
    refine c_fin ?_
    refine c_cond hE rfl ?_ ?_
    · intro hb25
      have hs14 := ite_t hs14 hb25
      refine wp_skip ?_
      refine c_nx ?_
      refine wp_seq ?_
      refine wp_block ?_
      refine c_region ?_
      refine s_buildF (xs := []) (l := ([] : List UInt8)) (vs := []) hE hM goes_none (by decide) rfl rfl Try.underlying24 ty5 rfl (by decide) rfl ?_; intro u26 w a hM hE
      refine s_assign hE goes_none (by decide) rfl ?_; intro a hE
      refine c_fin ?_
      refine wp_seq ?_
      refine c_region ?_
      refine s_assign hE goes_none (by decide) rfl ?_; intro a hE
      refine c_fin ?_
      obtain ⟨j28, hl29, hF30⟩ := bind_some hs14
      refine c_cut (fun a w => ∃ (u31 : Value), Env 53 a [(0, (vI p0)), (1, v1_1), (2, (vB p2)), (7, u3), (8, u12), (9, (vI s11.2)), (10, u31)] ∧ M (Old w0) w0 w [osl NoB (r1 : List UInt8) u3, osl NoB (s11.1 : List UInt8) u12, osl NoB (j28 : List UInt8) u31]) ?_ ?_
      · skip
        refine wp_block ?_
        have hM := hM.pull (pre := [_, _])
        have hM := hM.pull (pre := [_, _])
        refine c_loop (fun (s33 : (List UInt8) × Int) a w => ∃ (u34 : Value), Env 53 a [(0, (vI p0)), (1, v1_1), (2, (vB p2)), (7, u3), (8, u12), (9, (vI s11.2)), (10, u34), (11, (vI s33.2))] ∧ M (Old w0) w0 w [osl NoB (r1 : List UInt8) u3, osl NoB (s11.1 : List UInt8) u12, osl NoB (s33.1 : List UInt8) u34]) hl29 ⟨u26, hE.sub ⟨rfl, rfl, rfl, rfl, rfl, rfl, rfl, rfl, trivial⟩, hM⟩ ?_
        rintro s33 a w ⟨u34, hE, hM⟩ o38 hs36 hx37
        unfold L1_spec_l10At at hs36
        refine wp_seq ?_
        refine c_region ?_
        refine s_move hE goes_none (by decide) rfl ?_; intro a hE
        refine s_move hE goes_none (by decide) rfl ?_; intro a hE
        refine s_len hE goes_none (by decide) rfl Try.underlying29 (hM.rd hv1_1) ?_; intro a hE
        refine s_int hE goes_none (by decide) rfl rfl rfl ?_; intro a hE
        refine c_fin ?_
        refine c_cond hE rfl ?_ ?_
        · intro hb39
          have hs36 := ite_t hs36 hb39
          refine wp_skip ?_
          refine c_nx ?_
          refine wp_seq ?_
          refine wp_block ?_
          refine wp_region_lit ?_
          refine s_move hE goes_none (by decide) rfl ?_; intro a hE
          refine s_move hE goes_none (by decide) rfl ?_; intro a hE
          refine s_move hE goes_none (by decide) rfl ?_; intro a hE
          obtain ⟨x40, e41, hs36⟩ := bind_some hs36
          have hi42 := idx_some e41
          refine s_indexS hE goes_none (by decide) rfl rfl Try.underlying29 ty26 (hM.rd hv1_1) hi42.1 ?_; intro a hE
          refine s_fieldAddr hE goes_none (by decide) rfl (fd26_1) ?_; intro a hE
          obtain ⟨cs43, hs44, hA45⟩ := sl_atRo hv1_1 hi42.2 -- ^
          obtain ⟨u46, rfl, h47⟩ := un_GShare hs44 -- ^
          refine s_load (v := u46) hE goes_none (by decide) rfl ty24 rfl (At.cat (pre := [[(vB x40.Place)]]) (seg := [u46]) (post := []) (hM.atk hA45 (sl_blk hv1_1 hi42.2)) (cl1 (n := 1) (m := 0) rfl cl0)) ?_; intro a hE
          refine s_move hE goes_none (by decide) rfl ?_; intro a hE
          obtain ⟨x48, e49, hs36⟩ := bind_some hs36
          have hi50 := idx_some e49
          refine s_indexS hE goes_none (by decide) rfl rfl Try.underlying24 ty5 (hM.rd h47) hi50.1 ?_; intro a hE
          refine s_load (v := (vB x48)) hE goes_none (by decide) rfl ty5 rfl (sl_atF (hM.rd h47) hi50.2) ?_; intro a hE
          refine s_buildF (xs := [.tmp 39]) (l := ([x48] : List UInt8)) (vs := [(vB x48)]) hE hM goes_none (by decide) rfl rfl Try.underlying24 ty5 rfl (by decide) rfl ?_; intro u51 w a hM hE
          obtain ⟨l53, e54, hs36⟩ := bind_some hs36
          obtain ⟨e57, rfl⟩ := app_some e54
          have hM := hM.pull (pre := [_, _, _])
          refine s_appendF hE hM goes_none (by decide) rfl rfl (hM.sl (pre := [_]) noB) Try.underlying24 ty5 rfl (by decide) e57 ?_; intro u55 w a hM hE
          refine s_assign hE goes_none (by decide) rfl ?_; intro a hE
          refine c_fin0 ?_
          refine c_nb ?_
          refine c_nx ?_
          refine wp_region_lit ?_
          refine s_move hE goes_none (by decide) rfl ?_; intro a hE
          refine s_int hE goes_none (by decide) rfl rfl rfl ?_; intro a hE
          refine s_assign hE goes_none (by decide) rfl ?_; intro a hE
          refine c_fin0 ?_
          refine c_mid ?_
          have hM := hM.pull (pre := [_, _, _])
          have hM := hM.pull (pre := [_, _, _])
          have hM := M.fst (l := [_, _, _]) hM
          exact ⟨_, (Option.some.inj hs36).symm, u55, hE.sub ⟨rfl, rfl, rfl, rfl, rfl, rfl, rfl, rfl, trivial⟩, hM⟩
        · intro hb39
          have hs36 := ite_f hs36 hb39
          refine wp_exit (e_then (e_then (e_eq ?_)))
          have ht58 := hx37 _ (Option.some.inj hs36).symm
          subst ht58
          refine c_mid ?_
          exact ⟨u34, hE.sub ⟨rfl, rfl, rfl, rfl, rfl, rfl, rfl, trivial⟩, hM⟩
      · skip
        rintro a w ⟨u31, hE, hM⟩
        refine c_nx ?_
        refine wp_region_lit ?_
        refine s_move hE goes_none (by decide) rfl ?_; intro a hE
        refine s_move hE goes_none (by decide) rfl ?_; intro a hE
        refine s_move hE goes_none (by decide) rfl ?_; intro a hE
        refine s_move hE goes_none (by decide) rfl ?_; intro a hE
        refine s_move hE goes_none (by decide) rfl ?_; intro a hE
        obtain ⟨r59, e60, hF30⟩ := bind_some hF30
        refine s_call (vs := [(vI p0), u3, u31]) hE goes_none (by decide) rfl cb131 (c_spec_l01Interpolate _ p0 r1 u3 (hM.sl (pre := []) noB) j28 u31 (hM.sl (pre := [_, _]) noB) r59 e60) ?_
        rintro u61 w a ⟨_, rfl, hFr, hK⟩ hE
        have hM := hM.add hK hFr
        refine s_move hE goes_none (by decide) rfl ?_; intro a hE
        obtain ⟨r62, e63, hF30⟩ := bind_some hF30
        refine s_call (vs := [(vI p0), u61, (vB p2)]) hE goes_none (by decide) rfl cb130 (c_spec_l01Value _ p0 r59 u61 (hM.sl (pre := []) noB) p2 r62 e63) ?_
        rintro v w a ⟨rfl, hK⟩ hE
        have hM := hM.keep hK
        refine s_buildF (xs := [.tmp 49]) (l := ([r62] : List UInt8)) (vs := [(vB r62)]) hE hM goes_none (by decide) rfl rfl Try.underlying24 ty5 rfl (by decide) rfl ?_; intro u64 w a hM hE
        obtain ⟨l66, e67, hF30⟩ := bind_some hF30
        obtain ⟨e70, rfl⟩ := app_some e67
        have hM := hM.pull (pre := [_, _, _])
        refine s_appendF hE hM goes_none (by decide) rfl rfl (hM.sl (pre := [_]) noB) Try.underlying24 ty5 rfl (by decide) e70 ?_; intro u68 w a hM hE
        refine s_assign hE goes_none (by decide) rfl ?_; intro a hE
        refine c_fin0 ?_
        refine c_nb ?_
        refine c_nx ?_
        refine wp_region_lit ?_
        refine s_move hE goes_none (by decide) rfl ?_; intro a hE
        refine s_int hE goes_none (by decide) rfl rfl rfl ?_; intro a hE
        refine s_assign hE goes_none (by decide) rfl ?_; intro a hE
        refine c_fin0 ?_
        refine c_mid ?_
        have hM := hM.pull (pre := [_, _, _])
        have hM := M.fst (l := [_, _]) hM
        exact ⟨_, (Option.some.inj hF30).symm, u68, hE.sub ⟨rfl, rfl, rfl, rfl, rfl, rfl, trivial⟩, hM⟩
    · intro hb25
      have hs14 := ite_f hs14 hb25
      refine wp_exit (e_then (e_then (e_eq ?_)))
      have ht71 := hx15 _ (Option.some.inj hs14).symm
      subst ht71
      refine c_mid ?_
      have hM := hM.pull (pre := [_])
      have hM := M.fst (l := [_]) hM
      exact ⟨u12, hE.sub ⟨rfl, trivial⟩, hM⟩
  · skip
    rintro a w ⟨u9, hE, hM⟩
    refine c_nx ?_
    refine c_region ?_
    refine s_move hE goes_none (by decide) rfl ?_; intro a hE
    refine s_assign hE goes_none (by decide) rfl ?_; intro a hE
    refine c_fin ?_
    have hr := Option.some.inj hF8
    subst hr
    exact wp_ret (k_ret1 hE rfl (res_tmp hE rfl) ⟨_, rfl, u9, rfl, hM.outF (locN1 locN0), hM.kept⟩)
noncomputable def L0_spec_l01Alike (p0 : (List UInt8)) (p1 : (List UInt8)) (s6 : Int) : Option (Fl Int (Fl Unit Bool)) :=
  if (decide (s6 < (p0.length : Int))) = true then (((idx p0 s6).bind fun (x15 : UInt8) => (idx p1 s6).bind fun (x18 : UInt8) => some (x15 != x18) : Option (Bool)).bind fun (j11 : Bool) => if j11 = true then (some (Fl.ex (Fl.ex false))) else (some (Fl.nx (wr (s6 + 1))))) else (some (Fl.ex (Fl.nx ())))
noncomputable def F_spec_l01Alike (p0 : (List UInt8)) (p1 : (List UInt8)) : Option (Bool) :=
  if ((p0.length : Int) != (p1.length : Int)) = true then (some false) else ((iter (L0_spec_l01Alike p0 p1) 0 : Option (Fl Unit Bool)).bind fun (j2 : Fl Unit Bool) => j2.el (fun (s5 : Unit) => some true) (fun r => some r))
set_option maxRecDepth 20000 in
set_option maxHeartbeats 400000 in
theorem c_spec_l01Alike (w0 : World) (p0 : (List UInt8)) (v0_1 : Value) (hv0_1 : Ro w0 p0 [v0_1]) (p1 : (List UInt8)) (v1_1 : Value) (hv1_1 : Ro w0 p1 [v1_1]) (r : Bool) (hF : F_spec_l01Alike p0 p1 = some r) :
    Calls Try.prog 182 [v0_1, v1_1].toArray w0 (fun en w' => ∃ v, en = .returned v ∧ (v = (vT r) ∧ Kept (Old w0) w0 w')) := by
  refine c_enter (n := 26) Try.func182 rfl rfl (Nat.le_of_ble_eq_true rfl) rfl ?_
  intro a hE
  have hM := M.start w0
  unfold F_spec_l01Alike at hF
  refine c_region ?_
  refine s_assign hE goes_none (by decide) rfl ?_; intro a hE
  refine c_fin ?_
  refine wp_seq ?_
  refine c_region ?_
  refine s_move hE goes_none (by decide) rfl ?_; intro a hE
  refine s_len hE goes_none (by decide) rfl Try.underlying24 (hM.rd hv0_1) ?_; intro a hE
  refine s_move hE goes_none (by decide) rfl ?_; intro a hE
  refine s_len hE goes_none (by decide) rfl Try.underlying24 (hM.rd hv1_1) ?_; intro a hE
  refine s_int hE goes_none (by decide) rfl rfl rfl ?_; intro a hE
  refine c_fin ?_
  refine c_cond hE rfl ?_ ?_
  · intro hb1
    have hF := ite_t hF hb1
    refine c_region ?_
    refine s_assign hE goes_none (by decide) rfl ?_; intro a hE
    refine c_fin ?_
    have hr := Option.some.inj hF
    subst hr
    exact wp_ret (r_then (k_ret1 hE rfl (res_tmp hE rfl) ⟨_, rfl, rfl, hM.kept⟩))
  · intro hb1
    have hF := ite_f hF hb1
    refine wp_skip ?_
    refine c_nx ?_
    refine wp_seq ?_
    refine c_region ?_
    refine s_assign hE goes_none (by decide) rfl ?_; intro a hE
    refine c_fin ?_
    obtain ⟨j2, hl3, hF4⟩ := bind_some hF
    refine c_cut (fun a w => ∃ s5 : Unit, j2 = Fl.nx s5 ∧ Env 26 a [] ∧ M (Old w0) w0 w []) ?_ ?_
    · skip
      refine wp_block ?_
      refine c_loop (fun (s6 : Int) a w => Env 26 a [(0, v0_1), (1, v1_1), (5, (vI s6))] ∧ M (Old w0) w0 w []) hl3 ⟨hE.sub ⟨rfl, rfl, rfl, trivial⟩, hM⟩ ?_
      rintro s6 a w ⟨hE, hM⟩ o9 hs7 hx8
      unfold L0_spec_l01Alike at hs7
      refine wp_seq ?_
      refine c_region ?_
      refine s_move hE goes_none (by decide) rfl ?_; intro a hE
      refine s_move hE goes_none (by decide) rfl ?_; intro a hE
      refine s_len hE goes_none (by decide) rfl Try.underlying24 (hM.rd hv0_1) ?_; intro a hE
      refine s_int hE goes_none (by decide) rfl rfl rfl ?_; intro a hE
      refine c_fin ?_
      refine c_cond hE rfl ?_ ?_
      · intro hb10
        have hs7 := ite_t hs7 hb10
        refine wp_skip ?_
        refine c_nx ?_
        refine wp_seq ?_
        refine wp_block ?_
        obtain ⟨j11, hl12, hF13⟩ := bind_some hs7
        refine c_join (fun a w => Env 26 a [(0, v0_1), (1, v1_1), (5, (vI s6)), (25, (vT j11))] ∧ M (Old w0) w0 w []) ?_ ?_
        · skip
          obtain ⟨x15, e16, hl12⟩ := bind_some hl12
          have hi17 := idx_some e16
          obtain ⟨x18, e19, hl12⟩ := bind_some hl12
          have hi20 := idx_some e19
          refine c_draw (n := 26) (hd := [_, _, _, _, _, _, _, _, _]) (tl := []) hmix rfl rfl [17, 18, 19, 20, 21, 22, 23, 24, 25] (by decide) (fun w => M (Old w0) w0 w []) (fun j => ([fun v _ => v = v0_1, fun v _ => v = (vI s6), fun v _ => v = (ptr (sb v0_1) (so v0_1 + (s6).toNat * 1)), fun v _ => v = (vB x15), fun v _ => v = v1_1, fun v _ => v = (vI s6), fun v _ => v = (ptr (sb v1_1) (so v1_1 + (s6).toNat * 1)), fun v _ => v = (vB x18), fun v _ => v = (vT (x15 != x18))] : List (Value → World → Prop)).getD j (fun _ _ => True)) (fun _ _ h hk => h.keep hk) (gup (gupE (gupE (gupE (gupE (gupE (gupE (gupE (gupE (gupE gupN)))))))))) hE hM.drew (steps_of (steps_cons ?_ (steps_cons ?_ (steps_cons ?_ (steps_cons ?_ (steps_cons ?_ (steps_cons ?_ (steps_cons ?_ (steps_cons ?_ (steps_cons ?_ steps_nil)))))))))) ?_
          · intro a w ux14 hE hM hp
            refine s_move hE goes_none (by decide) rfl ?_; intro a hE
            exact ⟨Kept.refl _ _, _, _, rfl, hE, rfl⟩
          · intro a w ux14 hE hM hp
            refine s_move hE goes_none (by decide) rfl ?_; intro a hE
            exact ⟨Kept.refl _ _, _, _, rfl, hE, rfl⟩
          · intro a w ux14 hE hM hp
            have f0 : ux14 0 = v0_1 := hp 0 _ rfl rfl
            have f1 : ux14 1 = (vI s6) := hp 1 _ rfl rfl
            refine s_indexS hE goes_none (by decide) (lk rfl f0) (lk rfl f1) Try.underlying24 ty5 (hM.rd hv0_1) hi17.1 ?_; intro a hE
            exact ⟨Kept.refl _ _, _, _, rfl, hE, rfl⟩
          · intro a w ux14 hE hM hp
            have f2 : ux14 2 = (ptr (sb v0_1) (so v0_1 + (s6).toNat * 1)) := hp 0 _ rfl rfl
            refine s_load (v := (vB x15)) hE goes_none (by decide) (lk rfl f2) ty5 rfl (sl_atF (hM.rd hv0_1) hi17.2) ?_; intro a hE
            exact ⟨Kept.refl _ _, _, _, rfl, hE, rfl⟩
          · intro a w ux14 hE hM hp
            refine s_move hE goes_none (by decide) rfl ?_; intro a hE
            exact ⟨Kept.refl _ _, _, _, rfl, hE, rfl⟩
          · intro a w ux14 hE hM hp
            refine s_move hE goes_none (by decide) rfl ?_; intro a hE
            exact ⟨Kept.refl _ _, _, _, rfl, hE, rfl⟩
          · intro a w ux14 hE hM hp
            have f4 : ux14 4 = v1_1 := hp 0 _ rfl rfl
            have f5 : ux14 5 = (vI s6) := hp 1 _ rfl rfl
            refine s_indexS hE goes_none (by decide) (lk rfl f4) (lk rfl f5) Try.underlying24 ty5 (hM.rd hv1_1) hi20.1 ?_; intro a hE
            exact ⟨Kept.refl _ _, _, _, rfl, hE, rfl⟩
          · intro a w ux14 hE hM hp
            have f6 : ux14 6 = (ptr (sb v1_1) (so v1_1 + (s6).toNat * 1)) := hp 0 _ rfl rfl
            refine s_load (v := (vB x18)) hE goes_none (by decide) (lk rfl f6) ty5 rfl (sl_atF (hM.rd hv1_1) hi20.2) ?_; intro a hE
            exact ⟨Kept.refl _ _, _, _, rfl, hE, rfl⟩
          · intro a w ux14 hE hM hp
            have f3 : ux14 3 = (vB x15) := hp 0 _ rfl rfl
            have f7 : ux14 7 = (vB x18) := hp 1 _ rfl rfl
            refine s_int hE goes_none (by decide) (lk rfl f3) (lk rfl f7) (bB_neq x15 x18) ?_; intro a hE
            exact ⟨Kept.refl _ _, _, _, rfl, hE, rfl⟩
          · intro a w ux14 hE hM hg
            have f0 : ux14 0 = v0_1 := hg 0 (by decide)
            have f1 : ux14 1 = (vI s6) := hg 1 (by decide)
            have f2 : ux14 2 = (ptr (sb v0_1) (so v0_1 + (s6).toNat * 1)) := hg 2 (by decide)
            have f3 : ux14 3 = (vB x15) := hg 3 (by decide)
            have f4 : ux14 4 = v1_1 := hg 4 (by decide)
            have f5 : ux14 5 = (vI s6) := hg 5 (by decide)
            have f6 : ux14 6 = (ptr (sb v1_1) (so v1_1 + (s6).toNat * 1)) := hg 6 (by decide)
            have f7 : ux14 7 = (vB x18) := hg 7 (by decide)
            have f8 : ux14 8 = (vT (x15 != x18)) := hg 8 (by decide)
            have hE := hE.sub (e' := [(17, v0_1), (18, (vI s6)), (19, (ptr (sb v0_1) (so v0_1 + (s6).toNat * 1))), (20, (vB x15)), (21, v1_1), (22, (vI s6)), (23, (ptr (sb v1_1) (so v1_1 + (s6).toNat * 1))), (24, (vB x18)), (25, (vT (x15 != x18))), (0, v0_1), (1, v1_1), (5, (vI s6)), (11, (vI s6)), (12, v0_1), (13, (vI (p0.length : Int))), (14, (vT (decide (s6 < (p0.length : Int)))))]) ⟨lk rfl f0, lk rfl f1, lk rfl f2, lk rfl f3, lk rfl f4, lk rfl f5, lk rfl f6, lk rfl f7, lk rfl f8, rfl, rfl, rfl, rfl, rfl, rfl, rfl, trivial⟩
            refine c_fin0 ?_
            have ht21 := Option.some.inj hl12
            subst ht21
            refine c_mid ?_
            exact ⟨hE.sub ⟨rfl, rfl, rfl, rfl, trivial⟩, hM⟩
        · skip
          rintro a w ⟨hE, hM⟩
          refine c_cond hE rfl ?_ ?_
          · intro hb22
            have hF13 := ite_t hF13 hb22
            refine c_region ?_
            refine s_assign hE goes_none (by decide) rfl ?_; intro a hE
            refine c_fin ?_
            have ht23 := hx8 _ (Option.some.inj hF13).symm
            subst ht23
            have hr := Option.some.inj hF4
            subst hr
            exact wp_ret (r_inb (r_then (r_then (r_inb (r_then (r_then (k_ret1 hE rfl (res_tmp hE rfl) ⟨_, rfl, rfl, hM.kept⟩)))))))
          · intro hb22
            have hF13 := ite_f hF13 hb22
            refine wp_skip ?_
            refine c_nb ?_
            refine c_nx ?_
            refine wp_region_lit ?_
            refine s_move hE goes_none (by decide) rfl ?_; intro a hE
            refine s_int hE goes_none (by decide) rfl rfl rfl ?_; intro a hE
            refine s_assign hE goes_none (by decide) rfl ?_; intro a hE
            refine c_fin0 ?_
            refine c_mid ?_
            exact ⟨_, (Option.some.inj hF13).symm, hE.sub ⟨rfl, rfl, rfl, trivial⟩, hM⟩
      · intro hb10
        have hs7 := ite_f hs7 hb10
        refine wp_exit (e_then (e_then (e_eq ?_)))
        have ht24 := hx8 _ (Option.some.inj hs7).symm
        subst ht24
        refine c_mid ?_
        exact ⟨(), rfl, hE.sub trivial, hM⟩
    · skip
      rintro a w ⟨s5, ht, hE, hM⟩
      subst ht
      have hF4 := el_nx hF4
      refine c_nx ?_
      refine c_region ?_
      refine s_assign hE goes_none (by decide) rfl ?_; intro a hE
      refine c_fin ?_
      have hr := Option.some.inj hF4
      subst hr
      exact wp_ret (k_ret1 hE rfl (res_tmp hE rfl) ⟨_, rfl, rfl, hM.kept⟩)
noncomputable def L0_spec_l10Fit (p0 : Int) (p1 : (List GShare)) (p2 : Int) (s5 : Int) : Option (Fl Int (Fl Unit Bool)) :=
  if (decide (s5 < (p1.length : Int))) = true then (((slc p1 (0 : Int) p2).bind fun (l14 : (List GShare)) => (idx p1 s5).bind fun (x17 : GShare) => (F_spec_l10At p0 l14 x17.Place).bind fun (r25 : (List UInt8)) => (idx p1 s5).bind fun (x28 : GShare) => (F_spec_l01Alike r25 x28.Data).bind fun (r36 : Bool) => some (!r36) : Option (Bool)).bind fun (j10 : Bool) => if j10 = true then (some (Fl.ex (Fl.ex false))) else (some (Fl.nx (wr (s5 + 1))))) else (some (Fl.ex (Fl.nx ())))
noncomputable def F_spec_l10Fit (p0 : Int) (p1 : (List GShare)) (p2 : Int) : Option (Bool) :=
  (iter (L0_spec_l10Fit p0 p1 p2) p2 : Option (Fl Unit Bool)).bind fun (j1 : Fl Unit Bool) => j1.el (fun (s4 : Unit) => some true) (fun r => some r)
set_option maxRecDepth 20000 in
set_option maxHeartbeats 400000 in
theorem c_spec_l10Fit (w0 : World) (p0 : Int) (p1 : (List GShare)) (v1_1 : Value) (hv1_1 : Ro w0 p1 [v1_1]) (p2 : Int) (r : Bool) (hF : F_spec_l10Fit p0 p1 p2 = some r) :
    Calls Try.prog 129 [(vI p0), v1_1, (vI p2)].toArray w0 (fun en w' => ∃ v, en = .returned v ∧ (v = (vT r) ∧ Kept (Old w0) w0 w')) := by
  refine c_enter (n := 32) Try.func129 rfl rfl (Nat.le_of_ble_eq_true rfl) rfl ?_
  intro a hE
  have hM := M.start w0
  unfold F_spec_l10Fit at hF
  refine c_region ?_
  refine s_assign hE goes_none (by decide) rfl ?_; intro a hE
  refine c_fin ?_
  refine wp_seq ?_
  refine c_region ?_
  refine s_move hE goes_none (by decide) rfl ?_; intro a hE
  refine s_assign hE goes_none (by decide) rfl ?_; intro a hE
  refine c_fin ?_
  obtain ⟨j1, hl2, hF3⟩ := bind_some hF
  refine c_cut (fun a w => ∃ s4 : Unit, j1 = Fl.nx s4 ∧ Env 32 a [] ∧ M (Old w0) w0 w []) ?_ ?_
  · skip
    refine wp_block ?_
    refine c_loop (fun (s5 : Int) a w => Env 32 a [(0, (vI p0)), (1, v1_1), (2, (vI p2)), (7, (vI s5))] ∧ M (Old w0) w0 w []) hl2 ⟨hE.sub ⟨rfl, rfl, rfl, rfl, trivial⟩, hM⟩ ?_
    rintro s5 a w ⟨hE, hM⟩ o8 hs6 hx7
    unfold L0_spec_l10Fit at hs6
    refine wp_seq ?_
    refine c_region ?_
    refine s_move hE goes_none (by decide) rfl ?_; intro a hE
    refine s_move hE goes_none (by decide) rfl ?_; intro a hE
    refine s_len hE goes_none (by decide) rfl Try.underlying29 (hM.rd hv1_1) ?_; intro a hE
    refine s_int hE goes_none (by decide) rfl rfl rfl ?_; intro a hE
    refine c_fin ?_
    refine c_cond hE rfl ?_ ?_
    · intro hb9
      have hs6 := ite_t hs6 hb9
      refine wp_skip ?_
      refine c_nx ?_
      refine wp_seq ?_
      refine wp_block ?_
      obtain ⟨j10, hl11, hF12⟩ := bind_some hs6
      refine c_join (fun a w => Env 32 a [(0, (vI p0)), (1, v1_1), (2, (vI p2)), (7, (vI s5)), (31, (vT j10))] ∧ M (Old w0) w0 w []) ?_ ?_
      · skip
        obtain ⟨l14, e15, hl11⟩ := bind_some hl11
        have h16 : Rep.sat (Old w0) w0 l14 [(sliceV v1_1 ((0 : Int)).toNat (p2).toNat 2)] [] := ro_slice hv1_1 e15 -- ^
        obtain ⟨x17, e18, hl11⟩ := bind_some hl11
        have hi19 := idx_some e18
        obtain ⟨cs20, hs21, hA22⟩ := sl_atRo hv1_1 hi19.2 -- ^
        obtain ⟨u23, rfl, h24⟩ := un_GShare hs21 -- ^
        obtain ⟨r25, e26, hl11⟩ := bind_some hl11
        obtain ⟨x28, e29, hl11⟩ := bind_some hl11
        have hi30 := idx_some e29
        obtain ⟨cs31, hs32, hA33⟩ := sl_atRo hv1_1 hi30.2 -- ^
        obtain ⟨u34, rfl, h35⟩ := un_GShare hs32 -- ^
        refine c_draw2 (n := 32) (hd := [_, _, _, _, _, _, _, _, _, _, _, _, _, _, _]) (tl := [_, _]) (its := []) hmix rfl rfl [15, 16, 17, 18, 19, 20, 21, 22, 23, 24, 25, 26, 27, 28, 29] (by decide) [(9, fun v => osl NoB (r25 : List UInt8) v)] rfl (fun j => ([fun v => v = (vI p0), fun v => v = v1_1, fun v => v = (vI p2), fun v => v = (sliceV v1_1 ((0 : Int)).toNat (p2).toNat 2), fun v => v = v1_1, fun v => v = (vI s5), fun v => v = (ptr (sb v1_1) (so v1_1 + (s5).toNat * 2)), fun v => v = (ptr (sb v1_1) (so v1_1 + (s5).toNat * 2 + 0)), fun v => v = (vB x17.Place), fun v => True, fun v => v = v1_1, fun v => v = (vI s5), fun v => v = (ptr (sb v1_1) (so v1_1 + (s5).toNat * 2)), fun v => v = (ptr (sb v1_1) (so v1_1 + (s5).toNat * 2 + 1)), fun v => v = u34] : List (Value → Prop)).getD j (fun _ => True)) hE hM.drew (steps_of (steps_cons ?_ (steps_cons ?_ (steps_cons ?_ (steps_cons ?_ (steps_cons ?_ (steps_cons ?_ (steps_cons ?_ (steps_cons ?_ (steps_cons ?_ (steps_cons ?_ (steps_cons ?_ (steps_cons ?_ (steps_cons ?_ (steps_cons ?_ (steps_cons ?_ steps_nil)))))))))))))))) ?_
        · intro a w ux13 D hE hM hD hp
          have hM0 := hM
          refine s_move hE goes_none (by decide) rfl ?_; intro a hE
          exact ⟨_, _, rfl, hE, rfl, hM0.optKeep rfl⟩
        · intro a w ux13 D hE hM hD hp
          have hM0 := hM
          refine s_move hE goes_none (by decide) rfl ?_; intro a hE
          exact ⟨_, _, rfl, hE, rfl, hM0.optKeep rfl⟩
        · intro a w ux13 D hE hM hD hp
          have hM0 := hM
          refine s_move hE goes_none (by decide) rfl ?_; intro a hE
          exact ⟨_, _, rfl, hE, rfl, hM0.optKeep rfl⟩
        · intro a w ux13 D hE hM hD hp
          have f1 : ux13 1 = v1_1 := (hp 0 _ rfl rfl).2
          have f2 : ux13 2 = (vI p2) := (hp 1 _ rfl rfl).2
          have hM0 := hM
          have hM : M (Old w0) w0 w [opt (D 9) (osl NoB (r25 : List UInt8) (ux13 9))] := hM
          refine s_slice hE goes_none (by decide) (lk rfl f1) rfl (opvo_some (lk rfl f2)) rfl rfl Try.underlying29 ty26 (hM.rd hv1_1) e15 ?_; intro a hE
          exact ⟨_, _, rfl, hE, rfl, hM0.optKeep rfl⟩
        · intro a w ux13 D hE hM hD hp
          have hM0 := hM
          refine s_move hE goes_none (by decide) rfl ?_; intro a hE
          exact ⟨_, _, rfl, hE, rfl, hM0.optKeep rfl⟩
        · intro a w ux13 D hE hM hD hp
          have hM0 := hM
          refine s_move hE goes_none (by decide) rfl ?_; intro a hE
          exact ⟨_, _, rfl, hE, rfl, hM0.optKeep rfl⟩
        · intro a w ux13 D hE hM hD hp
          have f4 : ux13 4 = v1_1 := (hp 0 _ rfl rfl).2
          have f5 : ux13 5 = (vI s5) := (hp 1 _ rfl rfl).2
          have hM0 := hM
          have hM : M (Old w0) w0 w [opt (D 9) (osl NoB (r25 : List UInt8) (ux13 9))] := hM
          refine s_indexS hE goes_none (by decide) (lk rfl f4) (lk rfl f5) Try.underlying29 ty26 (hM.rd hv1_1) hi19.1 ?_; intro a hE
          exact ⟨_, _, rfl, hE, rfl, hM0.optKeep rfl⟩
        · intro a w ux13 D hE hM hD hp
          have f6 : ux13 6 = (ptr (sb v1_1) (so v1_1 + (s5).toNat * 2)) := (hp 0 _ rfl rfl).2
          have hM0 := hM
          refine s_fieldAddr hE goes_none (by decide) (lk rfl f6) (fd26_0) ?_; intro a hE
          exact ⟨_, _, rfl, hE, rfl, hM0.optKeep rfl⟩
        · intro a w ux13 D hE hM hD hp
          have f7 : ux13 7 = (ptr (sb v1_1) (so v1_1 + (s5).toNat * 2 + 0)) := (hp 0 _ rfl rfl).2
          have hM0 := hM
          have hM : M (Old w0) w0 w [opt (D 9) (osl NoB (r25 : List UInt8) (ux13 9))] := hM
          refine s_load (v := (vB x17.Place)) hE goes_none (by decide) (lk rfl f7) ty5 rfl (At.cat (pre := []) (seg := [(vB x17.Place)]) (post := [[u23]]) (hM.atk hA22 (sl_blk hv1_1 hi19.2)) cl0) ?_; intro a hE
          exact ⟨_, _, rfl, hE, rfl, hM0.optKeep rfl⟩
        · intro a w ux13 D hE hM hD hp
          have f0 : ux13 0 = (vI p0) := (hp 0 _ rfl rfl).2
          have f3 : ux13 3 = (sliceV v1_1 ((0 : Int)).toNat (p2).toNat 2) := (hp 1 _ rfl rfl).2
          have f8 : ux13 8 = (vB x17.Place) := (hp 2 _ rfl rfl).2
          have hM0 := hM
          have hM : M (Old w0) w0 w [opt (D 9) (osl NoB (r25 : List UInt8) (ux13 9))] := hM
          refine s_call (vs := [(vI p0), (sliceV v1_1 ((0 : Int)).toNat (p2).toNat 2), (vB x17.Place)]) hE goes_none (by decide) (evs_of (evsC (lk rfl f0) (evsC (lk rfl f3) (evsC (lk rfl f8) evsN)))) cb68 (c_spec_l10At _ p0 l14 (sliceV v1_1 ((0 : Int)).toNat (p2).toNat 2) (hM.rdo h16) x17.Place r25 e26) ?_
          rintro _ w a ⟨_, rfl, hFr, hK⟩ hE
          have hM := hM0.add hK hFr
          exact ⟨_, _, rfl, hE, trivial, M.optFill (mk1 := []) (mk2 := []) (f := (fun v => osl NoB (r25 : List UInt8) v)) hM rfl hD⟩
        · intro a w ux13 D hE hM hD hp
          have hM0 := hM
          refine s_move hE goes_none (by decide) rfl ?_; intro a hE
          exact ⟨_, _, rfl, hE, rfl, hM0.optKeep rfl⟩
        · intro a w ux13 D hE hM hD hp
          have hM0 := hM
          refine s_move hE goes_none (by decide) rfl ?_; intro a hE
          exact ⟨_, _, rfl, hE, rfl, hM0.optKeep rfl⟩
        · intro a w ux13 D hE hM hD hp
          have f10 : ux13 10 = v1_1 := (hp 0 _ rfl rfl).2
          have f11 : ux13 11 = (vI s5) := (hp 1 _ rfl rfl).2
          have hM0 := hM
          have hM : M (Old w0) w0 w [opt (D 9) (osl NoB (r25 : List UInt8) (ux13 9))] := hM
          refine s_indexS hE goes_none (by decide) (lk rfl f10) (lk rfl f11) Try.underlying29 ty26 (hM.rd hv1_1) hi30.1 ?_; intro a hE
          exact ⟨_, _, rfl, hE, rfl, hM0.optKeep rfl⟩
        · intro a w ux13 D hE hM hD hp
          have f12 : ux13 12 = (ptr (sb v1_1) (so v1_1 + (s5).toNat * 2)) := (hp 0 _ rfl rfl).2
          have hM0 := hM
          refine s_fieldAddr hE goes_none (by decide) (lk rfl f12) (fd26_1) ?_; intro a hE
          exact ⟨_, _, rfl, hE, rfl, hM0.optKeep rfl⟩
        · intro a w ux13 D hE hM hD hp
          have f13 : ux13 13 = (ptr (sb v1_1) (so v1_1 + (s5).toNat * 2 + 1)) := (hp 0 _ rfl rfl).2
          have hM0 := hM
          have hM : M (Old w0) w0 w [opt (D 9) (osl NoB (r25 : List UInt8) (ux13 9))] := hM
          refine s_load (v := u34) hE goes_none (by decide) (lk rfl f13) ty24 rfl (At.cat (pre := [[(vB x28.Place)]]) (seg := [u34]) (post := []) (hM.atk hA33 (sl_blk hv1_1 hi30.2)) (cl1 (n := 1) (m := 0) rfl cl0)) ?_; intro a hE
          exact ⟨_, _, rfl, hE, rfl, hM0.optKeep rfl⟩
        · intro a w ux13 hE hM hg
          have f0 : ux13 0 = (vI p0) := hg 0 (by decide)
          have f1 : ux13 1 = v1_1 := hg 1 (by decide)
          have f2 : ux13 2 = (vI p2) := hg 2 (by decide)
          have f3 : ux13 3 = (sliceV v1_1 ((0 : Int)).toNat (p2).toNat 2) := hg 3 (by decide)
          have f4 : ux13 4 = v1_1 := hg 4 (by decide)
          have f5 : ux13 5 = (vI s5) := hg 5 (by decide)
          have f6 : ux13 6 = (ptr (sb v1_1) (so v1_1 + (s5).toNat * 2)) := hg 6 (by decide)
          have f7 : ux13 7 = (ptr (sb v1_1) (so v1_1 + (s5).toNat * 2 + 0)) := hg 7 (by decide)
          have f8 : ux13 8 = (vB x17.Place) := hg 8 (by decide)
          have f10 : ux13 10 = v1_1 := hg 10 (by decide)
          have f11 : ux13 11 = (vI s5) := hg 11 (by decide)
          have f12 : ux13 12 = (ptr (sb v1_1) (so v1_1 + (s5).toNat * 2)) := hg 12 (by decide)
          have f13 : ux13 13 = (ptr (sb v1_1) (so v1_1 + (s5).toNat * 2 + 1)) := hg 13 (by decide)
          have f14 : ux13 14 = u34 := hg 14 (by decide)
          have hM : M (Old w0) w0 w [osl NoB (r25 : List UInt8) (ux13 9)] := hM
          have hE := hE.sub (e' := [(15, (vI p0)), (16, v1_1), (17, (vI p2)), (18, (sliceV v1_1 ((0 : Int)).toNat (p2).toNat 2)), (19, v1_1), (20, (vI s5)), (21, (ptr (sb v1_1) (so v1_1 + (s5).toNat * 2))), (22, (ptr (sb v1_1) (so v1_1 + (s5).toNat * 2 + 0))), (23, (vB x17.Place)), (24, (ux13 9)), (25, v1_1), (26, (vI s5)), (27, (ptr (sb v1_1) (so v1_1 + (s5).toNat * 2))), (28, (ptr (sb v1_1) (so v1_1 + (s5).toNat * 2 + 1))), (29, u34), (0, (vI p0)), (1, v1_1), (2, (vI p2)), (7, (vI s5)), (9, (vI s5)), (10, v1_1), (11, (vI (p1.length : Int))), (12, (vT (decide (s5 < (p1.length : Int)))))]) ⟨lk rfl f0, lk rfl f1, lk rfl f2, lk rfl f3, lk rfl f4, lk rfl f5, lk rfl f6, lk rfl f7, lk rfl f8, rfl, lk rfl f10, lk rfl f11, lk rfl f12, lk rfl f13, lk rfl f14, rfl, rfl, rfl, rfl, rfl, rfl, rfl, rfl, trivial⟩
          obtain ⟨r36, e37, hl11⟩ := bind_some hl11
          refine s_call (vs := [(ux13 9), u34]) hE goes_none (by decide) rfl cb182 (c_spec_l01Alike _ r25 (ux13 9) (hM.sl (pre := []) noB) x28.Data u34 (hM.rdo h35) r36 e37) ?_
          rintro v w a ⟨rfl, hK⟩ hE
          have hM := hM.keep hK
          refine s_not hE goes_none (by decide) rfl ?_; intro a hE
          refine c_fin0 ?_
          have ht38 := Option.some.inj hl11
          subst ht38
          refine c_mid ?_
          have hM := M.fst (l := []) hM
          exact ⟨hE.sub ⟨rfl, rfl, rfl, rfl, rfl, trivial⟩, hM⟩
      · skip
        rintro a w ⟨hE, hM⟩
        refine c_cond hE rfl ?_ ?_
        · intro hb39
          have hF12 := ite_t hF12 hb39
          refine c_region ?_
          refine s_assign hE goes_none (by decide) rfl ?_; intro a hE
          refine c_fin ?_
          have ht40 := hx7 _ (Option.some.inj hF12).symm
          subst ht40
          have hr := Option.some.inj hF3
          subst hr
          exact wp_ret (r_inb (r_then (r_then (r_inb (r_then (r_then (k_ret1 hE rfl (res_tmp hE rfl) ⟨_, rfl, rfl, hM.kept⟩)))))))
        · intro hb39
          have hF12 := ite_f hF12 hb39
          refine wp_skip ?_
          refine c_nb ?_
          refine c_nx ?_
          refine wp_region_lit ?_
          refine s_move hE goes_none (by decide) rfl ?_; intro a hE
          refine s_int hE goes_none (by decide) rfl rfl rfl ?_; intro a hE
          refine s_assign hE goes_none (by decide) rfl ?_; intro a hE
          refine c_fin0 ?_
          refine c_mid ?_
          exact ⟨_, (Option.some.inj hF12).symm, hE.sub ⟨rfl, rfl, rfl, rfl, trivial⟩, hM⟩
    · intro hb9
      have hs6 := ite_f hs6 hb9
      refine wp_exit (e_then (e_then (e_eq ?_)))
      have ht41 := hx7 _ (Option.some.inj hs6).symm
      subst ht41
      refine c_mid ?_
      exact ⟨(), rfl, hE.sub trivial, hM⟩
  · skip
    rintro a w ⟨s4, ht, hE, hM⟩
    subst ht
    have hF3 := el_nx hF3
    refine c_nx ?_
    refine c_region ?_
    refine s_assign hE goes_none (by decide) rfl ?_; intro a hE
    refine c_fin ?_
    have hr := Option.some.inj hF3
    subst hr
    exact wp_ret (k_ret1 hE rfl (res_tmp hE rfl) ⟨_, rfl, rfl, hM.kept⟩)
noncomputable def L0_spec_l10Faulty (p0 : Int) (p1 : (List GShare)) (p2 : Int) (s4 : Int × Int × Int) : Option (Fl (Int × Int × Int) (Int × Int)) :=
  (nonneg (IntKind.u64.wrap (p1.length : Int))).bind fun _ => if (decide (s4.2.1 < (shlI 1 (IntKind.u64.wrap (p1.length : Int))))) = true then (((F_spec_l03Ones s4.2.1).bind fun (r13 : Int) => (if (decide (r13 < s4.1)) = true then (some true) else (if (r13 == s4.1) = true then ((F_spec_l10Less s4.2.1 s4.2.2).bind fun (r21 : Bool) => some (!r21)) else (some false)) : Option (Bool)).bind fun (j15 : Bool) => if j15 = true then (some (s4.1, s4.2.2)) else (if (decide (r13 < (wr (p2 + 1)))) = true then (some (r13, s4.2.1)) else ((F_spec_l10Some p1 s4.2.1).bind fun (r29 : (List GShare) × (List Int)) => (F_spec_l10Fit p0 r29.1 p2).bind fun (r34 : Bool) => (if r34 = true then (some (r13, s4.2.1)) else (some (s4.1, s4.2.2)) : Option (Int × Int)).bind fun (j36 : Int × Int) => some (j36.1, j36.2))) : Option (Int × Int)).bind fun (j10 : Int × Int) => some (Fl.nx (j10.1, wr (s4.2.1 + 1), j10.2))) else (some (Fl.ex (s4.1, s4.2.2)))
noncomputable def F_spec_l10Faulty (p0 : Int) (p1 : (List GShare)) (p2 : Int) : Option ((List Int) × Bool) :=
  (iter (L0_spec_l10Faulty p0 p1 p2) (0, 1, 0) : Option (Int × Int)).bind fun (j1 : Int × Int) => (F_spec_l10Some p1 j1.2).bind fun (r44 : (List GShare) × (List Int)) => (if (decide (j1.1 > p2)) = true then (some (r44.2, decide ((p1.length : Int) ≥ (wr (p2 + (wr (2 * (r44.2.length : Int)))))))) else (some (r44.2, false)) : Option ((List Int) × Bool)).bind fun (j49 : (List Int) × Bool) => some (j49.1, j49.2)
set_option maxRecDepth 20000 in
set_option maxHeartbeats 400000 in
theorem c_spec_l10Faulty (w0 : World) (p0 : Int) (p1 : (List GShare)) (v1_1 : Value) (hv1_1 : Ro w0 p1 [v1_1]) (p2 : Int) (r : (List Int) × Bool) (hF : F_spec_l10Faulty p0 p1 p2 = some r) :
    Calls Try.prog 117 [(vI p0), v1_1, (vI p2)].toArray w0 (fun en w' => ∃ v, en = .returned v ∧ (∃ (y1 : Value), v = (Value.tuple [y1, (vT r.2)].toArray) ∧ Fr w0 w' [osl NoB (r.1 : List Int) y1] ∧ Kept (Old w0) w0 w')) := by
  refine c_enter (n := 79) Try.func117 rfl rfl (Nat.le_of_ble_eq_true rfl) rfl ?_
  intro a hE
  have hM := M.start w0
  unfold F_spec_l10Faulty at hF
  refine c_region ?_
  refine s_assign hE goes_none (by decide) rfl ?_; intro a hE
  refine s_assign hE goes_none (by decide) rfl ?_; intro a hE
  refine c_fin ?_
  refine c_region ?_
  refine s_move hE goes_none (by decide) rfl ?_; intro a hE
  refine s_len hE goes_none (by decide) rfl Try.underlying29 (hM.rd hv1_1) ?_; intro a hE
  refine s_assign hE goes_none (by decide) rfl ?_; intro a hE
  refine s_assign hE goes_none (by decide) rfl ?_; intro a hE
  refine s_assign hE goes_none (by decide) rfl ?_; intro a hE
  refine c_fin ?_
  refine wp_seq ?_
  refine c_region ?_
  refine s_assign hE goes_none (by decide) rfl ?_; intro a hE
  refine c_fin ?_
  obtain ⟨j1, hl2, hF3⟩ := bind_some hF
  refine c_cut (fun a w => Env 79 a [(1, v1_1), (2, (vI p2)), (8, (vI (p1.length : Int))), (9, (vI j1.2)), (10, (vI j1.1))] ∧ M (Old w0) w0 w []) ?_ ?_
  · skip
    refine wp_block ?_
    refine c_loop (fun (s4 : Int × Int × Int) a w => Env 79 a [(0, (vI p0)), (1, v1_1), (2, (vI p2)), (8, (vI (p1.length : Int))), (9, (vI s4.2.2)), (10, (vI s4.1)), (11, (vI s4.2.1))] ∧ M (Old w0) w0 w []) hl2 ⟨hE.sub ⟨rfl, rfl, rfl, rfl, rfl, rfl, rfl, trivial⟩, hM⟩ ?_
    rintro s4 a w ⟨hE, hM⟩ o7 hs5 hx6
    unfold L0_spec_l10Faulty at hs5
    refine wp_seq ?_
    refine c_region ?_
    refine s_move hE goes_none (by decide) rfl ?_; intro a hE
    refine s_move hE goes_none (by decide) rfl ?_; intro a hE
    refine s_conv hE goes_none (by decide) rfl Try.underlying2 Try.underlying189 ?_; intro a hE
    obtain ⟨_, e8, hs5⟩ := bind_some hs5
    have e8 := nonneg_some e8
    refine s_sh hE goes_none (by decide) rfl rfl (bI_shl _ _ e8) ?_; intro a hE
    refine s_int hE goes_none (by decide) rfl rfl rfl ?_; intro a hE
    refine c_fin ?_
    refine c_cond hE rfl ?_ ?_
    · intro hb9
      have hs5 := ite_t hs5 hb9
      refine wp_skip ?_
      refine c_nx ?_
      obtain ⟨j10, hl11, hF12⟩ := bind_some hs5
      refine c_join (fun a w => Env 79 a [(0, (vI p0)), (1, v1_1), (2, (vI p2)), (8, (vI (p1.length : Int))), (9, (vI j10.2)), (10, (vI j10.1)), (11, (vI s4.2.1))] ∧ M (Old w0) w0 w []) ?_ ?_
      · skip
        refine wp_block ?_
        refine c_region ?_
        refine s_move hE goes_none (by decide) rfl ?_; intro a hE
        obtain ⟨r13, e14, hl11⟩ := bind_some hl11
        refine s_call (vs := [(vI s4.2.1)]) hE goes_none (by decide) rfl cb169 (c_spec_l03Ones _ s4.2.1 r13 e14) ?_
        rintro v w a ⟨rfl, hK⟩ hE
        have hM := hM.keep hK
        refine s_assign hE goes_none (by decide) rfl ?_; intro a hE
        refine c_fin ?_
        refine wp_seq ?_
        obtain ⟨j15, hl16, hF17⟩ := bind_some hl11
        refine c_join (fun a w => Env 79 a [(0, (vI p0)), (1, v1_1), (2, (vI p2)), (8, (vI (p1.length : Int))), (9, (vI s4.2.2)), (10, (vI s4.1)), (11, (vI s4.2.1)), (12, (vI r13)), (41, (vT j15))] ∧ M (Old w0) w0 w []) ?_ ?_
        · skip
          refine wp_region_lit ?_
          refine s_move hE goes_none (by decide) rfl ?_; intro a hE
          refine s_move hE goes_none (by decide) rfl ?_; intro a hE
          refine s_int hE goes_none (by decide) rfl rfl rfl ?_; intro a hE
          refine s_move hE goes_none (by decide) rfl ?_; intro a hE
          refine splitB (decide (r13 < s4.1)) (fun hb18 => ?_) (fun hb18 => ?_)
          · have hl16 := ite_t hl16 hb18
            refine s_skip hE rfl (lkb rfl hb18) rfl (by decide) ?_; intro a hE
            refine s_skip hE rfl (lkb rfl hb18) rfl (by decide) ?_; intro a hE
            refine s_skip hE rfl (lkb rfl hb18) rfl (by decide) ?_; intro a hE
            refine s_skip hE rfl (lkb rfl hb18) rfl (by decide) ?_; intro a hE
            refine s_skipU hE rfl rfl (by decide) ?_; intro a hE
            refine s_skipU hE rfl rfl (by decide) ?_; intro a hE
            refine s_skipU hE rfl rfl (by decide) ?_; intro a hE
            refine s_skipU hE rfl rfl (by decide) ?_; intro a hE
            refine s_skip hE rfl (lkb rfl hb18) rfl (by decide) ?_; intro a hE
            refine s_pickT hE goes_none (by decide) (lkb rfl hb18) rfl ?_; intro a hE
            refine c_fin0 ?_
            have ht19 := Option.some.inj hl16
            subst ht19
            refine c_mid ?_
            exact ⟨hE.sub ⟨rfl, rfl, rfl, rfl, rfl, rfl, rfl, rfl, rfl, trivial⟩, hM⟩
          · have hl16 := ite_f hl16 hb18
            refine s_move hE (goes_yes hE rfl (lkb rfl hb18)) (by decide) rfl ?_; intro a hE
            refine s_move hE (goes_yes hE rfl (lkb rfl hb18)) (by decide) rfl ?_; intro a hE
            refine s_int hE (goes_yes hE rfl (lkb rfl hb18)) (by decide) rfl rfl rfl ?_; intro a hE
            refine s_move hE (goes_yes hE rfl (lkb rfl hb18)) (by decide) rfl ?_; intro a hE
            refine splitB (r13 == s4.1) (fun hb20 => ?_) (fun hb20 => ?_)
            · have hl16 := ite_t hl16 hb20
              refine s_move hE (goes_yes hE rfl (lkb rfl hb20)) (by decide) rfl ?_; intro a hE
              refine s_move hE (goes_yes hE rfl (lkb rfl hb20)) (by decide) rfl ?_; intro a hE
              obtain ⟨r21, e22, hl16⟩ := bind_some hl16
              refine s_call (vs := [(vI s4.2.1), (vI s4.2.2)]) hE (goes_yes hE rfl (lkb rfl hb20)) (by decide) rfl cb170 (c_spec_l10Less _ s4.2.1 s4.2.2 r21 e22) ?_
              rintro v w a ⟨rfl, hK⟩ hE
              have hM := hM.keep hK
              refine s_not hE (goes_yes hE rfl (lkb rfl hb20)) (by decide) rfl ?_; intro a hE
              refine s_pickT hE (goes_yes hE rfl (lkb rfl hb18)) (by decide) (lkb rfl hb20) rfl ?_; intro a hE
              refine s_pickF hE goes_none (by decide) (lkb rfl hb18) rfl ?_; intro a hE
              refine c_fin0 ?_
              have ht23 := Option.some.inj hl16
              subst ht23
              refine c_mid ?_
              exact ⟨hE.sub ⟨rfl, rfl, rfl, rfl, rfl, rfl, rfl, rfl, rfl, trivial⟩, hM⟩
            · have hl16 := ite_f hl16 hb20
              refine s_skip hE rfl (lkb rfl hb20) rfl (by decide) ?_; intro a hE
              refine s_skip hE rfl (lkb rfl hb20) rfl (by decide) ?_; intro a hE
              refine s_skip hE rfl (lkb rfl hb20) rfl (by decide) ?_; intro a hE
              refine s_skip hE rfl (lkb rfl hb20) rfl (by decide) ?_; intro a hE
              refine s_pickF hE (goes_yes hE rfl (lkb rfl hb18)) (by decide) (lkb rfl hb20) rfl ?_; intro a hE
              refine s_pickF hE goes_none (by decide) (lkb rfl hb18) rfl ?_; intro a hE
              refine c_fin0 ?_
              have ht24 := Option.some.inj hl16
              subst ht24
              refine c_mid ?_
              exact ⟨hE.sub ⟨rfl, rfl, rfl, rfl, rfl, rfl, rfl, rfl, rfl, trivial⟩, hM⟩
        · skip
          rintro a w ⟨hE, hM⟩
          refine c_cond hE rfl ?_ ?_
          · intro hb25
            have hF17 := ite_t hF17 hb25
            refine wp_exit (e_then (e_eq ?_))
            have ht26 := Option.some.inj hF17
            subst ht26
            refine c_mid ?_
            exact ⟨hE.sub ⟨rfl, rfl, rfl, rfl, rfl, rfl, rfl, trivial⟩, hM⟩
          · intro hb25
            have hF17 := ite_f hF17 hb25
            refine wp_skip ?_
            refine c_nx ?_
            refine wp_seq ?_
            refine c_region ?_
            refine s_move hE goes_none (by decide) rfl ?_; intro a hE
            refine s_move hE goes_none (by decide) rfl ?_; intro a hE
            refine s_int hE goes_none (by decide) rfl rfl rfl ?_; intro a hE
            refine s_int hE goes_none (by decide) rfl rfl rfl ?_; intro a hE
            refine c_fin ?_
            refine c_cond hE rfl ?_ ?_
            · intro hb27
              have hF17 := ite_t hF17 hb27
              refine c_region ?_
              refine s_move hE goes_none (by decide) rfl ?_; intro a hE
              refine s_assign hE goes_none (by decide) rfl ?_; intro a hE
              refine c_fin ?_
              refine c_region ?_
              refine s_move hE goes_none (by decide) rfl ?_; intro a hE
              refine s_assign hE goes_none (by decide) rfl ?_; intro a hE
              refine c_fin ?_
              refine wp_exit (e_then (e_eq ?_))
              have ht28 := Option.some.inj hF17
              subst ht28
              refine c_mid ?_
              exact ⟨hE.sub ⟨rfl, rfl, rfl, rfl, rfl, rfl, rfl, trivial⟩, hM⟩
            · intro hb27
              have hF17 := ite_f hF17 hb27
              refine wp_skip ?_
              refine c_nx ?_
              refine c_region ?_
              refine s_move hE goes_none (by decide) rfl ?_; intro a hE
              refine s_move hE goes_none (by decide) rfl ?_; intro a hE
              obtain ⟨r29, e30, hF17⟩ := bind_some hF17
              refine s_call (vs := [v1_1, (vI s4.2.1)]) hE goes_none (by decide) rfl cb171 (c_spec_l10Some _ p1 v1_1 (hM.rdo hv1_1) s4.2.1 r29 e30) ?_
              rintro v w a ⟨u31, u32, rfl, hFr, hro33, hK⟩ hE
              have hM := hM.add hK hFr
              refine s_move hE goes_none (by decide) rfl ?_; intro a hE
              refine s_extract hE goes_none (by decide) rfl rfl ?_; intro a hE
              refine s_extract hE goes_none (by decide) rfl rfl ?_; intro a hE
              refine s_assign hE goes_none (by decide) rfl ?_; intro a hE
              refine s_assign hE goes_none (by decide) rfl ?_; intro a hE
              refine c_fin ?_
              refine c_region ?_
              refine s_move hE goes_none (by decide) rfl ?_; intro a hE
              refine s_move hE goes_none (by decide) rfl ?_; intro a hE
              refine s_move hE goes_none (by decide) rfl ?_; intro a hE
              obtain ⟨r34, e35, hF17⟩ := bind_some hF17
              refine s_call (vs := [(vI p0), u31, (vI p2)]) hE goes_none (by decide) rfl cb129 (c_spec_l10Fit _ p0 r29.1 u31 hro33 p2 r34 e35) ?_
              rintro v w a ⟨rfl, hK⟩ hE
              have hM := hM.keep hK
              have hro33 := ro_later hro33 hK
              refine c_fin ?_
              obtain ⟨j36, hl37, hF38⟩ := bind_some hF17
              refine c_cut (fun a w => Env 79 a [(0, (vI p0)), (1, v1_1), (2, (vI p2)), (8, (vI (p1.length : Int))), (9, (vI j36.2)), (10, (vI j36.1)), (11, (vI s4.2.1))] ∧ M (Old w0) w0 w []) ?_ ?_
              · skip
                refine c_cond hE rfl ?_ ?_
                · intro hb39
                  have hl37 := ite_t hl37 hb39
                  refine c_region ?_
                  refine s_move hE goes_none (by decide) rfl ?_; intro a hE
                  refine s_assign hE goes_none (by decide) rfl ?_; intro a hE
                  refine c_fin ?_
                  refine wp_region_lit ?_
                  refine s_move hE goes_none (by decide) rfl ?_; intro a hE
                  refine s_assign hE goes_none (by decide) rfl ?_; intro a hE
                  refine c_fin0 ?_
                  have ht40 := Option.some.inj hl37
                  subst ht40
                  refine c_mid ?_
                  have hM := M.fst (l := []) hM
                  exact ⟨hE.sub ⟨rfl, rfl, rfl, rfl, rfl, rfl, rfl, trivial⟩, hM⟩
                · intro hb39
                  have hl37 := ite_f hl37 hb39
                  refine wp_skip ?_
                  have ht41 := Option.some.inj hl37
                  subst ht41
                  refine c_mid ?_
                  have hM := M.fst (l := []) hM
                  exact ⟨hE.sub ⟨rfl, rfl, rfl, rfl, rfl, rfl, rfl, trivial⟩, hM⟩
              · skip
                rintro a w ⟨hE, hM⟩
                refine c_nb ?_
                have ht42 := Option.some.inj hF38
                subst ht42
                refine c_mid ?_
                exact ⟨hE.sub ⟨rfl, rfl, rfl, rfl, rfl, rfl, rfl, trivial⟩, hM⟩
      · skip
        rintro a w ⟨hE, hM⟩
        refine wp_region_lit ?_
        refine s_move hE goes_none (by decide) rfl ?_; intro a hE
        refine s_int hE goes_none (by decide) rfl rfl rfl ?_; intro a hE
        refine s_assign hE goes_none (by decide) rfl ?_; intro a hE
        refine c_fin0 ?_
        refine c_mid ?_
        exact ⟨_, (Option.some.inj hF12).symm, hE.sub ⟨rfl, rfl, rfl, rfl, rfl, rfl, rfl, trivial⟩, hM⟩
    · intro hb9
      have hs5 := ite_f hs5 hb9
      refine wp_exit (e_then (e_then (e_eq ?_)))
      have ht43 := hx6 _ (Option.some.inj hs5).symm
      subst ht43
      refine c_mid ?_
      exact ⟨hE.sub ⟨rfl, rfl, rfl, rfl, rfl, trivial⟩, hM⟩
  · skip
    rintro a w ⟨hE, hM⟩
    refine c_nx ?_
    refine c_region ?_
    refine s_move hE goes_none (by decide) rfl ?_; intro a hE
    refine s_move hE goes_none (by decide) rfl ?_; intro a hE
    obtain ⟨r44, e45, hF3⟩ := bind_some hF3
    refine s_call (vs := [v1_1, (vI j1.2)]) hE goes_none (by decide) rfl cb171 (c_spec_l10Some _ p1 v1_1 (hM.rdo hv1_1) j1.2 r44 e45) ?_
    rintro v w a ⟨u46, u47, rfl, hFr, hro48, hK⟩ hE
    have hM := hM.add hK hFr
    refine s_move hE goes_none (by decide) rfl ?_; intro a hE
    refine s_extract hE goes_none (by decide) rfl rfl ?_; intro a hE
    refine s_extract hE goes_none (by decide) rfl rfl ?_; intro a hE
    refine s_assign hE goes_none (by decide) rfl ?_; intro a hE
    refine s_assign hE goes_none (by decide) rfl ?_; intro a hE
    refine c_fin ?_
    obtain ⟨j49, hl50, hF51⟩ := bind_some hF3
    refine c_join (fun a w => ∃ (u52 : Value), Env 79 a [(6, u52), (7, (vT j49.2))] ∧ M (Old w0) w0 w [osl NoB (j49.1 : List Int) u52]) ?_ ?_
    · skip
      refine wp_region_lit ?_
      refine s_move hE goes_none (by decide) rfl ?_; intro a hE
      refine s_move hE goes_none (by decide) rfl ?_; intro a hE
      refine s_move hE goes_none (by decide) rfl ?_; intro a hE
      refine s_int hE goes_none (by decide) rfl rfl rfl ?_; intro a hE
      refine s_move hE goes_none (by decide) rfl ?_; intro a hE
      refine splitB (decide (j1.1 > p2)) (fun hb54 => ?_) (fun hb54 => ?_)
      · have hl50 := ite_t hl50 hb54
        refine s_move hE (goes_yes hE rfl (lkb rfl hb54)) (by decide) rfl ?_; intro a hE
        refine s_move hE (goes_yes hE rfl (lkb rfl hb54)) (by decide) rfl ?_; intro a hE
        refine s_move hE (goes_yes hE rfl (lkb rfl hb54)) (by decide) rfl ?_; intro a hE
        refine s_len hE (goes_yes hE rfl (lkb rfl hb54)) (by decide) rfl Try.underlying51 (hM.sl (pre := []) noB) ?_; intro a hE
        refine s_int hE (goes_yes hE rfl (lkb rfl hb54)) (by decide) rfl rfl rfl ?_; intro a hE
        refine s_int hE (goes_yes hE rfl (lkb rfl hb54)) (by decide) rfl rfl rfl ?_; intro a hE
        refine s_int hE (goes_yes hE rfl (lkb rfl hb54)) (by decide) rfl rfl rfl ?_; intro a hE
        refine s_pickT hE goes_none (by decide) (lkb rfl hb54) rfl ?_; intro a hE
        refine s_assign hE goes_none (by decide) rfl ?_; intro a hE
        refine s_assign hE goes_none (by decide) rfl ?_; intro a hE
        refine c_fin0 ?_
        have ht55 := Option.some.inj hl50
        subst ht55
        refine c_mid ?_
        exact ⟨u47, hE.sub ⟨rfl, rfl, trivial⟩, hM⟩
      · have hl50 := ite_f hl50 hb54
        refine s_skip hE rfl (lkb rfl hb54) rfl (by decide) ?_; intro a hE
        refine s_skip hE rfl (lkb rfl hb54) rfl (by decide) ?_; intro a hE
        refine s_skip hE rfl (lkb rfl hb54) rfl (by decide) ?_; intro a hE
        refine s_skip hE rfl (lkb rfl hb54) rfl (by decide) ?_; intro a hE
        refine s_skip hE rfl (lkb rfl hb54) rfl (by decide) ?_; intro a hE
        refine s_skip hE rfl (lkb rfl hb54) rfl (by decide) ?_; intro a hE
        refine s_skip hE rfl (lkb rfl hb54) rfl (by decide) ?_; intro a hE
        refine s_pickF hE goes_none (by decide) (lkb rfl hb54) rfl ?_; intro a hE
        refine s_assign hE goes_none (by decide) rfl ?_; intro a hE
        refine s_assign hE goes_none (by decide) rfl ?_; intro a hE
        refine c_fin0 ?_
        have ht56 := Option.some.inj hl50
        subst ht56
        refine c_mid ?_
        exact ⟨u47, hE.sub ⟨rfl, rfl, trivial⟩, hM⟩
    · skip
      rintro a w ⟨u52, hE, hM⟩
      have hr := Option.some.inj hF51
      subst hr
      exact wp_ret (k_ret2 hE rfl (res_tmp hE rfl) (res_tmp hE rfl) ⟨_, rfl, u52, rfl, hM.outF (locN1 locN0), hM.kept⟩)
noncomputable def F_spec_FaultyShares (p0 : Int) (p1 : (List GShare)) (p2 : Int) : Option ((List Int) × Int) :=
  (F_spec_l10Both p0 p1 p2).bind fun (r1 : Int) => if (r1 != 0) = true then (some ([], r1)) else ((F_spec_l10Faulty p0 p1 p2).bind fun (r5 : (List Int) × Bool) => if (!r5.2) = true then (some ([], 4)) else (some (r5.1, 0)))
set_option maxRecDepth 20000 in
set_option maxHeartbeats 400000 in
theorem c_spec_FaultyShares (w0 : World) (p0 : Int) (p1 : (List GShare)) (v1_1 : Value) (hv1_1 : Ro w0 p1 [v1_1]) (p2 : Int) (r : (List Int) × Int) (hF : F_spec_FaultyShares p0 p1 p2 = some r) :
    Calls Try.prog 61 [(vI p0), v1_1, (vI p2)].toArray w0 (fun en w' => ∃ v, en = .returned v ∧ (∃ (y1 : Value), v = (Value.tuple [y1, (vI r.2)].toArray) ∧ Fr w0 w' [osl NoB (r.1 : List Int) y1] ∧ Kept (Old w0) w0 w')) := by
  refine c_enter (n := 28) Try.func61 rfl rfl (Nat.le_of_ble_eq_true rfl) rfl ?_
  intro a hE
  have hM := M.start w0
  unfold F_spec_FaultyShares at hF
  refine c_region ?_
  refine s_assign hE goes_none (by decide) rfl ?_; intro a hE
  refine s_assign hE goes_none (by decide) rfl ?_; intro a hE
  refine c_fin ?_
  refine wp_seq ?_
  refine c_region ?_
  refine s_move hE goes_none (by decide) rfl ?_; intro a hE
  refine s_move hE goes_none (by decide) rfl ?_; intro a hE
  refine s_move hE goes_none (by decide) rfl ?_; intro a hE
  obtain ⟨r1, e2, hF⟩ := bind_some hF
  refine s_call (vs := [(vI p0), v1_1, (vI p2)]) hE goes_none (by decide) rfl cb66 (c_spec_l10Both _ p0 p1 v1_1 (hM.rdo hv1_1) p2 r1 e2) ?_
  rintro v w a ⟨rfl, hK⟩ hE
  have hM := hM.keep hK
  refine s_assign hE goes_none (by decide) rfl ?_; intro a hE
  refine c_fin ?_
  refine c_region ?_
  refine s_move hE goes_none (by decide) rfl ?_; intro a hE
  refine s_int hE goes_none (by decide) rfl rfl rfl ?_; intro a hE
  refine c_fin ?_
  refine c_cond hE rfl ?_ ?_
  · intro hb3
    have hF := ite_t hF hb3
    refine c_region ?_
    refine s_move hE goes_none (by decide) rfl ?_; intro a hE
    refine s_assign hE goes_none (by decide) rfl ?_; intro a hE
    refine s_assign hE goes_none (by decide) rfl ?_; intro a hE
    refine c_fin ?_
    have hM := M.nilS (α := Int) NoB noB hM
    have hr := Option.some.inj hF
    subst hr
    exact wp_ret (r_then (k_ret2 hE rfl (res_tmp hE rfl) (res_tmp hE rfl) ⟨_, rfl, (Value.slice none 0 0), rfl, hM.outF (locN1 locN0), hM.kept⟩))
  · intro hb3
    have hF := ite_f hF hb3
    refine wp_skip ?_
    refine c_nx ?_
    refine c_region ?_
    refine s_move hE goes_none (by decide) rfl ?_; intro a hE
    refine s_move hE goes_none (by decide) rfl ?_; intro a hE
    refine s_move hE goes_none (by decide) rfl ?_; intro a hE
    obtain ⟨r5, e6, hF⟩ := bind_some hF
    refine s_call (vs := [(vI p0), v1_1, (vI p2)]) hE goes_none (by decide) rfl cb117 (c_spec_l10Faulty _ p0 p1 v1_1 (hM.rdo hv1_1) p2 r5 e6) ?_
    rintro v w a ⟨u7, rfl, hFr, hK⟩ hE
    have hM := hM.add hK hFr
    refine s_move hE goes_none (by decide) rfl ?_; intro a hE
    refine s_extract hE goes_none (by decide) rfl rfl ?_; intro a hE
    refine s_extract hE goes_none (by decide) rfl rfl ?_; intro a hE
    refine s_assign hE goes_none (by decide) rfl ?_; intro a hE
    refine s_assign hE goes_none (by decide) rfl ?_; intro a hE
    refine c_fin ?_
    refine wp_seq ?_
    refine c_region ?_
    refine s_move hE goes_none (by decide) rfl ?_; intro a hE
    refine s_not hE goes_none (by decide) rfl ?_; intro a hE
    refine c_fin ?_
    refine c_cond hE rfl ?_ ?_
    · intro hb8
      have hF := ite_t hF hb8
      refine c_region ?_
      refine s_assign hE goes_none (by decide) rfl ?_; intro a hE
      refine s_assign hE goes_none (by decide) rfl ?_; intro a hE
      refine c_fin ?_
      have hM := M.nilS (α := Int) NoB noB hM
      have hr := Option.some.inj hF
      subst hr
      have hM := M.fst (l := [_]) hM
      exact wp_ret (r_then (k_ret2 hE rfl (res_tmp hE rfl) (res_tmp hE rfl) ⟨_, rfl, (Value.slice none 0 0), rfl, hM.outF (locN1 locN0), hM.kept⟩))
    · intro hb8
      have hF := ite_f hF hb8
      refine wp_skip ?_
      refine c_nx ?_
      refine c_region ?_
      refine s_move hE goes_none (by decide) rfl ?_; intro a hE
      refine s_assign hE goes_none (by decide) rfl ?_; intro a hE
      refine s_assign hE goes_none (by decide) rfl ?_; intro a hE
      refine c_fin ?_
      have hr := Option.some.inj hF
      subst hr
      exact wp_ret (k_ret2 hE rfl (res_tmp hE rfl) (res_tmp hE rfl) ⟨_, rfl, u7, rfl, hM.outF (locN1 locN0), hM.kept⟩)
noncomputable def F_impl_inRange (p0 : Int) (p1 : Int) (p2 : Int) : Option (Bool) :=
  (if (decide (p1 ≤ p0)) = true then (some (decide (p0 ≤ p2))) else (some false) : Option (Bool)).bind fun (j1 : Bool) => some j1
set_option maxRecDepth 20000 in
set_option maxHeartbeats 400000 in
theorem c_impl_inRange (w0 : World) (p0 : Int) (p1 : Int) (p2 : Int) (r : Bool) (hF : F_impl_inRange p0 p1 p2 = some r) :
    Calls Try.prog 93 [(vI p0), (vI p1), (vI p2)].toArray w0 (fun en w' => ∃ v, en = .returned v ∧ (v = (vT r) ∧ Kept (Old w0) w0 w')) := by
  refine c_enter (n := 15) Try.func93 rfl rfl (Nat.le_of_ble_eq_true rfl) rfl ?_
  intro a hE
  have hM := M.start w0
  unfold F_impl_inRange at hF
  refine c_region ?_
  refine s_assign hE goes_none (by decide) rfl ?_; intro a hE
  refine c_fin ?_
  obtain ⟨j1, hl2, hF3⟩ := bind_some hF
  refine c_join (fun a w => Env 15 a [(6, (vT j1))] ∧ M (Old w0) w0 w []) ?_ ?_
  · skip
    refine wp_region_lit ?_
    refine s_move hE goes_none (by decide) rfl ?_; intro a hE
    refine s_move hE goes_none (by decide) rfl ?_; intro a hE
    refine s_int hE goes_none (by decide) rfl rfl rfl ?_; intro a hE
    refine s_move hE goes_none (by decide) rfl ?_; intro a hE
    refine splitB (decide (p1 ≤ p0)) (fun hb4 => ?_) (fun hb4 => ?_)
    · have hl2 := ite_t hl2 hb4
      refine s_move hE (goes_yes hE rfl (lkb rfl hb4)) (by decide) rfl ?_; intro a hE
      refine s_move hE (goes_yes hE rfl (lkb rfl hb4)) (by decide) rfl ?_; intro a hE
      refine s_int hE (goes_yes hE rfl (lkb rfl hb4)) (by decide) rfl rfl rfl ?_; intro a hE
      refine s_pickT hE goes_none (by decide) (lkb rfl hb4) rfl ?_; intro a hE
      refine s_assign hE goes_none (by decide) rfl ?_; intro a hE
      refine c_fin0 ?_
      have ht5 := Option.some.inj hl2
      subst ht5
      refine c_mid ?_
      exact ⟨hE.sub ⟨rfl, trivial⟩, hM⟩
    · have hl2 := ite_f hl2 hb4
      refine s_skip hE rfl (lkb rfl hb4) rfl (by decide) ?_; intro a hE
      refine s_skip hE rfl (lkb rfl hb4) rfl (by decide) ?_; intro a hE
      refine s_skip hE rfl (lkb rfl hb4) rfl (by decide) ?_; intro a hE
      refine s_pickF hE goes_none (by decide) (lkb rfl hb4) rfl ?_; intro a hE
      refine s_assign hE goes_none (by decide) rfl ?_; intro a hE
      refine c_fin0 ?_
      have ht6 := Option.some.inj hl2
      subst ht6
      refine c_mid ?_
      exact ⟨hE.sub ⟨rfl, trivial⟩, hM⟩
  · skip
    rintro a w ⟨hE, hM⟩
    have hr := Option.some.inj hF3
    subst hr
    exact wp_ret (k_ret1 hE rfl (res_tmp hE rfl) ⟨_, rfl, rfl, hM.kept⟩)
noncomputable def L0_impl_rest (p1 : Int) (p2 : Int) (s4 : Int × Int) : Option (Fl (Int × Int) Int) :=
  if (decide (s4.2 ≥ p2)) = true then (((nonneg s4.2).bind fun _ => (if ((andI (shrI s4.1 s4.2) 1) == 1) = true then ((nonneg (wr (s4.2 - p2))).bind fun _ => some (xorI s4.1 (shlI p1 (wr (s4.2 - p2))))) else (some s4.1) : Option (Int)).bind fun (j13 : Int) => some j13 : Option (Int)).bind fun (j9 : Int) => some (Fl.nx (j9, wr (s4.2 - 1)))) else (some (Fl.ex s4.1))
noncomputable def F_impl_rest (p0 : Int) (p1 : Int) (p2 : Int) : Option (Int) :=
  (iter (L0_impl_rest p1 p2) (p0, 15) : Option (Int)).bind fun (j1 : Int) => some j1
set_option maxRecDepth 20000 in
set_option maxHeartbeats 400000 in
theorem c_impl_rest (w0 : World) (p0 : Int) (p1 : Int) (p2 : Int) (r : Int) (hF : F_impl_rest p0 p1 p2 = some r) :
    Calls Try.prog 185 [(vI p0), (vI p1), (vI p2)].toArray w0 (fun en w' => ∃ v, en = .returned v ∧ (v = (vI r) ∧ Kept (Old w0) w0 w')) := by
  refine c_enter (n := 26) Try.func185 rfl rfl (Nat.le_of_ble_eq_true rfl) rfl ?_
  intro a hE
  have hM := M.start w0
  unfold F_impl_rest at hF
  refine c_region ?_
  refine s_assign hE goes_none (by decide) rfl ?_; intro a hE
  refine c_fin ?_
  refine wp_seq ?_
  refine c_region ?_
  refine s_assign hE goes_none (by decide) rfl ?_; intro a hE
  refine c_fin ?_
  obtain ⟨j1, hl2, hF3⟩ := bind_some hF
  refine c_cut (fun a w => Env 26 a [(0, (vI j1))] ∧ M (Old w0) w0 w []) ?_ ?_
  · skip
    refine wp_block ?_
    refine c_loop (fun (s4 : Int × Int) a w => Env 26 a [(0, (vI s4.1)), (1, (vI p1)), (2, (vI p2)), (7, (vI s4.2))] ∧ M (Old w0) w0 w []) hl2 ⟨hE.sub ⟨rfl, rfl, rfl, rfl, trivial⟩, hM⟩ ?_
    rintro s4 a w ⟨hE, hM⟩ o7 hs5 hx6
    unfold L0_impl_rest at hs5
    refine wp_seq ?_
    refine c_region ?_
    refine s_move hE goes_none (by decide) rfl ?_; intro a hE
    refine s_move hE goes_none (by decide) rfl ?_; intro a hE
    refine s_int hE goes_none (by decide) rfl rfl rfl ?_; intro a hE
    refine c_fin ?_
    refine c_cond hE rfl ?_ ?_
    · intro hb8
      have hs5 := ite_t hs5 hb8
      refine wp_skip ?_
      refine c_nx ?_
      obtain ⟨j9, hl10, hF11⟩ := bind_some hs5
      refine c_join (fun a w => Env 26 a [(0, (vI j9)), (1, (vI p1)), (2, (vI p2)), (7, (vI s4.2))] ∧ M (Old w0) w0 w []) ?_ ?_
      · skip
        refine wp_block ?_
        refine c_region ?_
        refine s_move hE goes_none (by decide) rfl ?_; intro a hE
        refine s_move hE goes_none (by decide) rfl ?_; intro a hE
        obtain ⟨_, e12, hl10⟩ := bind_some hl10
        have e12 := nonneg_some e12
        refine s_sh hE goes_none (by decide) rfl rfl (bI_shr _ _ e12) ?_; intro a hE
        refine s_int hE goes_none (by decide) rfl rfl rfl ?_; intro a hE
        refine s_int hE goes_none (by decide) rfl rfl rfl ?_; intro a hE
        refine c_fin ?_
        obtain ⟨j13, hl14, hF15⟩ := bind_some hl10
        refine c_cut (fun a w => Env 26 a [(0, (vI j13)), (1, (vI p1)), (2, (vI p2)), (7, (vI s4.2))] ∧ M (Old w0) w0 w []) ?_ ?_
        · skip
          refine c_cond hE rfl ?_ ?_
          · intro hb16
            have hl14 := ite_t hl14 hb16
            refine wp_region_lit ?_
            refine s_move hE goes_none (by decide) rfl ?_; intro a hE
            refine s_move hE goes_none (by decide) rfl ?_; intro a hE
            refine s_move hE goes_none (by decide) rfl ?_; intro a hE
            refine s_move hE goes_none (by decide) rfl ?_; intro a hE
            refine s_int hE goes_none (by decide) rfl rfl rfl ?_; intro a hE
            obtain ⟨_, e17, hl14⟩ := bind_some hl14
            have e17 := nonneg_some e17
            refine s_sh hE goes_none (by decide) rfl rfl (bI_shl _ _ e17) ?_; intro a hE
            refine s_int hE goes_none (by decide) rfl rfl rfl ?_; intro a hE
            refine s_assign hE goes_none (by decide) rfl ?_; intro a hE
            refine c_fin0 ?_
            have ht18 := Option.some.inj hl14
            subst ht18
            refine c_mid ?_
            exact ⟨hE.sub ⟨rfl, rfl, rfl, rfl, trivial⟩, hM⟩
          · intro hb16
            have hl14 := ite_f hl14 hb16
            refine wp_skip ?_
            have ht19 := Option.some.inj hl14
            subst ht19
            refine c_mid ?_
            exact ⟨hE.sub ⟨rfl, rfl, rfl, rfl, trivial⟩, hM⟩
        · skip
          rintro a w ⟨hE, hM⟩
          refine c_nb ?_
          have ht20 := Option.some.inj hF15
          subst ht20
          refine c_mid ?_
          exact ⟨hE.sub ⟨rfl, rfl, rfl, rfl, trivial⟩, hM⟩
      · skip
        rintro a w ⟨hE, hM⟩
        refine wp_region_lit ?_
        refine s_move hE goes_none (by decide) rfl ?_; intro a hE
        refine s_int hE goes_none (by decide) rfl rfl rfl ?_; intro a hE
        refine s_assign hE goes_none (by decide) rfl ?_; intro a hE
        refine c_fin0 ?_
        refine c_mid ?_
        exact ⟨_, (Option.some.inj hF11).symm, hE.sub ⟨rfl, rfl, rfl, rfl, trivial⟩, hM⟩
    · intro hb8
      have hs5 := ite_f hs5 hb8
      refine wp_exit (e_then (e_then (e_eq ?_)))
      have ht21 := hx6 _ (Option.some.inj hs5).symm
      subst ht21
      refine c_mid ?_
      exact ⟨hE.sub ⟨rfl, trivial⟩, hM⟩
  · skip
    rintro a w ⟨hE, hM⟩
    refine c_nx ?_
    refine c_region ?_
    refine s_move hE goes_none (by decide) rfl ?_; intro a hE
    refine s_assign hE goes_none (by decide) rfl ?_; intro a hE
    refine c_fin ?_
    have hr := Option.some.inj hF3
    subst hr
    exact wp_ret (k_ret1 hE rfl (res_tmp hE rfl) ⟨_, rfl, rfl, hM.kept⟩)
noncomputable def L1_impl_IsField (p0 : Int) (s8 : Int) (s18 : Int) : Option (Fl Int (Fl Unit Bool)) :=
  (nonneg s8).bind fun _ => if (decide (s18 < (shlI 2 s8))) = true then ((F_impl_rest p0 s18 s8).bind fun (r24 : Int) => if (r24 == 0) = true then (some (Fl.ex (Fl.ex false))) else (some (Fl.nx (wr (s18 + 1))))) else (some (Fl.ex (Fl.nx ())))
noncomputable def L0_impl_IsField (p0 : Int) (s8 : Int) : Option (Fl Int (Fl Unit Bool)) :=
  if (decide (s8 ≤ 4)) = true then ((nonneg s8).bind fun _ => (iter (L1_impl_IsField p0 s8) (shlI 1 s8) : Option (Fl Unit Bool)).bind fun (j14 : Fl Unit Bool) => j14.el (fun (s17 : Unit) => some (Fl.nx (wr (s8 + 1)))) (fun r => some (Fl.ex (Fl.ex r)))) else (some (Fl.ex (Fl.nx ())))
noncomputable def F_impl_IsField (p0 : Int) : Option (Bool) :=
  (F_impl_inRange p0 256 511).bind fun (r1 : Bool) => if (!r1) = true then (some false) else ((iter (L0_impl_IsField p0) 1 : Option (Fl Unit Bool)).bind fun (j4 : Fl Unit Bool) => j4.el (fun (s7 : Unit) => some true) (fun r => some r))
end Go.Proofs.Ythlmkdjednppkaa
