/- The walk of what the law reaches: contracts of functions. -/
import Derived.Test.YthlmkdjednppkaaC3
set_option linter.unusedVariables false
set_option linter.unusedSimpArgs false
namespace Go.Proofs.Ythlmkdjednppkaa
open Go
set_option maxRecDepth 20000 in
set_option maxHeartbeats 400000 in
theorem c_laws_FnExactDistinguishedBytes (w0 : World) (p0 : GCipher) (p1 : (Vector UInt8 16)) (p2 : (Vector UInt8 16)) (p3 : Int) (p4 : Int) (r : Bool) (hF : F_laws_FnExactDistinguishedBytes p0 p1 p2 p3 p4 = some r) :
    Calls Try.prog 11 [(Value.agg (Flat.enc p0).toArray), (Value.agg (Flat.enc p1).toArray), (Value.agg (Flat.enc p2).toArray), (vI p3), (vI p4)].toArray w0 (fun en w' => ∃ v, en = .returned v ∧ (v = (vT r) ∧ Kept (Old w0) w0 w')) := by
  refine c_enter (n := 92) Try.func11 rfl rfl (Nat.le_of_ble_eq_true rfl) rfl ?_
  intro a hE
  have hM := M.start w0
  unfold F_laws_FnExactDistinguishedBytes at hF
  refine c_region ?_
  refine s_box (cs := cat [[(vI p0.Field)], Flat.enc p0.Box, Flat.enc p0.Mix, Flat.enc p0.Places, [(vI p0.Rounds)]]) hE hM goes_none (by decide) rfl rfl ?_; intro b1 w a hM hE
  refine s_box (cs := Flat.enc p1) hE hM goes_none (by decide) rfl rfl ?_; intro b3 w a hM hE
  refine s_box (cs := Flat.enc p2) hE hM goes_none (by decide) rfl rfl ?_; intro b5 w a hM hE
  refine s_assign hE goes_none (by decide) rfl ?_; intro a hE
  refine c_fin ?_
  obtain ⟨j7, hl8, hF9⟩ := bind_some hF
  refine c_join (fun a w => ∃ (u10 : Value), Env 92 a [(3, (vI p3)), (4, (vI p4)), (5, (ptr b1 0)), (6, (ptr b3 0)), (7, (ptr b5 0)), (11, u10), (12, (vI j7.2))] ∧ M (Old w0) w0 w [raw b5 (Flat.enc p2), raw b3 (Flat.enc p1), raw b1 (cat [[(vI p0.Field)], Flat.enc p0.Box, Flat.enc p0.Mix, Flat.enc p0.Places, [(vI p0.Rounds)]]), osl NoB (j7.1 : List Int) u10]) ?_ ?_
  · skip
    obtain ⟨r13, e14, hl8⟩ := bind_some hl8
    obtain ⟨r15, e16, hl8⟩ := bind_some hl8
    obtain ⟨r17, e18, hl8⟩ := bind_some hl8
    obtain ⟨r19, e20, hl8⟩ := bind_some hl8
    refine c_draw3 (n := 92) (hd := [_, _, _, _, _, _, _, _, _, _, _, _, _]) (tl := [_]) hmix rfl rfl [20, 21, 22, 23, 24, 25, 26, 27, 28, 19, 29, 30, 11] (by decide) (fun D u w => M (Old w0) w0 w ([raw b5 (Flat.enc p2), raw b3 (Flat.enc p1), raw b1 (cat [[(vI p0.Field)], Flat.enc p0.Box, Flat.enc p0.Mix, Flat.enc p0.Places, [(vI p0.Rounds)]])] ++ qL ([mkO 8 (fun v => osl NoB (r19.1 : List Int) (tupGet v 0))] : Mk) D u) ∧ GOk ([([], fun us v => v = (Value.agg (Flat.enc p0).toArray)), ([], fun us v => v = (Value.agg (Flat.enc r13).toArray)), ([], fun us v => v = (Value.agg (Flat.enc p1).toArray)), ([], fun us v => v = (Value.agg (Flat.enc r15).toArray)), ([], fun us v => v = (Value.agg (Flat.enc p2).toArray)), ([], fun us v => v = (Value.agg (Flat.enc r17).toArray)), ([], fun us v => v = (vI p3)), ([], fun us v => v = (vI p4)), ([], fun us v => v = (Value.tuple [(tupGet v 0), (vI r19.2)].toArray)), ([8], fun us v => v = (Value.tuple [(tupGet (us.getD 0 undef) 0), (vI r19.2)].toArray)), ([8], fun us v => v = (tupGet (us.getD 0 undef) 0)), ([], fun us v => v = (vI r19.2)), ([8], fun us v => v = (tupGet (us.getD 0 undef) 0))] : Gs) D u) hE (fun u => ⟨M.qE (M.q0 hM.drew u) emO, gok0⟩) (steps_of (steps_cons ?_ (steps_cons ?_ (steps_cons ?_ (steps_cons ?_ (steps_cons ?_ (steps_cons ?_ (steps_cons ?_ (steps_cons ?_ (steps_cons ?_ (steps_cons ?_ (steps_cons ?_ (steps_cons ?_ (steps_cons ?_ steps_nil)))))))))))))) ?_
    · intro a w ux12 D hE hI hD hdc hp
      have hM0 := hI.1
      have hM : M (Old w0) w0 w [raw b5 (Flat.enc p2), raw b3 (Flat.enc p1), raw b1 (cat [[(vI p0.Field)], Flat.enc p0.Box, Flat.enc p0.Mix, Flat.enc p0.Places, [(vI p0.Rounds)]]), opt (D 8) (osl NoB (r19.1 : List Int) (tupGet (ux12 8) 0))] := hI.1
      refine s_loadA (cs := Flat.enc p0) hE goes_none (by decide) rfl ty48 rfl (hM.rawAt (pre := [_, _])) (cat_len (cl1 (n := 1) (m := 289) rfl (cl1 (n := 256) (m := 33) (Flat.len _) (cl1 (n := 16) (m := 17) (Flat.len _) (cl1 (n := 16) (m := 1) (Flat.len _) (cl1 (n := 1) (m := 0) rfl cl0)))))) ?_; intro a hE
      exact ⟨_, _, rfl, hE, M.qKeep hM0 rfl, hI.2.put hD rfl allN rfl⟩
    · intro a w ux12 D hE hI hD hdc hp
      have d0 : D 0 = true := hp 0 _ rfl rfl
      have g0 := hI.2 0 d0 _ rfl
      have f0 : ux12 0 = (Value.agg (Flat.enc p0).toArray) := g0.2
      have hM0 := hI.1
      have hM : M (Old w0) w0 w [raw b5 (Flat.enc p2), raw b3 (Flat.enc p1), raw b1 (cat [[(vI p0.Field)], Flat.enc p0.Box, Flat.enc p0.Mix, Flat.enc p0.Places, [(vI p0.Rounds)]]), opt (D 8) (osl NoB (r19.1 : List Int) (tupGet (ux12 8) 0))] := hI.1
      refine s_call (vs := [(Value.agg (Flat.enc p0).toArray)]) hE goes_none (by decide) (evs_of (evsC (lk rfl f0) evsN)) cb33 (c_laws_toCipher _ p0 r13 e14) ?_
      rintro v w a ⟨rfl, hK⟩ hE
      exact ⟨_, _, rfl, hE, M.qKeep (hM0.keep hK) rfl, hI.2.put hD rfl allN rfl⟩
    · intro a w ux12 D hE hI hD hdc hp
      have hM0 := hI.1
      have hM : M (Old w0) w0 w [raw b5 (Flat.enc p2), raw b3 (Flat.enc p1), raw b1 (cat [[(vI p0.Field)], Flat.enc p0.Box, Flat.enc p0.Mix, Flat.enc p0.Places, [(vI p0.Rounds)]]), opt (D 8) (osl NoB (r19.1 : List Int) (tupGet (ux12 8) 0))] := hI.1
      refine s_loadA (cs := Flat.enc p1) hE goes_none (by decide) rfl ty46 rfl (hM.rawAt (pre := [_])) (Flat.len _) ?_; intro a hE
      exact ⟨_, _, rfl, hE, M.qKeep hM0 rfl, hI.2.put hD rfl allN rfl⟩
    · intro a w ux12 D hE hI hD hdc hp
      have d2 : D 2 = true := hp 0 _ rfl rfl
      have g2 := hI.2 2 d2 _ rfl
      have f2 : ux12 2 = (Value.agg (Flat.enc p1).toArray) := g2.2
      have hM0 := hI.1
      have hM : M (Old w0) w0 w [raw b5 (Flat.enc p2), raw b3 (Flat.enc p1), raw b1 (cat [[(vI p0.Field)], Flat.enc p0.Box, Flat.enc p0.Mix, Flat.enc p0.Places, [(vI p0.Rounds)]]), opt (D 8) (osl NoB (r19.1 : List Int) (tupGet (ux12 8) 0))] := hI.1
      refine s_call (vs := [(Value.agg (Flat.enc p1).toArray)]) hE goes_none (by decide) (evs_of (evsC (lk rfl f2) evsN)) cb42 (c_laws_toBlock _ p1 r15 e16) ?_
      rintro v w a ⟨rfl, hK⟩ hE
      exact ⟨_, _, rfl, hE, M.qKeep (hM0.keep hK) rfl, hI.2.put hD rfl allN rfl⟩
    · intro a w ux12 D hE hI hD hdc hp
      have hM0 := hI.1
      have hM : M (Old w0) w0 w [raw b5 (Flat.enc p2), raw b3 (Flat.enc p1), raw b1 (cat [[(vI p0.Field)], Flat.enc p0.Box, Flat.enc p0.Mix, Flat.enc p0.Places, [(vI p0.Rounds)]]), opt (D 8) (osl NoB (r19.1 : List Int) (tupGet (ux12 8) 0))] := hI.1
      refine s_loadA (cs := Flat.enc p2) hE goes_none (by decide) rfl ty46 rfl (hM.rawAt (pre := [])) (Flat.len _) ?_; intro a hE
      exact ⟨_, _, rfl, hE, M.qKeep hM0 rfl, hI.2.put hD rfl allN rfl⟩
    · intro a w ux12 D hE hI hD hdc hp
      have d4 : D 4 = true := hp 0 _ rfl rfl
      have g4 := hI.2 4 d4 _ rfl
      have f4 : ux12 4 = (Value.agg (Flat.enc p2).toArray) := g4.2
      have hM0 := hI.1
      have hM : M (Old w0) w0 w [raw b5 (Flat.enc p2), raw b3 (Flat.enc p1), raw b1 (cat [[(vI p0.Field)], Flat.enc p0.Box, Flat.enc p0.Mix, Flat.enc p0.Places, [(vI p0.Rounds)]]), opt (D 8) (osl NoB (r19.1 : List Int) (tupGet (ux12 8) 0))] := hI.1
      refine s_call (vs := [(Value.agg (Flat.enc p2).toArray)]) hE goes_none (by decide) (evs_of (evsC (lk rfl f4) evsN)) cb42 (c_laws_toBlock _ p2 r17 e18) ?_
      rintro v w a ⟨rfl, hK⟩ hE
      exact ⟨_, _, rfl, hE, M.qKeep (hM0.keep hK) rfl, hI.2.put hD rfl allN rfl⟩
    · intro a w ux12 D hE hI hD hdc hp
      have hM0 := hI.1
      have hM : M (Old w0) w0 w [raw b5 (Flat.enc p2), raw b3 (Flat.enc p1), raw b1 (cat [[(vI p0.Field)], Flat.enc p0.Box, Flat.enc p0.Mix, Flat.enc p0.Places, [(vI p0.Rounds)]]), opt (D 8) (osl NoB (r19.1 : List Int) (tupGet (ux12 8) 0))] := hI.1
      refine s_move hE goes_none (by decide) rfl ?_; intro a hE
      exact ⟨_, _, rfl, hE, M.qKeep hM0 rfl, hI.2.put hD rfl allN rfl⟩
    · intro a w ux12 D hE hI hD hdc hp
      have hM0 := hI.1
      have hM : M (Old w0) w0 w [raw b5 (Flat.enc p2), raw b3 (Flat.enc p1), raw b1 (cat [[(vI p0.Field)], Flat.enc p0.Box, Flat.enc p0.Mix, Flat.enc p0.Places, [(vI p0.Rounds)]]), opt (D 8) (osl NoB (r19.1 : List Int) (tupGet (ux12 8) 0))] := hI.1
      refine s_move hE goes_none (by decide) rfl ?_; intro a hE
      exact ⟨_, _, rfl, hE, M.qKeep hM0 rfl, hI.2.put hD rfl allN rfl⟩
    · intro a w ux12 D hE hI hD hdc hp
      have d1 : D 1 = true := hp 0 _ rfl rfl
      have g1 := hI.2 1 d1 _ rfl
      have f1 : ux12 1 = (Value.agg (Flat.enc r13).toArray) := g1.2
      have d3 : D 3 = true := hp 1 _ rfl rfl
      have g3 := hI.2 3 d3 _ rfl
      have f3 : ux12 3 = (Value.agg (Flat.enc r15).toArray) := g3.2
      have d5 : D 5 = true := hp 2 _ rfl rfl
      have g5 := hI.2 5 d5 _ rfl
      have f5 : ux12 5 = (Value.agg (Flat.enc r17).toArray) := g5.2
      have d6 : D 6 = true := hp 3 _ rfl rfl
      have g6 := hI.2 6 d6 _ rfl
      have f6 : ux12 6 = (vI p3) := g6.2
      have d7 : D 7 = true := hp 4 _ rfl rfl
      have g7 := hI.2 7 d7 _ rfl
      have f7 : ux12 7 = (vI p4) := g7.2
      have hM0 := hI.1
      have hM : M (Old w0) w0 w [raw b5 (Flat.enc p2), raw b3 (Flat.enc p1), raw b1 (cat [[(vI p0.Field)], Flat.enc p0.Box, Flat.enc p0.Mix, Flat.enc p0.Places, [(vI p0.Rounds)]]), opt (D 8) (osl NoB (r19.1 : List Int) (tupGet (ux12 8) 0))] := hI.1
      refine s_call (vs := [(Value.agg (Flat.enc r13).toArray), (Value.agg (Flat.enc r15).toArray), (Value.agg (Flat.enc r17).toArray), (vI p3), (vI p4)]) hE goes_none (by decide) (evs_of (evsC (lk rfl f1) (evsC (lk rfl f3) (evsC (lk rfl f5) (evsC (lk rfl f6) (evsC (lk rfl f7) evsN)))))) cb54 (c_spec_DistinguishedBytes _ r13 r15 r17 p3 p4 r19 e20) ?_
      rintro _ w a ⟨u21, rfl, hFr, hK⟩ hE
      have hM := hM0.add hK hFr
      exact ⟨_, _, rfl, hE, M.qFill (mk1 := []) (mk2 := []) (f := (fun v => osl NoB (r19.1 : List Int) (tupGet v 0))) hM rfl hD, hI.2.put hD rfl allN rfl⟩
    · intro a w ux12 D hE hI hD hdc hp
      have d8 : D 8 = true := hp 0 _ rfl rfl
      have g8 := hI.2 8 d8 _ rfl
      have f8 : ux12 8 = (Value.tuple [(tupGet (ux12 8) 0), (vI r19.2)].toArray) := g8.2
      have hM0 := hI.1
      have hM : M (Old w0) w0 w [raw b5 (Flat.enc p2), raw b3 (Flat.enc p1), raw b1 (cat [[(vI p0.Field)], Flat.enc p0.Box, Flat.enc p0.Mix, Flat.enc p0.Places, [(vI p0.Rounds)]]), opt (D 8) (osl NoB (r19.1 : List Int) (tupGet (ux12 8) 0))] := hI.1
      have hM := hM.sure (pre := [_, _, _]) d8
      refine s_move hE goes_none (by decide) (lk rfl f8) ?_; intro a hE
      exact ⟨_, _, rfl, hE, M.qKeep hM0 rfl, hI.2.put hD rfl (allC d8 allN) rfl⟩
    · intro a w ux12 D hE hI hD hdc hp
      have d9 : D 9 = true := hp 0 _ rfl rfl
      have g9 := hI.2 9 d9 _ rfl
      have d8 : D 8 = true := g9.1 8 (show 8 ∈ [8] by decide)
      have f9 : ux12 9 = (Value.tuple [(tupGet (ux12 8) 0), (vI r19.2)].toArray) := g9.2
      have hM0 := hI.1
      have hM : M (Old w0) w0 w [raw b5 (Flat.enc p2), raw b3 (Flat.enc p1), raw b1 (cat [[(vI p0.Field)], Flat.enc p0.Box, Flat.enc p0.Mix, Flat.enc p0.Places, [(vI p0.Rounds)]]), opt (D 8) (osl NoB (r19.1 : List Int) (tupGet (ux12 8) 0))] := hI.1
      have hM := hM.sure (pre := [_, _, _]) d8
      refine s_extract hE goes_none (by decide) (lk rfl f9) rfl ?_; intro a hE
      exact ⟨_, _, rfl, hE, M.qKeep hM0 rfl, hI.2.put hD rfl (allC d8 allN) rfl⟩
    · intro a w ux12 D hE hI hD hdc hp
      have d9 : D 9 = true := hp 0 _ rfl rfl
      have g9 := hI.2 9 d9 _ rfl
      have d8 : D 8 = true := g9.1 8 (show 8 ∈ [8] by decide)
      have f9 : ux12 9 = (Value.tuple [(tupGet (ux12 8) 0), (vI r19.2)].toArray) := g9.2
      have hM0 := hI.1
      have hM : M (Old w0) w0 w [raw b5 (Flat.enc p2), raw b3 (Flat.enc p1), raw b1 (cat [[(vI p0.Field)], Flat.enc p0.Box, Flat.enc p0.Mix, Flat.enc p0.Places, [(vI p0.Rounds)]]), opt (D 8) (osl NoB (r19.1 : List Int) (tupGet (ux12 8) 0))] := hI.1
      have hM := hM.sure (pre := [_, _, _]) d8
      refine s_extract hE goes_none (by decide) (lk rfl f9) rfl ?_; intro a hE
      exact ⟨_, _, rfl, hE, M.qKeep hM0 rfl, hI.2.put hD rfl allN rfl⟩
    · intro a w ux12 D hE hI hD hdc hp
      have d10 : D 10 = true := hp 0 _ rfl rfl
      have g10 := hI.2 10 d10 _ rfl
      have d8 : D 8 = true := g10.1 8 (show 8 ∈ [8] by decide)
      have f10 : ux12 10 = (tupGet (ux12 8) 0) := g10.2
      have hM0 := hI.1
      have hM : M (Old w0) w0 w [raw b5 (Flat.enc p2), raw b3 (Flat.enc p1), raw b1 (cat [[(vI p0.Field)], Flat.enc p0.Box, Flat.enc p0.Mix, Flat.enc p0.Places, [(vI p0.Rounds)]]), opt (D 8) (osl NoB (r19.1 : List Int) (tupGet (ux12 8) 0))] := hI.1
      have hM := hM.sure (pre := [_, _, _]) d8
      refine s_assign hE goes_none (by decide) (lk rfl f10) ?_; intro a hE
      exact ⟨_, _, rfl, hE, M.qKeep hM0 rfl, hI.2.put hD rfl (allC d8 allN) rfl⟩
    · intro a w ux12 D hE hI hall
      have hM : M (Old w0) w0 w [raw b5 (Flat.enc p2), raw b3 (Flat.enc p1), raw b1 (cat [[(vI p0.Field)], Flat.enc p0.Box, Flat.enc p0.Mix, Flat.enc p0.Places, [(vI p0.Rounds)]]), opt (D 8) (osl NoB (r19.1 : List Int) (tupGet (ux12 8) 0))] := hI.1
      have d0 : D 0 = true := hall 0 (by decide)
      have d1 : D 1 = true := hall 1 (by decide)
      have d2 : D 2 = true := hall 2 (by decide)
      have d3 : D 3 = true := hall 3 (by decide)
      have d4 : D 4 = true := hall 4 (by decide)
      have d5 : D 5 = true := hall 5 (by decide)
      have d6 : D 6 = true := hall 6 (by decide)
      have d7 : D 7 = true := hall 7 (by decide)
      have d8 : D 8 = true := hall 8 (by decide)
      have d9 : D 9 = true := hall 9 (by decide)
      have d10 : D 10 = true := hall 10 (by decide)
      have d11 : D 11 = true := hall 11 (by decide)
      have d12 : D 12 = true := hall 12 (by decide)
      have f0 : ux12 0 = (Value.agg (Flat.enc p0).toArray) := (hI.2 0 d0 _ rfl).2
      have f1 : ux12 1 = (Value.agg (Flat.enc r13).toArray) := (hI.2 1 d1 _ rfl).2
      have f2 : ux12 2 = (Value.agg (Flat.enc p1).toArray) := (hI.2 2 d2 _ rfl).2
      have f3 : ux12 3 = (Value.agg (Flat.enc r15).toArray) := (hI.2 3 d3 _ rfl).2
      have f4 : ux12 4 = (Value.agg (Flat.enc p2).toArray) := (hI.2 4 d4 _ rfl).2
      have f5 : ux12 5 = (Value.agg (Flat.enc r17).toArray) := (hI.2 5 d5 _ rfl).2
      have f6 : ux12 6 = (vI p3) := (hI.2 6 d6 _ rfl).2
      have f7 : ux12 7 = (vI p4) := (hI.2 7 d7 _ rfl).2
      have f8 : ux12 8 = (Value.tuple [(tupGet (ux12 8) 0), (vI r19.2)].toArray) := (hI.2 8 d8 _ rfl).2
      have f9 : ux12 9 = (Value.tuple [(tupGet (ux12 8) 0), (vI r19.2)].toArray) := (hI.2 9 d9 _ rfl).2
      have f10 : ux12 10 = (tupGet (ux12 8) 0) := (hI.2 10 d10 _ rfl).2
      have f11 : ux12 11 = (vI r19.2) := (hI.2 11 d11 _ rfl).2
      have f12 : ux12 12 = (tupGet (ux12 8) 0) := (hI.2 12 d12 _ rfl).2
      have hM := hM.sure (pre := [_, _, _]) d8
      have hE := hE.sub (e' := [(20, (Value.agg (Flat.enc p0).toArray)), (21, (Value.agg (Flat.enc r13).toArray)), (22, (Value.agg (Flat.enc p1).toArray)), (23, (Value.agg (Flat.enc r15).toArray)), (24, (Value.agg (Flat.enc p2).toArray)), (25, (Value.agg (Flat.enc r17).toArray)), (26, (vI p3)), (27, (vI p4)), (29, (tupGet (ux12 8) 0)), (30, (vI r19.2)), (11, (tupGet (ux12 8) 0)), (0, (Value.agg (Flat.enc p0).toArray)), (1, (Value.agg (Flat.enc p1).toArray)), (2, (Value.agg (Flat.enc p2).toArray)), (3, (vI p3)), (4, (vI p4)), (5, (ptr b1 0)), (6, (ptr b3 0)), (7, (ptr b5 0)), (10, (vT false))]) ⟨lk rfl f0, lk rfl f1, lk rfl f2, lk rfl f3, lk rfl f4, lk rfl f5, lk rfl f6, lk rfl f7, lk rfl f10, lk rfl f11, lk rfl f12, rfl, rfl, rfl, rfl, rfl, rfl, rfl, rfl, rfl, trivial⟩
      refine s_assign hE goes_none (by decide) rfl ?_; intro a hE
      refine c_fin0 ?_
      have ht22 := Option.some.inj hl8
      subst ht22
      refine c_mid ?_
      exact ⟨(tupGet (ux12 8) 0), hE.sub ⟨rfl, rfl, rfl, rfl, rfl, rfl, rfl, trivial⟩, hM⟩
  · skip
    rintro a w ⟨u10, hE, hM⟩
    obtain ⟨j23, hl24, hF25⟩ := bind_some hF9
    refine c_join (fun a w => ∃ (u26 : Value), Env 92 a [(3, (vI p3)), (4, (vI p4)), (5, (ptr b1 0)), (6, (ptr b3 0)), (7, (ptr b5 0)), (11, u10), (12, (vI j7.2)), (13, u26), (14, (vI j23.2))] ∧ M (Old w0) w0 w [raw b5 (Flat.enc p2), raw b3 (Flat.enc p1), raw b1 (cat [[(vI p0.Field)], Flat.enc p0.Box, Flat.enc p0.Mix, Flat.enc p0.Places, [(vI p0.Rounds)]]), osl NoB (j7.1 : List Int) u10, osl NoB (j23.1 : List Int) u26]) ?_ ?_
    · skip
      obtain ⟨r29, e30, hl24⟩ := bind_some hl24
      obtain ⟨r31, e32, hl24⟩ := bind_some hl24
      obtain ⟨r33, e34, hl24⟩ := bind_some hl24
      obtain ⟨r35, e36, hl24⟩ := bind_some hl24
      refine c_draw3 (n := 92) (hd := [_, _, _, _, _, _, _, _, _, _, _, _, _]) (tl := [_]) hmix rfl rfl [32, 33, 34, 35, 36, 37, 38, 39, 40, 31, 41, 42, 13] (by decide) (fun D u w => M (Old w0) w0 w ([raw b5 (Flat.enc p2), raw b3 (Flat.enc p1), raw b1 (cat [[(vI p0.Field)], Flat.enc p0.Box, Flat.enc p0.Mix, Flat.enc p0.Places, [(vI p0.Rounds)]]), osl NoB (j7.1 : List Int) u10] ++ qL ([mkO 8 (fun v => osl NoB (r35.1 : List Int) (tupGet v 0))] : Mk) D u) ∧ GOk ([([], fun us v => v = (Value.agg (Flat.enc p0).toArray)), ([], fun us v => v = (Value.agg (Flat.enc r29).toArray)), ([], fun us v => v = (Value.agg (Flat.enc p1).toArray)), ([], fun us v => v = (Value.agg (Flat.enc r31).toArray)), ([], fun us v => v = (Value.agg (Flat.enc p2).toArray)), ([], fun us v => v = (Value.agg (Flat.enc r33).toArray)), ([], fun us v => v = (vI p3)), ([], fun us v => v = (vI p4)), ([], fun us v => v = (Value.tuple [(tupGet v 0), (vI r35.2)].toArray)), ([8], fun us v => v = (Value.tuple [(tupGet (us.getD 0 undef) 0), (vI r35.2)].toArray)), ([8], fun us v => v = (tupGet (us.getD 0 undef) 0)), ([], fun us v => v = (vI r35.2)), ([8], fun us v => v = (tupGet (us.getD 0 undef) 0))] : Gs) D u) hE (fun u => ⟨M.qE (M.q0 hM.drew u) emO, gok0⟩) (steps_of (steps_cons ?_ (steps_cons ?_ (steps_cons ?_ (steps_cons ?_ (steps_cons ?_ (steps_cons ?_ (steps_cons ?_ (steps_cons ?_ (steps_cons ?_ (steps_cons ?_ (steps_cons ?_ (steps_cons ?_ (steps_cons ?_ steps_nil)))))))))))))) ?_
      · intro a w ux28 D hE hI hD hdc hp
        have hM0 := hI.1
        have hM : M (Old w0) w0 w [raw b5 (Flat.enc p2), raw b3 (Flat.enc p1), raw b1 (cat [[(vI p0.Field)], Flat.enc p0.Box, Flat.enc p0.Mix, Flat.enc p0.Places, [(vI p0.Rounds)]]), osl NoB (j7.1 : List Int) u10, opt (D 8) (osl NoB (r35.1 : List Int) (tupGet (ux28 8) 0))] := hI.1
        refine s_loadA (cs := Flat.enc p0) hE goes_none (by decide) rfl ty48 rfl (hM.rawAt (pre := [_, _])) (cat_len (cl1 (n := 1) (m := 289) rfl (cl1 (n := 256) (m := 33) (Flat.len _) (cl1 (n := 16) (m := 17) (Flat.len _) (cl1 (n := 16) (m := 1) (Flat.len _) (cl1 (n := 1) (m := 0) rfl cl0)))))) ?_; intro a hE
        exact ⟨_, _, rfl, hE, M.qKeep hM0 rfl, hI.2.put hD rfl allN rfl⟩
      · intro a w ux28 D hE hI hD hdc hp
        have d0 : D 0 = true := hp 0 _ rfl rfl
        have g0 := hI.2 0 d0 _ rfl
        have f0 : ux28 0 = (Value.agg (Flat.enc p0).toArray) := g0.2
        have hM0 := hI.1
        have hM : M (Old w0) w0 w [raw b5 (Flat.enc p2), raw b3 (Flat.enc p1), raw b1 (cat [[(vI p0.Field)], Flat.enc p0.Box, Flat.enc p0.Mix, Flat.enc p0.Places, [(vI p0.Rounds)]]), osl NoB (j7.1 : List Int) u10, opt (D 8) (osl NoB (r35.1 : List Int) (tupGet (ux28 8) 0))] := hI.1
        refine s_call (vs := [(Value.agg (Flat.enc p0).toArray)]) hE goes_none (by decide) (evs_of (evsC (lk rfl f0) evsN)) cb33 (c_laws_toCipher _ p0 r29 e30) ?_
        rintro v w a ⟨rfl, hK⟩ hE
        exact ⟨_, _, rfl, hE, M.qKeep (hM0.keep hK) rfl, hI.2.put hD rfl allN rfl⟩
      · intro a w ux28 D hE hI hD hdc hp
        have hM0 := hI.1
        have hM : M (Old w0) w0 w [raw b5 (Flat.enc p2), raw b3 (Flat.enc p1), raw b1 (cat [[(vI p0.Field)], Flat.enc p0.Box, Flat.enc p0.Mix, Flat.enc p0.Places, [(vI p0.Rounds)]]), osl NoB (j7.1 : List Int) u10, opt (D 8) (osl NoB (r35.1 : List Int) (tupGet (ux28 8) 0))] := hI.1
        refine s_loadA (cs := Flat.enc p1) hE goes_none (by decide) rfl ty46 rfl (hM.rawAt (pre := [_])) (Flat.len _) ?_; intro a hE
        exact ⟨_, _, rfl, hE, M.qKeep hM0 rfl, hI.2.put hD rfl allN rfl⟩
      · intro a w ux28 D hE hI hD hdc hp
        have d2 : D 2 = true := hp 0 _ rfl rfl
        have g2 := hI.2 2 d2 _ rfl
        have f2 : ux28 2 = (Value.agg (Flat.enc p1).toArray) := g2.2
        have hM0 := hI.1
        have hM : M (Old w0) w0 w [raw b5 (Flat.enc p2), raw b3 (Flat.enc p1), raw b1 (cat [[(vI p0.Field)], Flat.enc p0.Box, Flat.enc p0.Mix, Flat.enc p0.Places, [(vI p0.Rounds)]]), osl NoB (j7.1 : List Int) u10, opt (D 8) (osl NoB (r35.1 : List Int) (tupGet (ux28 8) 0))] := hI.1
        refine s_call (vs := [(Value.agg (Flat.enc p1).toArray)]) hE goes_none (by decide) (evs_of (evsC (lk rfl f2) evsN)) cb42 (c_laws_toBlock _ p1 r31 e32) ?_
        rintro v w a ⟨rfl, hK⟩ hE
        exact ⟨_, _, rfl, hE, M.qKeep (hM0.keep hK) rfl, hI.2.put hD rfl allN rfl⟩
      · intro a w ux28 D hE hI hD hdc hp
        have hM0 := hI.1
        have hM : M (Old w0) w0 w [raw b5 (Flat.enc p2), raw b3 (Flat.enc p1), raw b1 (cat [[(vI p0.Field)], Flat.enc p0.Box, Flat.enc p0.Mix, Flat.enc p0.Places, [(vI p0.Rounds)]]), osl NoB (j7.1 : List Int) u10, opt (D 8) (osl NoB (r35.1 : List Int) (tupGet (ux28 8) 0))] := hI.1
        refine s_loadA (cs := Flat.enc p2) hE goes_none (by decide) rfl ty46 rfl (hM.rawAt (pre := [])) (Flat.len _) ?_; intro a hE
        exact ⟨_, _, rfl, hE, M.qKeep hM0 rfl, hI.2.put hD rfl allN rfl⟩
      · intro a w ux28 D hE hI hD hdc hp
        have d4 : D 4 = true := hp 0 _ rfl rfl
        have g4 := hI.2 4 d4 _ rfl
        have f4 : ux28 4 = (Value.agg (Flat.enc p2).toArray) := g4.2
        have hM0 := hI.1
        have hM : M (Old w0) w0 w [raw b5 (Flat.enc p2), raw b3 (Flat.enc p1), raw b1 (cat [[(vI p0.Field)], Flat.enc p0.Box, Flat.enc p0.Mix, Flat.enc p0.Places, [(vI p0.Rounds)]]), osl NoB (j7.1 : List Int) u10, opt (D 8) (osl NoB (r35.1 : List Int) (tupGet (ux28 8) 0))] := hI.1
        refine s_call (vs := [(Value.agg (Flat.enc p2).toArray)]) hE goes_none (by decide) (evs_of (evsC (lk rfl f4) evsN)) cb42 (c_laws_toBlock _ p2 r33 e34) ?_
        rintro v w a ⟨rfl, hK⟩ hE
        exact ⟨_, _, rfl, hE, M.qKeep (hM0.keep hK) rfl, hI.2.put hD rfl allN rfl⟩
      · intro a w ux28 D hE hI hD hdc hp
        have hM0 := hI.1
        have hM : M (Old w0) w0 w [raw b5 (Flat.enc p2), raw b3 (Flat.enc p1), raw b1 (cat [[(vI p0.Field)], Flat.enc p0.Box, Flat.enc p0.Mix, Flat.enc p0.Places, [(vI p0.Rounds)]]), osl NoB (j7.1 : List Int) u10, opt (D 8) (osl NoB (r35.1 : List Int) (tupGet (ux28 8) 0))] := hI.1
        refine s_move hE goes_none (by decide) rfl ?_; intro a hE
        exact ⟨_, _, rfl, hE, M.qKeep hM0 rfl, hI.2.put hD rfl allN rfl⟩
      · intro a w ux28 D hE hI hD hdc hp
        have hM0 := hI.1
        have hM : M (Old w0) w0 w [raw b5 (Flat.enc p2), raw b3 (Flat.enc p1), raw b1 (cat [[(vI p0.Field)], Flat.enc p0.Box, Flat.enc p0.Mix, Flat.enc p0.Places, [(vI p0.Rounds)]]), osl NoB (j7.1 : List Int) u10, opt (D 8) (osl NoB (r35.1 : List Int) (tupGet (ux28 8) 0))] := hI.1
        refine s_move hE goes_none (by decide) rfl ?_; intro a hE
        exact ⟨_, _, rfl, hE, M.qKeep hM0 rfl, hI.2.put hD rfl allN rfl⟩
      · intro a w ux28 D hE hI hD hdc hp
        have d1 : D 1 = true := hp 0 _ rfl rfl
        have g1 := hI.2 1 d1 _ rfl
        have f1 : ux28 1 = (Value.agg (Flat.enc r29).toArray) := g1.2
        have d3 : D 3 = true := hp 1 _ rfl rfl
        have g3 := hI.2 3 d3 _ rfl
        have f3 : ux28 3 = (Value.agg (Flat.enc r31).toArray) := g3.2
        have d5 : D 5 = true := hp 2 _ rfl rfl
        have g5 := hI.2 5 d5 _ rfl
        have f5 : ux28 5 = (Value.agg (Flat.enc r33).toArray) := g5.2
        have d6 : D 6 = true := hp 3 _ rfl rfl
        have g6 := hI.2 6 d6 _ rfl
        have f6 : ux28 6 = (vI p3) := g6.2
        have d7 : D 7 = true := hp 4 _ rfl rfl
        have g7 := hI.2 7 d7 _ rfl
        have f7 : ux28 7 = (vI p4) := g7.2
        have hM0 := hI.1
        have hM : M (Old w0) w0 w [raw b5 (Flat.enc p2), raw b3 (Flat.enc p1), raw b1 (cat [[(vI p0.Field)], Flat.enc p0.Box, Flat.enc p0.Mix, Flat.enc p0.Places, [(vI p0.Rounds)]]), osl NoB (j7.1 : List Int) u10, opt (D 8) (osl NoB (r35.1 : List Int) (tupGet (ux28 8) 0))] := hI.1
        refine s_call (vs := [(Value.agg (Flat.enc r29).toArray), (Value.agg (Flat.enc r31).toArray), (Value.agg (Flat.enc r33).toArray), (vI p3), (vI p4)]) hE goes_none (by decide) (evs_of (evsC (lk rfl f1) (evsC (lk rfl f3) (evsC (lk rfl f5) (evsC (lk rfl f6) (evsC (lk rfl f7) evsN)))))) cb55 (c_impl_DistinguishedBytes _ r29 r31 r33 p3 p4 r35 e36) ?_
        rintro _ w a ⟨u37, rfl, hFr, hK⟩ hE
        have hM := hM0.add hK hFr
        exact ⟨_, _, rfl, hE, M.qFill (mk1 := []) (mk2 := []) (f := (fun v => osl NoB (r35.1 : List Int) (tupGet v 0))) hM rfl hD, hI.2.put hD rfl allN rfl⟩
      · intro a w ux28 D hE hI hD hdc hp
        have d8 : D 8 = true := hp 0 _ rfl rfl
        have g8 := hI.2 8 d8 _ rfl
        have f8 : ux28 8 = (Value.tuple [(tupGet (ux28 8) 0), (vI r35.2)].toArray) := g8.2
        have hM0 := hI.1
        have hM : M (Old w0) w0 w [raw b5 (Flat.enc p2), raw b3 (Flat.enc p1), raw b1 (cat [[(vI p0.Field)], Flat.enc p0.Box, Flat.enc p0.Mix, Flat.enc p0.Places, [(vI p0.Rounds)]]), osl NoB (j7.1 : List Int) u10, opt (D 8) (osl NoB (r35.1 : List Int) (tupGet (ux28 8) 0))] := hI.1
        have hM := hM.sure (pre := [_, _, _, _]) d8
        refine s_move hE goes_none (by decide) (lk rfl f8) ?_; intro a hE
        exact ⟨_, _, rfl, hE, M.qKeep hM0 rfl, hI.2.put hD rfl (allC d8 allN) rfl⟩
      · intro a w ux28 D hE hI hD hdc hp
        have d9 : D 9 = true := hp 0 _ rfl rfl
        have g9 := hI.2 9 d9 _ rfl
        have d8 : D 8 = true := g9.1 8 (show 8 ∈ [8] by decide)
        have f9 : ux28 9 = (Value.tuple [(tupGet (ux28 8) 0), (vI r35.2)].toArray) := g9.2
        have hM0 := hI.1
        have hM : M (Old w0) w0 w [raw b5 (Flat.enc p2), raw b3 (Flat.enc p1), raw b1 (cat [[(vI p0.Field)], Flat.enc p0.Box, Flat.enc p0.Mix, Flat.enc p0.Places, [(vI p0.Rounds)]]), osl NoB (j7.1 : List Int) u10, opt (D 8) (osl NoB (r35.1 : List Int) (tupGet (ux28 8) 0))] := hI.1
        have hM := hM.sure (pre := [_, _, _, _]) d8
        refine s_extract hE goes_none (by decide) (lk rfl f9) rfl ?_; intro a hE
        exact ⟨_, _, rfl, hE, M.qKeep hM0 rfl, hI.2.put hD rfl (allC d8 allN) rfl⟩
      · intro a w ux28 D hE hI hD hdc hp
        have d9 : D 9 = true := hp 0 _ rfl rfl
        have g9 := hI.2 9 d9 _ rfl
        have d8 : D 8 = true := g9.1 8 (show 8 ∈ [8] by decide)
        have f9 : ux28 9 = (Value.tuple [(tupGet (ux28 8) 0), (vI r35.2)].toArray) := g9.2
        have hM0 := hI.1
        have hM : M (Old w0) w0 w [raw b5 (Flat.enc p2), raw b3 (Flat.enc p1), raw b1 (cat [[(vI p0.Field)], Flat.enc p0.Box, Flat.enc p0.Mix, Flat.enc p0.Places, [(vI p0.Rounds)]]), osl NoB (j7.1 : List Int) u10, opt (D 8) (osl NoB (r35.1 : List Int) (tupGet (ux28 8) 0))] := hI.1
        have hM := hM.sure (pre := [_, _, _, _]) d8
        refine s_extract hE goes_none (by decide) (lk rfl f9) rfl ?_; intro a hE
        exact ⟨_, _, rfl, hE, M.qKeep hM0 rfl, hI.2.put hD rfl allN rfl⟩
      · intro a w ux28 D hE hI hD hdc hp
        have d10 : D 10 = true := hp 0 _ rfl rfl
        have g10 := hI.2 10 d10 _ rfl
        have d8 : D 8 = true := g10.1 8 (show 8 ∈ [8] by decide)
        have f10 : ux28 10 = (tupGet (ux28 8) 0) := g10.2
        have hM0 := hI.1
        have hM : M (Old w0) w0 w [raw b5 (Flat.enc p2), raw b3 (Flat.enc p1), raw b1 (cat [[(vI p0.Field)], Flat.enc p0.Box, Flat.enc p0.Mix, Flat.enc p0.Places, [(vI p0.Rounds)]]), osl NoB (j7.1 : List Int) u10, opt (D 8) (osl NoB (r35.1 : List Int) (tupGet (ux28 8) 0))] := hI.1
        have hM := hM.sure (pre := [_, _, _, _]) d8
        refine s_assign hE goes_none (by decide) (lk rfl f10) ?_; intro a hE
        exact ⟨_, _, rfl, hE, M.qKeep hM0 rfl, hI.2.put hD rfl (allC d8 allN) rfl⟩
      · intro a w ux28 D hE hI hall
        have hM : M (Old w0) w0 w [raw b5 (Flat.enc p2), raw b3 (Flat.enc p1), raw b1 (cat [[(vI p0.Field)], Flat.enc p0.Box, Flat.enc p0.Mix, Flat.enc p0.Places, [(vI p0.Rounds)]]), osl NoB (j7.1 : List Int) u10, opt (D 8) (osl NoB (r35.1 : List Int) (tupGet (ux28 8) 0))] := hI.1
        have d0 : D 0 = true := hall 0 (by decide)
        have d1 : D 1 = true := hall 1 (by decide)
        have d2 : D 2 = true := hall 2 (by decide)
        have d3 : D 3 = true := hall 3 (by decide)
        have d4 : D 4 = true := hall 4 (by decide)
        have d5 : D 5 = true := hall 5 (by decide)
        have d6 : D 6 = true := hall 6 (by decide)
        have d7 : D 7 = true := hall 7 (by decide)
        have d8 : D 8 = true := hall 8 (by decide)
        have d9 : D 9 = true := hall 9 (by decide)
        have d10 : D 10 = true := hall 10 (by decide)
        have d11 : D 11 = true := hall 11 (by decide)
        have d12 : D 12 = true := hall 12 (by decide)
        have f0 : ux28 0 = (Value.agg (Flat.enc p0).toArray) := (hI.2 0 d0 _ rfl).2
        have f1 : ux28 1 = (Value.agg (Flat.enc r29).toArray) := (hI.2 1 d1 _ rfl).2
        have f2 : ux28 2 = (Value.agg (Flat.enc p1).toArray) := (hI.2 2 d2 _ rfl).2
        have f3 : ux28 3 = (Value.agg (Flat.enc r31).toArray) := (hI.2 3 d3 _ rfl).2
        have f4 : ux28 4 = (Value.agg (Flat.enc p2).toArray) := (hI.2 4 d4 _ rfl).2
        have f5 : ux28 5 = (Value.agg (Flat.enc r33).toArray) := (hI.2 5 d5 _ rfl).2
        have f6 : ux28 6 = (vI p3) := (hI.2 6 d6 _ rfl).2
        have f7 : ux28 7 = (vI p4) := (hI.2 7 d7 _ rfl).2
        have f8 : ux28 8 = (Value.tuple [(tupGet (ux28 8) 0), (vI r35.2)].toArray) := (hI.2 8 d8 _ rfl).2
        have f9 : ux28 9 = (Value.tuple [(tupGet (ux28 8) 0), (vI r35.2)].toArray) := (hI.2 9 d9 _ rfl).2
        have f10 : ux28 10 = (tupGet (ux28 8) 0) := (hI.2 10 d10 _ rfl).2
        have f11 : ux28 11 = (vI r35.2) := (hI.2 11 d11 _ rfl).2
        have f12 : ux28 12 = (tupGet (ux28 8) 0) := (hI.2 12 d12 _ rfl).2
        have hM := hM.sure (pre := [_, _, _, _]) d8
        have hE := hE.sub (e' := [(32, (Value.agg (Flat.enc p0).toArray)), (33, (Value.agg (Flat.enc r29).toArray)), (34, (Value.agg (Flat.enc p1).toArray)), (35, (Value.agg (Flat.enc r31).toArray)), (36, (Value.agg (Flat.enc p2).toArray)), (37, (Value.agg (Flat.enc r33).toArray)), (38, (vI p3)), (39, (vI p4)), (41, (tupGet (ux28 8) 0)), (42, (vI r35.2)), (13, (tupGet (ux28 8) 0)), (3, (vI p3)), (4, (vI p4)), (5, (ptr b1 0)), (6, (ptr b3 0)), (7, (ptr b5 0)), (11, u10), (12, (vI j7.2))]) ⟨lk rfl f0, lk rfl f1, lk rfl f2, lk rfl f3, lk rfl f4, lk rfl f5, lk rfl f6, lk rfl f7, lk rfl f10, lk rfl f11, lk rfl f12, rfl, rfl, rfl, rfl, rfl, rfl, rfl, trivial⟩
        refine s_assign hE goes_none (by decide) rfl ?_; intro a hE
        refine c_fin0 ?_
        have ht38 := Option.some.inj hl24
        subst ht38
        refine c_mid ?_
        exact ⟨(tupGet (ux28 8) 0), hE.sub ⟨rfl, rfl, rfl, rfl, rfl, rfl, rfl, rfl, rfl, trivial⟩, hM⟩
    · skip
      rintro a w ⟨u26, hE, hM⟩
      refine wp_seq ?_
      obtain ⟨j39, hl40, hF41⟩ := bind_some hF25
      refine c_join (fun a w => Env 92 a [(3, (vI p3)), (4, (vI p4)), (5, (ptr b1 0)), (6, (ptr b3 0)), (7, (ptr b5 0)), (11, u10), (12, (vI j7.2)), (13, u26), (51, (vT j39))] ∧ M (Old w0) w0 w [raw b5 (Flat.enc p2), raw b3 (Flat.enc p1), raw b1 (cat [[(vI p0.Field)], Flat.enc p0.Box, Flat.enc p0.Mix, Flat.enc p0.Places, [(vI p0.Rounds)]]), osl NoB (j7.1 : List Int) u10, osl NoB (j23.1 : List Int) u26]) ?_ ?_
      · skip
        refine wp_region_lit ?_
        refine s_move hE goes_none (by decide) rfl ?_; intro a hE
        refine s_move hE goes_none (by decide) rfl ?_; intro a hE
        obtain ⟨r42, e43, hl40⟩ := bind_some hl40
        refine s_call (vs := [u26, u10]) hE goes_none (by decide) rfl cb36 (c_laws_eqInt64S _ j23.1 u26 (hM.sl (pre := [_, _, _, _]) noB) j7.1 u10 (hM.sl (pre := [_, _, _]) noB) r42 e43) ?_
        rintro v w a ⟨rfl, hK⟩ hE
        have hM := hM.keep hK
        refine s_not hE goes_none (by decide) rfl ?_; intro a hE
        refine s_move hE goes_none (by decide) rfl ?_; intro a hE
        refine splitB (!r42) (fun hb44 => ?_) (fun hb44 => ?_)
        · have hl40 := ite_t hl40 hb44
          refine s_skip hE rfl (lkb rfl hb44) rfl (by decide) ?_; intro a hE
          refine s_skip hE rfl (lkb rfl hb44) rfl (by decide) ?_; intro a hE
          refine s_skip hE rfl (lkb rfl hb44) rfl (by decide) ?_; intro a hE
          refine s_pickT hE goes_none (by decide) (lkb rfl hb44) rfl ?_; intro a hE
          refine c_fin0 ?_
          have ht45 := Option.some.inj hl40
          subst ht45
          refine c_mid ?_
          exact ⟨hE.sub ⟨rfl, rfl, rfl, rfl, rfl, rfl, rfl, rfl, rfl, trivial⟩, hM⟩
        · have hl40 := ite_f hl40 hb44
          refine s_move hE (goes_yes hE rfl (lkb rfl hb44)) (by decide) rfl ?_; intro a hE
          refine s_move hE (goes_yes hE rfl (lkb rfl hb44)) (by decide) rfl ?_; intro a hE
          refine s_int hE (goes_yes hE rfl (lkb rfl hb44)) (by decide) rfl rfl rfl ?_; intro a hE
          refine s_pickF hE goes_none (by decide) (lkb rfl hb44) rfl ?_; intro a hE
          refine c_fin0 ?_
          have ht46 := Option.some.inj hl40
          subst ht46
          refine c_mid ?_
          exact ⟨hE.sub ⟨rfl, rfl, rfl, rfl, rfl, rfl, rfl, rfl, rfl, trivial⟩, hM⟩
      · skip
        rintro a w ⟨hE, hM⟩
        refine c_cond hE rfl ?_ ?_
        · intro hb47
          have hF41 := ite_t hF41 hb47
          refine c_region ?_
          refine s_assign hE goes_none (by decide) rfl ?_; intro a hE
          refine c_fin ?_
          have hr := Option.some.inj hF41
          subst hr
          have hM := M.fst (l := []) hM
          exact wp_ret (r_then (k_ret1 hE rfl (res_tmp hE rfl) ⟨_, rfl, rfl, hM.kept⟩))
        · intro hb47
          have hF41 := ite_f hF41 hb47
          refine wp_skip ?_
          refine c_nx ?_
          refine c_region ?_
          refine s_assign hE goes_none (by decide) rfl ?_; intro a hE
          refine c_fin ?_
          refine c_region ?_
          refine s_move hE goes_none (by decide) rfl ?_; intro a hE
          refine s_move hE goes_none (by decide) rfl ?_; intro a hE
          have hM := hM.pull (pre := [_, _, _, _])
          have hM := hM.toOwn noB
          obtain ⟨r48, e49, hF41⟩ := bind_some hF41
          refine s_call (vs := [u26, (vI 1)]) hE goes_none (by decide) rfl cb39 (c_laws_markInt64S _ _ _ _ j23.1 u26 1 hM r48 e49) ?_
          rintro v w a ⟨rfl, hM⟩ hE
          refine s_assign hE goes_none (by decide) rfl ?_; intro a hE
          refine c_fin ?_
          refine c_region ?_
          refine s_assign hE goes_none (by decide) rfl ?_; intro a hE
          refine c_fin ?_
          refine c_region ?_
          refine s_move hE goes_none (by decide) rfl ?_; intro a hE
          refine s_move hE goes_none (by decide) rfl ?_; intro a hE
          obtain ⟨r50, e51, hF41⟩ := bind_some hF41
          refine s_call (vs := [u26, (vI 1)]) hE goes_none (by decide) rfl cb40 (c_laws_heldInt64S _ r48.1 u26 (hM.ro (pre := []) noB) 1 r50 e51) ?_
          rintro v w a ⟨rfl, hK⟩ hE
          have hM := hM.keep hK
          refine s_assign hE goes_none (by decide) rfl ?_; intro a hE
          refine c_fin ?_
          refine wp_seq ?_
          refine c_region ?_
          refine s_move hE goes_none (by decide) rfl ?_; intro a hE
          refine s_int hE goes_none (by decide) rfl rfl rfl ?_; intro a hE
          refine c_fin ?_
          refine c_cond hE rfl ?_ ?_
          · intro hb52
            have hF41 := ite_t hF41 hb52
            refine c_region ?_
            refine s_assign hE goes_none (by decide) rfl ?_; intro a hE
            refine c_fin ?_
            have hr := Option.some.inj hF41
            subst hr
            have hM := M.fst (l := []) hM
            exact wp_ret (r_then (k_ret1 hE rfl (res_tmp hE rfl) ⟨_, rfl, rfl, hM.kept⟩))
          · intro hb52
            have hF41 := ite_f hF41 hb52
            refine wp_skip ?_
            refine c_nx ?_
            refine wp_seq ?_
            refine c_region ?_
            refine s_move hE goes_none (by decide) rfl ?_; intro a hE
            refine s_move hE goes_none (by decide) rfl ?_; intro a hE
            refine s_int hE goes_none (by decide) rfl rfl rfl ?_; intro a hE
            refine c_fin ?_
            refine c_cond hE rfl ?_ ?_
            · intro hb53
              have hF41 := ite_t hF41 hb53
              refine c_region ?_
              refine s_assign hE goes_none (by decide) rfl ?_; intro a hE
              refine c_fin ?_
              have hr := Option.some.inj hF41
              subst hr
              have hM := M.fst (l := []) hM
              exact wp_ret (r_then (k_ret1 hE rfl (res_tmp hE rfl) ⟨_, rfl, rfl, hM.kept⟩))
            · intro hb53
              have hF41 := ite_f hF41 hb53
              refine wp_skip ?_
              refine c_nx ?_
              obtain ⟨j54, hl55, hF56⟩ := bind_some hF41
              refine c_join (fun a w => ∃ (u57 : Value), Env 92 a [(11, u10), (12, (vI j7.2)), (13, u26), (15, (vI r48.2)), (17, u57), (18, (vI j54.2))] ∧ M (Old w0) w0 w [own NoB (r48.1 : (List Int)) [u26], osl NoB (j7.1 : List Int) u10, osl NoB (j54.1 : List Int) u57]) ?_ ?_
              · skip
                obtain ⟨r60, e61, hl55⟩ := bind_some hl55
                obtain ⟨r62, e63, hl55⟩ := bind_some hl55
                obtain ⟨r64, e65, hl55⟩ := bind_some hl55
                obtain ⟨r66, e67, hl55⟩ := bind_some hl55
                refine c_draw3 (n := 92) (hd := [_, _, _, _, _, _, _, _, _, _, _, _, _]) (tl := [_]) hmix rfl rfl [64, 65, 66, 67, 68, 69, 70, 71, 72, 63, 73, 74, 17] (by decide) (fun D u w => M (Old w0) w0 w ([own NoB (r48.1 : (List Int)) [u26], raw b5 (Flat.enc p2), raw b3 (Flat.enc p1), raw b1 (cat [[(vI p0.Field)], Flat.enc p0.Box, Flat.enc p0.Mix, Flat.enc p0.Places, [(vI p0.Rounds)]]), osl NoB (j7.1 : List Int) u10] ++ qL ([mkO 8 (fun v => osl NoB (r66.1 : List Int) (tupGet v 0))] : Mk) D u) ∧ GOk ([([], fun us v => v = (Value.agg (Flat.enc p0).toArray)), ([], fun us v => v = (Value.agg (Flat.enc r60).toArray)), ([], fun us v => v = (Value.agg (Flat.enc p1).toArray)), ([], fun us v => v = (Value.agg (Flat.enc r62).toArray)), ([], fun us v => v = (Value.agg (Flat.enc p2).toArray)), ([], fun us v => v = (Value.agg (Flat.enc r64).toArray)), ([], fun us v => v = (vI p3)), ([], fun us v => v = (vI p4)), ([], fun us v => v = (Value.tuple [(tupGet v 0), (vI r66.2)].toArray)), ([8], fun us v => v = (Value.tuple [(tupGet (us.getD 0 undef) 0), (vI r66.2)].toArray)), ([8], fun us v => v = (tupGet (us.getD 0 undef) 0)), ([], fun us v => v = (vI r66.2)), ([8], fun us v => v = (tupGet (us.getD 0 undef) 0))] : Gs) D u) hE (fun u => ⟨M.qE (M.q0 hM.drew u) emO, gok0⟩) (steps_of (steps_cons ?_ (steps_cons ?_ (steps_cons ?_ (steps_cons ?_ (steps_cons ?_ (steps_cons ?_ (steps_cons ?_ (steps_cons ?_ (steps_cons ?_ (steps_cons ?_ (steps_cons ?_ (steps_cons ?_ (steps_cons ?_ steps_nil)))))))))))))) ?_
                · intro a w ux59 D hE hI hD hdc hp
                  have hM0 := hI.1
                  have hM : M (Old w0) w0 w [own NoB (r48.1 : (List Int)) [u26], raw b5 (Flat.enc p2), raw b3 (Flat.enc p1), raw b1 (cat [[(vI p0.Field)], Flat.enc p0.Box, Flat.enc p0.Mix, Flat.enc p0.Places, [(vI p0.Rounds)]]), osl NoB (j7.1 : List Int) u10, opt (D 8) (osl NoB (r66.1 : List Int) (tupGet (ux59 8) 0))] := hI.1
                  refine s_loadA (cs := Flat.enc p0) hE goes_none (by decide) rfl ty48 rfl (hM.rawAt (pre := [_, _, _])) (cat_len (cl1 (n := 1) (m := 289) rfl (cl1 (n := 256) (m := 33) (Flat.len _) (cl1 (n := 16) (m := 17) (Flat.len _) (cl1 (n := 16) (m := 1) (Flat.len _) (cl1 (n := 1) (m := 0) rfl cl0)))))) ?_; intro a hE
                  exact ⟨_, _, rfl, hE, M.qKeep hM0 rfl, hI.2.put hD rfl allN rfl⟩
                · intro a w ux59 D hE hI hD hdc hp
                  have d0 : D 0 = true := hp 0 _ rfl rfl
                  have g0 := hI.2 0 d0 _ rfl
                  have f0 : ux59 0 = (Value.agg (Flat.enc p0).toArray) := g0.2
                  have hM0 := hI.1
                  have hM : M (Old w0) w0 w [own NoB (r48.1 : (List Int)) [u26], raw b5 (Flat.enc p2), raw b3 (Flat.enc p1), raw b1 (cat [[(vI p0.Field)], Flat.enc p0.Box, Flat.enc p0.Mix, Flat.enc p0.Places, [(vI p0.Rounds)]]), osl NoB (j7.1 : List Int) u10, opt (D 8) (osl NoB (r66.1 : List Int) (tupGet (ux59 8) 0))] := hI.1
                  refine s_call (vs := [(Value.agg (Flat.enc p0).toArray)]) hE goes_none (by decide) (evs_of (evsC (lk rfl f0) evsN)) cb33 (c_laws_toCipher _ p0 r60 e61) ?_
                  rintro v w a ⟨rfl, hK⟩ hE
                  exact ⟨_, _, rfl, hE, M.qKeep (hM0.keep hK) rfl, hI.2.put hD rfl allN rfl⟩
                · intro a w ux59 D hE hI hD hdc hp
                  have hM0 := hI.1
                  have hM : M (Old w0) w0 w [own NoB (r48.1 : (List Int)) [u26], raw b5 (Flat.enc p2), raw b3 (Flat.enc p1), raw b1 (cat [[(vI p0.Field)], Flat.enc p0.Box, Flat.enc p0.Mix, Flat.enc p0.Places, [(vI p0.Rounds)]]), osl NoB (j7.1 : List Int) u10, opt (D 8) (osl NoB (r66.1 : List Int) (tupGet (ux59 8) 0))] := hI.1
                  refine s_loadA (cs := Flat.enc p1) hE goes_none (by decide) rfl ty46 rfl (hM.rawAt (pre := [_, _])) (Flat.len _) ?_; intro a hE
                  exact ⟨_, _, rfl, hE, M.qKeep hM0 rfl, hI.2.put hD rfl allN rfl⟩
                · intro a w ux59 D hE hI hD hdc hp
                  have d2 : D 2 = true := hp 0 _ rfl rfl
                  have g2 := hI.2 2 d2 _ rfl
                  have f2 : ux59 2 = (Value.agg (Flat.enc p1).toArray) := g2.2
                  have hM0 := hI.1
                  have hM : M (Old w0) w0 w [own NoB (r48.1 : (List Int)) [u26], raw b5 (Flat.enc p2), raw b3 (Flat.enc p1), raw b1 (cat [[(vI p0.Field)], Flat.enc p0.Box, Flat.enc p0.Mix, Flat.enc p0.Places, [(vI p0.Rounds)]]), osl NoB (j7.1 : List Int) u10, opt (D 8) (osl NoB (r66.1 : List Int) (tupGet (ux59 8) 0))] := hI.1
                  refine s_call (vs := [(Value.agg (Flat.enc p1).toArray)]) hE goes_none (by decide) (evs_of (evsC (lk rfl f2) evsN)) cb42 (c_laws_toBlock _ p1 r62 e63) ?_
                  rintro v w a ⟨rfl, hK⟩ hE
                  exact ⟨_, _, rfl, hE, M.qKeep (hM0.keep hK) rfl, hI.2.put hD rfl allN rfl⟩
                · intro a w ux59 D hE hI hD hdc hp
                  have hM0 := hI.1
                  have hM : M (Old w0) w0 w [own NoB (r48.1 : (List Int)) [u26], raw b5 (Flat.enc p2), raw b3 (Flat.enc p1), raw b1 (cat [[(vI p0.Field)], Flat.enc p0.Box, Flat.enc p0.Mix, Flat.enc p0.Places, [(vI p0.Rounds)]]), osl NoB (j7.1 : List Int) u10, opt (D 8) (osl NoB (r66.1 : List Int) (tupGet (ux59 8) 0))] := hI.1
                  refine s_loadA (cs := Flat.enc p2) hE goes_none (by decide) rfl ty46 rfl (hM.rawAt (pre := [_])) (Flat.len _) ?_; intro a hE
                  exact ⟨_, _, rfl, hE, M.qKeep hM0 rfl, hI.2.put hD rfl allN rfl⟩
                · intro a w ux59 D hE hI hD hdc hp
                  have d4 : D 4 = true := hp 0 _ rfl rfl
                  have g4 := hI.2 4 d4 _ rfl
                  have f4 : ux59 4 = (Value.agg (Flat.enc p2).toArray) := g4.2
                  have hM0 := hI.1
                  have hM : M (Old w0) w0 w [own NoB (r48.1 : (List Int)) [u26], raw b5 (Flat.enc p2), raw b3 (Flat.enc p1), raw b1 (cat [[(vI p0.Field)], Flat.enc p0.Box, Flat.enc p0.Mix, Flat.enc p0.Places, [(vI p0.Rounds)]]), osl NoB (j7.1 : List Int) u10, opt (D 8) (osl NoB (r66.1 : List Int) (tupGet (ux59 8) 0))] := hI.1
                  refine s_call (vs := [(Value.agg (Flat.enc p2).toArray)]) hE goes_none (by decide) (evs_of (evsC (lk rfl f4) evsN)) cb42 (c_laws_toBlock _ p2 r64 e65) ?_
                  rintro v w a ⟨rfl, hK⟩ hE
                  exact ⟨_, _, rfl, hE, M.qKeep (hM0.keep hK) rfl, hI.2.put hD rfl allN rfl⟩
                · intro a w ux59 D hE hI hD hdc hp
                  have hM0 := hI.1
                  have hM : M (Old w0) w0 w [own NoB (r48.1 : (List Int)) [u26], raw b5 (Flat.enc p2), raw b3 (Flat.enc p1), raw b1 (cat [[(vI p0.Field)], Flat.enc p0.Box, Flat.enc p0.Mix, Flat.enc p0.Places, [(vI p0.Rounds)]]), osl NoB (j7.1 : List Int) u10, opt (D 8) (osl NoB (r66.1 : List Int) (tupGet (ux59 8) 0))] := hI.1
                  refine s_move hE goes_none (by decide) rfl ?_; intro a hE
                  exact ⟨_, _, rfl, hE, M.qKeep hM0 rfl, hI.2.put hD rfl allN rfl⟩
                · intro a w ux59 D hE hI hD hdc hp
                  have hM0 := hI.1
                  have hM : M (Old w0) w0 w [own NoB (r48.1 : (List Int)) [u26], raw b5 (Flat.enc p2), raw b3 (Flat.enc p1), raw b1 (cat [[(vI p0.Field)], Flat.enc p0.Box, Flat.enc p0.Mix, Flat.enc p0.Places, [(vI p0.Rounds)]]), osl NoB (j7.1 : List Int) u10, opt (D 8) (osl NoB (r66.1 : List Int) (tupGet (ux59 8) 0))] := hI.1
                  refine s_move hE goes_none (by decide) rfl ?_; intro a hE
                  exact ⟨_, _, rfl, hE, M.qKeep hM0 rfl, hI.2.put hD rfl allN rfl⟩
                · intro a w ux59 D hE hI hD hdc hp
                  have d1 : D 1 = true := hp 0 _ rfl rfl
                  have g1 := hI.2 1 d1 _ rfl
                  have f1 : ux59 1 = (Value.agg (Flat.enc r60).toArray) := g1.2
                  have d3 : D 3 = true := hp 1 _ rfl rfl
                  have g3 := hI.2 3 d3 _ rfl
                  have f3 : ux59 3 = (Value.agg (Flat.enc r62).toArray) := g3.2
                  have d5 : D 5 = true := hp 2 _ rfl rfl
                  have g5 := hI.2 5 d5 _ rfl
                  have f5 : ux59 5 = (Value.agg (Flat.enc r64).toArray) := g5.2
                  have d6 : D 6 = true := hp 3 _ rfl rfl
                  have g6 := hI.2 6 d6 _ rfl
                  have f6 : ux59 6 = (vI p3) := g6.2
                  have d7 : D 7 = true := hp 4 _ rfl rfl
                  have g7 := hI.2 7 d7 _ rfl
                  have f7 : ux59 7 = (vI p4) := g7.2
                  have hM0 := hI.1
                  have hM : M (Old w0) w0 w [own NoB (r48.1 : (List Int)) [u26], raw b5 (Flat.enc p2), raw b3 (Flat.enc p1), raw b1 (cat [[(vI p0.Field)], Flat.enc p0.Box, Flat.enc p0.Mix, Flat.enc p0.Places, [(vI p0.Rounds)]]), osl NoB (j7.1 : List Int) u10, opt (D 8) (osl NoB (r66.1 : List Int) (tupGet (ux59 8) 0))] := hI.1
                  refine s_call (vs := [(Value.agg (Flat.enc r60).toArray), (Value.agg (Flat.enc r62).toArray), (Value.agg (Flat.enc r64).toArray), (vI p3), (vI p4)]) hE goes_none (by decide) (evs_of (evsC (lk rfl f1) (evsC (lk rfl f3) (evsC (lk rfl f5) (evsC (lk rfl f6) (evsC (lk rfl f7) evsN)))))) cb55 (c_impl_DistinguishedBytes _ r60 r62 r64 p3 p4 r66 e67) ?_
                  rintro _ w a ⟨u68, rfl, hFr, hK⟩ hE
                  have hM := hM0.add hK hFr
                  exact ⟨_, _, rfl, hE, M.qFill (mk1 := []) (mk2 := []) (f := (fun v => osl NoB (r66.1 : List Int) (tupGet v 0))) hM rfl hD, hI.2.put hD rfl allN rfl⟩
                · intro a w ux59 D hE hI hD hdc hp
                  have d8 : D 8 = true := hp 0 _ rfl rfl
                  have g8 := hI.2 8 d8 _ rfl
                  have f8 : ux59 8 = (Value.tuple [(tupGet (ux59 8) 0), (vI r66.2)].toArray) := g8.2
                  have hM0 := hI.1
                  have hM : M (Old w0) w0 w [own NoB (r48.1 : (List Int)) [u26], raw b5 (Flat.enc p2), raw b3 (Flat.enc p1), raw b1 (cat [[(vI p0.Field)], Flat.enc p0.Box, Flat.enc p0.Mix, Flat.enc p0.Places, [(vI p0.Rounds)]]), osl NoB (j7.1 : List Int) u10, opt (D 8) (osl NoB (r66.1 : List Int) (tupGet (ux59 8) 0))] := hI.1
                  have hM := hM.sure (pre := [_, _, _, _, _]) d8
                  refine s_move hE goes_none (by decide) (lk rfl f8) ?_; intro a hE
                  exact ⟨_, _, rfl, hE, M.qKeep hM0 rfl, hI.2.put hD rfl (allC d8 allN) rfl⟩
                · intro a w ux59 D hE hI hD hdc hp
                  have d9 : D 9 = true := hp 0 _ rfl rfl
                  have g9 := hI.2 9 d9 _ rfl
                  have d8 : D 8 = true := g9.1 8 (show 8 ∈ [8] by decide)
                  have f9 : ux59 9 = (Value.tuple [(tupGet (ux59 8) 0), (vI r66.2)].toArray) := g9.2
                  have hM0 := hI.1
                  have hM : M (Old w0) w0 w [own NoB (r48.1 : (List Int)) [u26], raw b5 (Flat.enc p2), raw b3 (Flat.enc p1), raw b1 (cat [[(vI p0.Field)], Flat.enc p0.Box, Flat.enc p0.Mix, Flat.enc p0.Places, [(vI p0.Rounds)]]), osl NoB (j7.1 : List Int) u10, opt (D 8) (osl NoB (r66.1 : List Int) (tupGet (ux59 8) 0))] := hI.1
                  have hM := hM.sure (pre := [_, _, _, _, _]) d8
                  refine s_extract hE goes_none (by decide) (lk rfl f9) rfl ?_; intro a hE
                  exact ⟨_, _, rfl, hE, M.qKeep hM0 rfl, hI.2.put hD rfl (allC d8 allN) rfl⟩
                · intro a w ux59 D hE hI hD hdc hp
                  have d9 : D 9 = true := hp 0 _ rfl rfl
                  have g9 := hI.2 9 d9 _ rfl
                  have d8 : D 8 = true := g9.1 8 (show 8 ∈ [8] by decide)
                  have f9 : ux59 9 = (Value.tuple [(tupGet (ux59 8) 0), (vI r66.2)].toArray) := g9.2
                  have hM0 := hI.1
                  have hM : M (Old w0) w0 w [own NoB (r48.1 : (List Int)) [u26], raw b5 (Flat.enc p2), raw b3 (Flat.enc p1), raw b1 (cat [[(vI p0.Field)], Flat.enc p0.Box, Flat.enc p0.Mix, Flat.enc p0.Places, [(vI p0.Rounds)]]), osl NoB (j7.1 : List Int) u10, opt (D 8) (osl NoB (r66.1 : List Int) (tupGet (ux59 8) 0))] := hI.1
                  have hM := hM.sure (pre := [_, _, _, _, _]) d8
                  refine s_extract hE goes_none (by decide) (lk rfl f9) rfl ?_; intro a hE
                  exact ⟨_, _, rfl, hE, M.qKeep hM0 rfl, hI.2.put hD rfl allN rfl⟩
                · intro a w ux59 D hE hI hD hdc hp
                  have d10 : D 10 = true := hp 0 _ rfl rfl
                  have g10 := hI.2 10 d10 _ rfl
                  have d8 : D 8 = true := g10.1 8 (show 8 ∈ [8] by decide)
                  have f10 : ux59 10 = (tupGet (ux59 8) 0) := g10.2
                  have hM0 := hI.1
                  have hM : M (Old w0) w0 w [own NoB (r48.1 : (List Int)) [u26], raw b5 (Flat.enc p2), raw b3 (Flat.enc p1), raw b1 (cat [[(vI p0.Field)], Flat.enc p0.Box, Flat.enc p0.Mix, Flat.enc p0.Places, [(vI p0.Rounds)]]), osl NoB (j7.1 : List Int) u10, opt (D 8) (osl NoB (r66.1 : List Int) (tupGet (ux59 8) 0))] := hI.1
                  have hM := hM.sure (pre := [_, _, _, _, _]) d8
                  refine s_assign hE goes_none (by decide) (lk rfl f10) ?_; intro a hE
                  exact ⟨_, _, rfl, hE, M.qKeep hM0 rfl, hI.2.put hD rfl (allC d8 allN) rfl⟩
                · intro a w ux59 D hE hI hall
                  have hM : M (Old w0) w0 w [own NoB (r48.1 : (List Int)) [u26], raw b5 (Flat.enc p2), raw b3 (Flat.enc p1), raw b1 (cat [[(vI p0.Field)], Flat.enc p0.Box, Flat.enc p0.Mix, Flat.enc p0.Places, [(vI p0.Rounds)]]), osl NoB (j7.1 : List Int) u10, opt (D 8) (osl NoB (r66.1 : List Int) (tupGet (ux59 8) 0))] := hI.1
                  have d0 : D 0 = true := hall 0 (by decide)
                  have d1 : D 1 = true := hall 1 (by decide)
                  have d2 : D 2 = true := hall 2 (by decide)
                  have d3 : D 3 = true := hall 3 (by decide)
                  have d4 : D 4 = true := hall 4 (by decide)
                  have d5 : D 5 = true := hall 5 (by decide)
                  have d6 : D 6 = true := hall 6 (by decide)
                  have d7 : D 7 = true := hall 7 (by decide)
                  have d8 : D 8 = true := hall 8 (by decide)
                  have d9 : D 9 = true := hall 9 (by decide)
                  have d10 : D 10 = true := hall 10 (by decide)
                  have d11 : D 11 = true := hall 11 (by decide)
                  have d12 : D 12 = true := hall 12 (by decide)
                  have f0 : ux59 0 = (Value.agg (Flat.enc p0).toArray) := (hI.2 0 d0 _ rfl).2
                  have f1 : ux59 1 = (Value.agg (Flat.enc r60).toArray) := (hI.2 1 d1 _ rfl).2
                  have f2 : ux59 2 = (Value.agg (Flat.enc p1).toArray) := (hI.2 2 d2 _ rfl).2
                  have f3 : ux59 3 = (Value.agg (Flat.enc r62).toArray) := (hI.2 3 d3 _ rfl).2
                  have f4 : ux59 4 = (Value.agg (Flat.enc p2).toArray) := (hI.2 4 d4 _ rfl).2
                  have f5 : ux59 5 = (Value.agg (Flat.enc r64).toArray) := (hI.2 5 d5 _ rfl).2
                  have f6 : ux59 6 = (vI p3) := (hI.2 6 d6 _ rfl).2
                  have f7 : ux59 7 = (vI p4) := (hI.2 7 d7 _ rfl).2
                  have f8 : ux59 8 = (Value.tuple [(tupGet (ux59 8) 0), (vI r66.2)].toArray) := (hI.2 8 d8 _ rfl).2
                  have f9 : ux59 9 = (Value.tuple [(tupGet (ux59 8) 0), (vI r66.2)].toArray) := (hI.2 9 d9 _ rfl).2
                  have f10 : ux59 10 = (tupGet (ux59 8) 0) := (hI.2 10 d10 _ rfl).2
                  have f11 : ux59 11 = (vI r66.2) := (hI.2 11 d11 _ rfl).2
                  have f12 : ux59 12 = (tupGet (ux59 8) 0) := (hI.2 12 d12 _ rfl).2
                  have hM := hM.sure (pre := [_, _, _, _, _]) d8
                  have hE := hE.sub (e' := [(64, (Value.agg (Flat.enc p0).toArray)), (65, (Value.agg (Flat.enc r60).toArray)), (66, (Value.agg (Flat.enc p1).toArray)), (67, (Value.agg (Flat.enc r62).toArray)), (68, (Value.agg (Flat.enc p2).toArray)), (69, (Value.agg (Flat.enc r64).toArray)), (70, (vI p3)), (71, (vI p4)), (73, (tupGet (ux59 8) 0)), (74, (vI r66.2)), (17, (tupGet (ux59 8) 0)), (3, (vI p3)), (4, (vI p4)), (5, (ptr b1 0)), (6, (ptr b3 0)), (7, (ptr b5 0)), (11, u10), (12, (vI j7.2)), (13, u26), (15, (vI r48.2)), (16, (vI r50)), (51, (vT j39)), (52, u26), (53, (vI 1)), (54, (vI r48.2)), (55, u26), (56, (vI 1)), (57, (vI r50)), (58, (vI r50)), (59, (vT (decide (r50 < 0)))), (60, (vI r50)), (61, (vI r48.2)), (62, (vT (r50 != r48.2)))]) ⟨lk rfl f0, lk rfl f1, lk rfl f2, lk rfl f3, lk rfl f4, lk rfl f5, lk rfl f6, lk rfl f7, lk rfl f10, lk rfl f11, lk rfl f12, rfl, rfl, rfl, rfl, rfl, rfl, rfl, rfl, rfl, rfl, rfl, rfl, rfl, rfl, rfl, rfl, rfl, rfl, rfl, rfl, rfl, rfl, trivial⟩
                  refine s_assign hE goes_none (by decide) rfl ?_; intro a hE
                  refine c_fin0 ?_
                  have ht69 := Option.some.inj hl55
                  subst ht69
                  refine c_mid ?_
                  have hM := hM.pull (pre := [_, _, _, _, _])
                  have hM := hM.pull (pre := [_, _, _, _, _])
                  have hM := hM.pull (pre := [_, _])
                  have hM := M.fst (l := [_, _, _]) hM
                  exact ⟨(tupGet (ux59 8) 0), hE.sub ⟨rfl, rfl, rfl, rfl, rfl, rfl, trivial⟩, hM⟩
              · skip
                rintro a w ⟨u57, hE, hM⟩
                refine wp_seq ?_
                obtain ⟨j70, hl71, hF72⟩ := bind_some hF56
                refine c_join (fun a w => Env 92 a [(13, u26), (15, (vI r48.2)), (83, (vT j70))] ∧ M (Old w0) w0 w [own NoB (r48.1 : (List Int)) [u26]]) ?_ ?_
                · skip
                  refine wp_region_lit ?_
                  refine s_move hE goes_none (by decide) rfl ?_; intro a hE
                  refine s_move hE goes_none (by decide) rfl ?_; intro a hE
                  obtain ⟨r73, e74, hl71⟩ := bind_some hl71
                  refine s_call (vs := [u57, u10]) hE goes_none (by decide) rfl cb36 (c_laws_eqInt64S _ j54.1 u57 (hM.sl (pre := [_, _]) noB) j7.1 u10 (hM.sl (pre := [_]) noB) r73 e74) ?_
                  rintro v w a ⟨rfl, hK⟩ hE
                  have hM := hM.keep hK
                  refine s_not hE goes_none (by decide) rfl ?_; intro a hE
                  refine s_move hE goes_none (by decide) rfl ?_; intro a hE
                  refine splitB (!r73) (fun hb75 => ?_) (fun hb75 => ?_)
                  · have hl71 := ite_t hl71 hb75
                    refine s_skip hE rfl (lkb rfl hb75) rfl (by decide) ?_; intro a hE
                    refine s_skip hE rfl (lkb rfl hb75) rfl (by decide) ?_; intro a hE
                    refine s_skip hE rfl (lkb rfl hb75) rfl (by decide) ?_; intro a hE
                    refine s_pickT hE goes_none (by decide) (lkb rfl hb75) rfl ?_; intro a hE
                    refine c_fin0 ?_
                    have ht76 := Option.some.inj hl71
                    subst ht76
                    refine c_mid ?_
                    have hM := M.fst (l := [_]) hM
                    exact ⟨hE.sub ⟨rfl, rfl, rfl, trivial⟩, hM⟩
                  · have hl71 := ite_f hl71 hb75
                    refine s_move hE (goes_yes hE rfl (lkb rfl hb75)) (by decide) rfl ?_; intro a hE
                    refine s_move hE (goes_yes hE rfl (lkb rfl hb75)) (by decide) rfl ?_; intro a hE
                    refine s_int hE (goes_yes hE rfl (lkb rfl hb75)) (by decide) rfl rfl rfl ?_; intro a hE
                    refine s_pickF hE goes_none (by decide) (lkb rfl hb75) rfl ?_; intro a hE
                    refine c_fin0 ?_
                    have ht77 := Option.some.inj hl71
                    subst ht77
                    refine c_mid ?_
                    have hM := M.fst (l := [_]) hM
                    exact ⟨hE.sub ⟨rfl, rfl, rfl, trivial⟩, hM⟩
                · skip
                  rintro a w ⟨hE, hM⟩
                  refine c_cond hE rfl ?_ ?_
                  · intro hb78
                    have hF72 := ite_t hF72 hb78
                    refine c_region ?_
                    refine s_assign hE goes_none (by decide) rfl ?_; intro a hE
                    refine c_fin ?_
                    have hr := Option.some.inj hF72
                    subst hr
                    have hM := M.fst (l := []) hM
                    exact wp_ret (r_then (k_ret1 hE rfl (res_tmp hE rfl) ⟨_, rfl, rfl, hM.kept⟩))
                  · intro hb78
                    have hF72 := ite_f hF72 hb78
                    refine wp_skip ?_
                    refine c_nx ?_
                    refine c_region ?_
                    refine s_assign hE goes_none (by decide) rfl ?_; intro a hE
                    refine c_fin ?_
                    refine c_region ?_
                    refine s_move hE goes_none (by decide) rfl ?_; intro a hE
                    refine s_move hE goes_none (by decide) rfl ?_; intro a hE
                    obtain ⟨r79, e80, hF72⟩ := bind_some hF72
                    refine s_call (vs := [u26, (vI 1)]) hE goes_none (by decide) rfl cb40 (c_laws_heldInt64S _ r48.1 u26 (hM.ro (pre := []) noB) 1 r79 e80) ?_
                    rintro v w a ⟨rfl, hK⟩ hE
                    have hM := hM.keep hK
                    refine s_assign hE goes_none (by decide) rfl ?_; intro a hE
                    refine c_fin ?_
                    refine wp_seq ?_
                    refine c_region ?_
                    refine s_move hE goes_none (by decide) rfl ?_; intro a hE
                    refine s_int hE goes_none (by decide) rfl rfl rfl ?_; intro a hE
                    refine c_fin ?_
                    refine c_cond hE rfl ?_ ?_
                    · intro hb81
                      have hF72 := ite_t hF72 hb81
                      refine c_region ?_
                      refine s_assign hE goes_none (by decide) rfl ?_; intro a hE
                      refine c_fin ?_
                      have hr := Option.some.inj hF72
                      subst hr
                      have hM := M.fst (l := []) hM
                      exact wp_ret (r_then (k_ret1 hE rfl (res_tmp hE rfl) ⟨_, rfl, rfl, hM.kept⟩))
                    · intro hb81
                      have hF72 := ite_f hF72 hb81
                      refine wp_skip ?_
                      refine c_nx ?_
                      refine wp_seq ?_
                      refine c_region ?_
                      refine s_move hE goes_none (by decide) rfl ?_; intro a hE
                      refine s_move hE goes_none (by decide) rfl ?_; intro a hE
                      refine s_int hE goes_none (by decide) rfl rfl rfl ?_; intro a hE
                      refine c_fin ?_
                      refine c_cond hE rfl ?_ ?_
                      · intro hb82
                        have hF72 := ite_t hF72 hb82
                        refine c_region ?_
                        refine s_assign hE goes_none (by decide) rfl ?_; intro a hE
                        refine c_fin ?_
                        have hr := Option.some.inj hF72
                        subst hr
                        have hM := M.fst (l := []) hM
                        exact wp_ret (r_then (k_ret1 hE rfl (res_tmp hE rfl) ⟨_, rfl, rfl, hM.kept⟩))
                      · intro hb82
                        have hF72 := ite_f hF72 hb82
                        refine wp_skip ?_
                        refine c_nx ?_
                        refine c_region ?_
                        refine s_assign hE goes_none (by decide) rfl ?_; intro a hE
                        refine c_fin ?_
                        have hr := Option.some.inj hF72
                        subst hr
                        have hM := M.fst (l := []) hM
                        exact wp_ret (k_ret1 hE rfl (res_tmp hE rfl) ⟨_, rfl, rfl, hM.kept⟩)
end Go.Proofs.Ythlmkdjednppkaa
