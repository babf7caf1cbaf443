/- The walk of what the law reaches: contracts of functions. -/
import Derived.Test.YtifdeoikcebbjaaC1
set_option linter.unusedVariables false
set_option linter.unusedSimpArgs false
namespace Go.Proofs.Ytifdeoikcebbjaa
open Go
set_option maxRecDepth 20000 in
set_option maxHeartbeats 400000 in
theorem c_spec_l08Absorb (w0 : World) (p0 : GCipher) (p1 : (Vector UInt8 32)) (p2 : (Vector UInt8 16)) (r : (Vector UInt8 32)) (hF : F_spec_l08Absorb p0 p1 p2 = some r) :
    Calls Try.prog 85 [(Value.agg (Flat.enc p0).toArray), (Value.agg (Flat.enc p1).toArray), (Value.agg (Flat.enc p2).toArray)].toArray w0 (fun en w' => ∃ v, en = .returned v ∧ (v = (Value.agg (Flat.enc r).toArray) ∧ Kept (Old w0) w0 w')) := by
  refine c_enter (n := 59) Try.func85 rfl rfl (Nat.le_of_ble_eq_true rfl) rfl ?_
  intro a hE
  have hM := M.start w0
  unfold F_spec_l08Absorb at hF
  refine c_region ?_
  refine s_box (cs := cat [[(vI p0.Field)], Flat.enc p0.Box, Flat.enc p0.Mix, Flat.enc p0.Places, [(vI p0.Rounds)]]) hE hM goes_none (by decide) rfl rfl ?_; intro b1 w a hM hE
  refine s_box (cs := Flat.enc p1) hE hM goes_none (by decide) rfl rfl ?_; intro b3 w a hM hE
  refine s_box (cs := Flat.enc p2) hE hM goes_none (by decide) rfl rfl ?_; intro b5 w a hM hE
  refine s_alloc hE hM goes_none (by decide) ty25 ?_; intro b7 w a hM hE
  refine c_fin ?_
  refine c_region ?_
  refine s_loadA (cs := Flat.enc p1) hE goes_none (by decide) rfl ty25 rfl (hM.rawAt (pre := [_, _])) (Flat.len _) ?_; intro a hE
  obtain ⟨r9, e10, hF⟩ := bind_some hF
  refine s_call (vs := [(Value.agg (Flat.enc p1).toArray)]) hE goes_none (by decide) rfl cb100 (c_spec_l08Halves _ p1 r9 e10) ?_
  rintro v w a ⟨rfl, hK⟩ hE
  have hM := hM.keep hK
  refine s_move hE goes_none (by decide) rfl ?_; intro a hE
  refine s_extract hE goes_none (by decide) rfl rfl ?_; intro a hE
  refine s_extract hE goes_none (by decide) rfl rfl ?_; intro a hE
  refine s_alloc hE hM goes_none (by decide) ty39 ?_; intro b11 w a hM hE
  refine s_alloc hE hM goes_none (by decide) ty39 ?_; intro b13 w a hM hE
  have hM := hM.pull (pre := [_])
  refine s_store (seg := Flat.enc r9.1) (cs' := Flat.enc r9.1) hE hM goes_none rfl rfl rfl ty39 (Flat.len _) (Nat.le_of_eq ((Nat.zero_add _).trans (Eq.trans (Flat.len _) (Eq.symm (Flat.len _))))) (Flat.cell _) (splice_all (Eq.trans (Flat.len _) (Eq.symm (Flat.len _)))) ?_; intro w a hM hE
  have hM := hM.pull (pre := [_])
  refine s_store (seg := Flat.enc r9.2) (cs' := Flat.enc r9.2) hE hM goes_none rfl rfl rfl ty39 (Flat.len _) (Nat.le_of_eq ((Nat.zero_add _).trans (Eq.trans (Flat.len _) (Eq.symm (Flat.len _))))) (Flat.cell _) (splice_all (Eq.trans (Flat.len _) (Eq.symm (Flat.len _)))) ?_; intro w a hM hE
  refine c_fin ?_
  refine wp_seq ?_
  obtain ⟨r16, e17, hF⟩ := bind_some hF
  obtain ⟨r18, e19, hF⟩ := bind_some hF
  refine c_draw3 (n := 59) (hd := [_, _, _, _, _, _, _, _]) (tl := [_, _]) hmix rfl rfl [20, 21, 22, 23, 24, 25, 9, 10] (by decide) (fun D u w => M (Old w0) w0 w ([raw b13 (Flat.enc r9.2), raw b11 (Flat.enc r9.1), raw b7 (Flat.enc (Vector.replicate 32 (0 : UInt8))), raw b5 (Flat.enc p2), raw b3 (Flat.enc p1), raw b1 (cat [[(vI p0.Field)], Flat.enc p0.Box, Flat.enc p0.Mix, Flat.enc p0.Places, [(vI p0.Rounds)]])] ++ qL ([mkO 6 (fun v => rawP v (Flat.enc (Vector.replicate 16 (0 : UInt8)))), mkO 7 (fun v => rawP v (Flat.enc (Vector.replicate 16 (0 : UInt8))))] : Mk) D u) ∧ GOk ([([], fun us v => v = (Value.agg (Flat.enc r9.1).toArray)), ([], fun us v => v = (Value.agg (Flat.enc p2).toArray)), ([], fun us v => v = (Value.agg (Flat.enc r16).toArray)), ([], fun us v => v = (Value.agg (Flat.enc r9.2).toArray)), ([], fun us v => v = (Value.agg (Flat.enc p2).toArray)), ([], fun us v => v = (Value.agg (Flat.enc r18).toArray)), ([], fun us v => True), ([], fun us v => True)] : Gs) D u) hE (fun u => ⟨M.qE (M.qE (M.q0 hM.drew u) emO) emO, gok0⟩) (steps_of (steps_cons ?_ (steps_cons ?_ (steps_cons ?_ (steps_cons ?_ (steps_cons ?_ (steps_cons ?_ (steps_cons ?_ (steps_cons ?_ steps_nil))))))))) ?_
  · intro a w ux15 D hE hI hD hdc hp
    have hM0 := hI.1
    have hM : M (Old w0) w0 w [raw b13 (Flat.enc r9.2), raw b11 (Flat.enc r9.1), raw b7 (Flat.enc (Vector.replicate 32 (0 : UInt8))), raw b5 (Flat.enc p2), raw b3 (Flat.enc p1), raw b1 (cat [[(vI p0.Field)], Flat.enc p0.Box, Flat.enc p0.Mix, Flat.enc p0.Places, [(vI p0.Rounds)]]), opt (D 6) (rawP (ux15 6) (Flat.enc (Vector.replicate 16 (0 : UInt8)))), opt (D 7) (rawP (ux15 7) (Flat.enc (Vector.replicate 16 (0 : UInt8))))] := hI.1
    refine s_loadA (cs := Flat.enc r9.1) hE goes_none (by decide) rfl ty39 rfl (hM.rawAt (pre := [_])) (Flat.len _) ?_; intro a hE
    exact ⟨_, _, rfl, hE, M.qKeep hM0 rfl, hI.2.put hD rfl allN rfl⟩
  · intro a w ux15 D hE hI hD hdc hp
    have hM0 := hI.1
    have hM : M (Old w0) w0 w [raw b13 (Flat.enc r9.2), raw b11 (Flat.enc r9.1), raw b7 (Flat.enc (Vector.replicate 32 (0 : UInt8))), raw b5 (Flat.enc p2), raw b3 (Flat.enc p1), raw b1 (cat [[(vI p0.Field)], Flat.enc p0.Box, Flat.enc p0.Mix, Flat.enc p0.Places, [(vI p0.Rounds)]]), opt (D 6) (rawP (ux15 6) (Flat.enc (Vector.replicate 16 (0 : UInt8)))), opt (D 7) (rawP (ux15 7) (Flat.enc (Vector.replicate 16 (0 : UInt8))))] := hI.1
    refine s_loadA (cs := Flat.enc p2) hE goes_none (by decide) rfl ty39 rfl (hM.rawAt (pre := [_, _, _])) (Flat.len _) ?_; intro a hE
    exact ⟨_, _, rfl, hE, M.qKeep hM0 rfl, hI.2.put hD rfl allN rfl⟩
  · intro a w ux15 D hE hI hD hdc hp
    have d0 : D 0 = true := hp 0 _ rfl rfl
    have g0 := hI.2 0 d0 _ rfl
    have f0 : ux15 0 = (Value.agg (Flat.enc r9.1).toArray) := g0.2
    have d1 : D 1 = true := hp 1 _ rfl rfl
    have g1 := hI.2 1 d1 _ rfl
    have f1 : ux15 1 = (Value.agg (Flat.enc p2).toArray) := g1.2
    have hM0 := hI.1
    have hM : M (Old w0) w0 w [raw b13 (Flat.enc r9.2), raw b11 (Flat.enc r9.1), raw b7 (Flat.enc (Vector.replicate 32 (0 : UInt8))), raw b5 (Flat.enc p2), raw b3 (Flat.enc p1), raw b1 (cat [[(vI p0.Field)], Flat.enc p0.Box, Flat.enc p0.Mix, Flat.enc p0.Places, [(vI p0.Rounds)]]), opt (D 6) (rawP (ux15 6) (Flat.enc (Vector.replicate 16 (0 : UInt8)))), opt (D 7) (rawP (ux15 7) (Flat.enc (Vector.replicate 16 (0 : UInt8))))] := hI.1
    refine s_call (vs := [(Value.agg (Flat.enc r9.1).toArray), (Value.agg (Flat.enc p2).toArray)]) hE goes_none (by decide) (evs_of (evsC (lk rfl f0) (evsC (lk rfl f1) evsN))) cb101 (c_spec_l01Xor _ r9.1 p2 r16 e17) ?_
    rintro v w a ⟨rfl, hK⟩ hE
    exact ⟨_, _, rfl, hE, M.qKeep (hM0.keep hK) rfl, hI.2.put hD rfl allN rfl⟩
  · intro a w ux15 D hE hI hD hdc hp
    have hM0 := hI.1
    have hM : M (Old w0) w0 w [raw b13 (Flat.enc r9.2), raw b11 (Flat.enc r9.1), raw b7 (Flat.enc (Vector.replicate 32 (0 : UInt8))), raw b5 (Flat.enc p2), raw b3 (Flat.enc p1), raw b1 (cat [[(vI p0.Field)], Flat.enc p0.Box, Flat.enc p0.Mix, Flat.enc p0.Places, [(vI p0.Rounds)]]), opt (D 6) (rawP (ux15 6) (Flat.enc (Vector.replicate 16 (0 : UInt8)))), opt (D 7) (rawP (ux15 7) (Flat.enc (Vector.replicate 16 (0 : UInt8))))] := hI.1
    refine s_loadA (cs := Flat.enc r9.2) hE goes_none (by decide) rfl ty39 rfl (hM.rawAt (pre := [])) (Flat.len _) ?_; intro a hE
    exact ⟨_, _, rfl, hE, M.qKeep hM0 rfl, hI.2.put hD rfl allN rfl⟩
  · intro a w ux15 D hE hI hD hdc hp
    have hM0 := hI.1
    have hM : M (Old w0) w0 w [raw b13 (Flat.enc r9.2), raw b11 (Flat.enc r9.1), raw b7 (Flat.enc (Vector.replicate 32 (0 : UInt8))), raw b5 (Flat.enc p2), raw b3 (Flat.enc p1), raw b1 (cat [[(vI p0.Field)], Flat.enc p0.Box, Flat.enc p0.Mix, Flat.enc p0.Places, [(vI p0.Rounds)]]), opt (D 6) (rawP (ux15 6) (Flat.enc (Vector.replicate 16 (0 : UInt8)))), opt (D 7) (rawP (ux15 7) (Flat.enc (Vector.replicate 16 (0 : UInt8))))] := hI.1
    refine s_loadA (cs := Flat.enc p2) hE goes_none (by decide) rfl ty39 rfl (hM.rawAt (pre := [_, _, _])) (Flat.len _) ?_; intro a hE
    exact ⟨_, _, rfl, hE, M.qKeep hM0 rfl, hI.2.put hD rfl allN rfl⟩
  · intro a w ux15 D hE hI hD hdc hp
    have d3 : D 3 = true := hp 0 _ rfl rfl
    have g3 := hI.2 3 d3 _ rfl
    have f3 : ux15 3 = (Value.agg (Flat.enc r9.2).toArray) := g3.2
    have d4 : D 4 = true := hp 1 _ rfl rfl
    have g4 := hI.2 4 d4 _ rfl
    have f4 : ux15 4 = (Value.agg (Flat.enc p2).toArray) := g4.2
    have hM0 := hI.1
    have hM : M (Old w0) w0 w [raw b13 (Flat.enc r9.2), raw b11 (Flat.enc r9.1), raw b7 (Flat.enc (Vector.replicate 32 (0 : UInt8))), raw b5 (Flat.enc p2), raw b3 (Flat.enc p1), raw b1 (cat [[(vI p0.Field)], Flat.enc p0.Box, Flat.enc p0.Mix, Flat.enc p0.Places, [(vI p0.Rounds)]]), opt (D 6) (rawP (ux15 6) (Flat.enc (Vector.replicate 16 (0 : UInt8)))), opt (D 7) (rawP (ux15 7) (Flat.enc (Vector.replicate 16 (0 : UInt8))))] := hI.1
    refine s_call (vs := [(Value.agg (Flat.enc r9.2).toArray), (Value.agg (Flat.enc p2).toArray)]) hE goes_none (by decide) (evs_of (evsC (lk rfl f3) (evsC (lk rfl f4) evsN))) cb101 (c_spec_l01Xor _ r9.2 p2 r18 e19) ?_
    rintro v w a ⟨rfl, hK⟩ hE
    exact ⟨_, _, rfl, hE, M.qKeep (hM0.keep hK) rfl, hI.2.put hD rfl allN rfl⟩
  · intro a w ux15 D hE hI hD hdc hp
    have hM0 := hI.1
    have hM : M (Old w0) w0 w [raw b13 (Flat.enc r9.2), raw b11 (Flat.enc r9.1), raw b7 (Flat.enc (Vector.replicate 32 (0 : UInt8))), raw b5 (Flat.enc p2), raw b3 (Flat.enc p1), raw b1 (cat [[(vI p0.Field)], Flat.enc p0.Box, Flat.enc p0.Mix, Flat.enc p0.Places, [(vI p0.Rounds)]]), opt (D 6) (rawP (ux15 6) (Flat.enc (Vector.replicate 16 (0 : UInt8)))), opt (D 7) (rawP (ux15 7) (Flat.enc (Vector.replicate 16 (0 : UInt8))))] := hI.1
    refine s_alloc hE hM goes_none (by decide) ty39 ?_; intro b20 w a hM hE
    have hM := hM.pack1 (it := rawP _ (Flat.enc (Vector.replicate 16 (0 : UInt8)))) (fun w w' fp ⟨b', e, k⟩ hb => ⟨b', e, raw_loc w w' fp k hb⟩) (fun fp k => ⟨_, rfl, k⟩)
    exact ⟨_, _, rfl, hE, M.qFill (mk1 := []) (mk2 := [_]) (f := fun v => rawP v (Flat.enc (Vector.replicate 16 (0 : UInt8)))) hM rfl hD, hI.2.put hD rfl allN trivial⟩
  · intro a w ux15 D hE hI hD hdc hp
    have hM0 := hI.1
    have hM : M (Old w0) w0 w [raw b13 (Flat.enc r9.2), raw b11 (Flat.enc r9.1), raw b7 (Flat.enc (Vector.replicate 32 (0 : UInt8))), raw b5 (Flat.enc p2), raw b3 (Flat.enc p1), raw b1 (cat [[(vI p0.Field)], Flat.enc p0.Box, Flat.enc p0.Mix, Flat.enc p0.Places, [(vI p0.Rounds)]]), opt (D 6) (rawP (ux15 6) (Flat.enc (Vector.replicate 16 (0 : UInt8)))), opt (D 7) (rawP (ux15 7) (Flat.enc (Vector.replicate 16 (0 : UInt8))))] := hI.1
    refine s_alloc hE hM goes_none (by decide) ty39 ?_; intro b22 w a hM hE
    have hM := hM.pack1 (it := rawP _ (Flat.enc (Vector.replicate 16 (0 : UInt8)))) (fun w w' fp ⟨b', e, k⟩ hb => ⟨b', e, raw_loc w w' fp k hb⟩) (fun fp k => ⟨_, rfl, k⟩)
    exact ⟨_, _, rfl, hE, M.qFill (mk1 := [_]) (mk2 := []) (f := fun v => rawP v (Flat.enc (Vector.replicate 16 (0 : UInt8)))) hM rfl hD, hI.2.put hD rfl allN trivial⟩
  · intro a w ux15 D hE hI hall
    have hM : M (Old w0) w0 w [raw b13 (Flat.enc r9.2), raw b11 (Flat.enc r9.1), raw b7 (Flat.enc (Vector.replicate 32 (0 : UInt8))), raw b5 (Flat.enc p2), raw b3 (Flat.enc p1), raw b1 (cat [[(vI p0.Field)], Flat.enc p0.Box, Flat.enc p0.Mix, Flat.enc p0.Places, [(vI p0.Rounds)]]), opt (D 6) (rawP (ux15 6) (Flat.enc (Vector.replicate 16 (0 : UInt8)))), opt (D 7) (rawP (ux15 7) (Flat.enc (Vector.replicate 16 (0 : UInt8))))] := hI.1
    have d0 : D 0 = true := hall 0 (by decide)
    have d1 : D 1 = true := hall 1 (by decide)
    have d2 : D 2 = true := hall 2 (by decide)
    have d3 : D 3 = true := hall 3 (by decide)
    have d4 : D 4 = true := hall 4 (by decide)
    have d5 : D 5 = true := hall 5 (by decide)
    have d6 : D 6 = true := hall 6 (by decide)
    have d7 : D 7 = true := hall 7 (by decide)
    have f0 : ux15 0 = (Value.agg (Flat.enc r9.1).toArray) := (hI.2 0 d0 _ rfl).2
    have f1 : ux15 1 = (Value.agg (Flat.enc p2).toArray) := (hI.2 1 d1 _ rfl).2
    have f2 : ux15 2 = (Value.agg (Flat.enc r16).toArray) := (hI.2 2 d2 _ rfl).2
    have f3 : ux15 3 = (Value.agg (Flat.enc r9.2).toArray) := (hI.2 3 d3 _ rfl).2
    have f4 : ux15 4 = (Value.agg (Flat.enc p2).toArray) := (hI.2 4 d4 _ rfl).2
    have f5 : ux15 5 = (Value.agg (Flat.enc r18).toArray) := (hI.2 5 d5 _ rfl).2
    have hM := (hM.sure (pre := [_, _, _, _, _, _]) d6).pull
    obtain ⟨_, ⟨b24, f25, _⟩, _⟩ := hM.head
    have hM := hM.pack1 raw_loc (it := raw b24 (Flat.enc (Vector.replicate 16 (0 : UInt8)))) (fun fp ⟨b2, e2, k2⟩ => by rw [f25] at e2; simp [ptr] at e2; subst e2; exact k2)
    have hM := (hM.sure (pre := [_, _, _, _, _, _, _]) d7).pull
    obtain ⟨_, ⟨b26, f27, _⟩, _⟩ := hM.head
    have hM := hM.pack1 raw_loc (it := raw b26 (Flat.enc (Vector.replicate 16 (0 : UInt8)))) (fun fp ⟨b2, e2, k2⟩ => by rw [f27] at e2; simp [ptr] at e2; subst e2; exact k2)
    have hE := hE.sub (e' := [(20, (Value.agg (Flat.enc r9.1).toArray)), (21, (Value.agg (Flat.enc p2).toArray)), (22, (Value.agg (Flat.enc r16).toArray)), (23, (Value.agg (Flat.enc r9.2).toArray)), (24, (Value.agg (Flat.enc p2).toArray)), (25, (Value.agg (Flat.enc r18).toArray)), (9, (ptr b24 0)), (10, (ptr b26 0)), (0, (Value.agg (Flat.enc p0).toArray)), (1, (Value.agg (Flat.enc p1).toArray)), (2, (Value.agg (Flat.enc p2).toArray)), (3, (ptr b1 0)), (4, (ptr b3 0)), (5, (ptr b5 0)), (6, (ptr b7 0)), (7, (ptr b11 0)), (8, (ptr b13 0)), (15, (Value.tuple [(Value.agg (Flat.enc r9.1).toArray), (Value.agg (Flat.enc r9.2).toArray)].toArray)), (16, (Value.agg (Flat.enc p1).toArray)), (17, (Value.tuple [(Value.agg (Flat.enc r9.1).toArray), (Value.agg (Flat.enc r9.2).toArray)].toArray)), (18, (Value.agg (Flat.enc r9.1).toArray)), (19, (Value.agg (Flat.enc r9.2).toArray))]) ⟨lk rfl f0, lk rfl f1, lk rfl f2, lk rfl f3, lk rfl f4, lk rfl f5, lk rfl f25, lk rfl f27, rfl, rfl, rfl, rfl, rfl, rfl, rfl, rfl, rfl, rfl, rfl, rfl, rfl, rfl, trivial⟩
    have hM := hM.pull (pre := [_])
    refine s_store (seg := Flat.enc r16) (cs' := Flat.enc r16) hE hM goes_none rfl rfl rfl ty39 (Flat.len _) (Nat.le_of_eq ((Nat.zero_add _).trans (Eq.trans (Flat.len _) (Eq.symm (Flat.len _))))) (Flat.cell _) (splice_all (Eq.trans (Flat.len _) (Eq.symm (Flat.len _)))) ?_; intro w a hM hE
    have hM := hM.pull (pre := [_])
    refine s_store (seg := Flat.enc r18) (cs' := Flat.enc r18) hE hM goes_none rfl rfl rfl ty39 (Flat.len _) (Nat.le_of_eq ((Nat.zero_add _).trans (Eq.trans (Flat.len _) (Eq.symm (Flat.len _))))) (Flat.cell _) (splice_all (Eq.trans (Flat.len _) (Eq.symm (Flat.len _)))) ?_; intro w a hM hE
    refine c_fin0 ?_
    refine c_nx ?_
    refine wp_seq ?_
    obtain ⟨r29, e30, hF⟩ := bind_some hF
    obtain ⟨r31, e32, hF⟩ := bind_some hF
    refine c_draw3 (n := 59) (hd := [_, _, _, _, _, _, _, _, _]) (tl := [_]) hmix rfl rfl [26, 27, 28, 29, 30, 31, 32, 33, 11] (by decide) (fun D u w => M (Old w0) w0 w ([raw b26 (Flat.enc r18), raw b24 (Flat.enc r16), raw b13 (Flat.enc r9.2), raw b11 (Flat.enc r9.1), raw b7 (Flat.enc (Vector.replicate 32 (0 : UInt8))), raw b5 (Flat.enc p2), raw b3 (Flat.enc p1), raw b1 (cat [[(vI p0.Field)], Flat.enc p0.Box, Flat.enc p0.Mix, Flat.enc p0.Places, [(vI p0.Rounds)]])] ++ qL ([mkO 8 (fun v => rawP v (Flat.enc (Vector.replicate 16 (0 : UInt8))))] : Mk) D u) ∧ GOk ([([], fun us v => v = (Value.agg (Flat.enc p0).toArray)), ([], fun us v => v = (Value.agg (Flat.enc r9.2).toArray)), ([], fun us v => v = (Value.agg (Flat.enc r16).toArray)), ([], fun us v => v = (ptr b1 (0 + 289))), ([], fun us v => v = (vI p0.Rounds)), ([], fun us v => v = (Value.agg (Flat.enc r29).toArray)), ([], fun us v => v = (Value.agg (Flat.enc r16).toArray)), ([], fun us v => v = (Value.agg (Flat.enc r31).toArray)), ([], fun us v => True)] : Gs) D u) hE (fun u => ⟨M.qE (M.q0 hM.drew u) emO, gok0⟩) (steps_of (steps_cons ?_ (steps_cons ?_ (steps_cons ?_ (steps_cons ?_ (steps_cons ?_ (steps_cons ?_ (steps_cons ?_ (steps_cons ?_ (steps_cons ?_ steps_nil)))))))))) ?_
    · intro a w ux28 D hE hI hD hdc hp
      have hM0 := hI.1
      have hM : M (Old w0) w0 w [raw b26 (Flat.enc r18), raw b24 (Flat.enc r16), raw b13 (Flat.enc r9.2), raw b11 (Flat.enc r9.1), raw b7 (Flat.enc (Vector.replicate 32 (0 : UInt8))), raw b5 (Flat.enc p2), raw b3 (Flat.enc p1), raw b1 (cat [[(vI p0.Field)], Flat.enc p0.Box, Flat.enc p0.Mix, Flat.enc p0.Places, [(vI p0.Rounds)]]), opt (D 8) (rawP (ux28 8) (Flat.enc (Vector.replicate 16 (0 : UInt8))))] := hI.1
      refine s_loadA (cs := Flat.enc p0) hE goes_none (by decide) rfl ty103 rfl (hM.rawAt (pre := [_, _, _, _, _, _, _])) (cat_len (cl1 (n := 1) (m := 289) rfl (cl1 (n := 256) (m := 33) (Flat.len _) (cl1 (n := 16) (m := 17) (Flat.len _) (cl1 (n := 16) (m := 1) (Flat.len _) (cl1 (n := 1) (m := 0) rfl cl0)))))) ?_; intro a hE
      exact ⟨_, _, rfl, hE, M.qKeep hM0 rfl, hI.2.put hD rfl allN rfl⟩
    · intro a w ux28 D hE hI hD hdc hp
      have hM0 := hI.1
      have hM : M (Old w0) w0 w [raw b26 (Flat.enc r18), raw b24 (Flat.enc r16), raw b13 (Flat.enc r9.2), raw b11 (Flat.enc r9.1), raw b7 (Flat.enc (Vector.replicate 32 (0 : UInt8))), raw b5 (Flat.enc p2), raw b3 (Flat.enc p1), raw b1 (cat [[(vI p0.Field)], Flat.enc p0.Box, Flat.enc p0.Mix, Flat.enc p0.Places, [(vI p0.Rounds)]]), opt (D 8) (rawP (ux28 8) (Flat.enc (Vector.replicate 16 (0 : UInt8))))] := hI.1
      refine s_loadA (cs := Flat.enc r9.2) hE goes_none (by decide) rfl ty39 rfl (hM.rawAt (pre := [_, _])) (Flat.len _) ?_; intro a hE
      exact ⟨_, _, rfl, hE, M.qKeep hM0 rfl, hI.2.put hD rfl allN rfl⟩
    · intro a w ux28 D hE hI hD hdc hp
      have hM0 := hI.1
      have hM : M (Old w0) w0 w [raw b26 (Flat.enc r18), raw b24 (Flat.enc r16), raw b13 (Flat.enc r9.2), raw b11 (Flat.enc r9.1), raw b7 (Flat.enc (Vector.replicate 32 (0 : UInt8))), raw b5 (Flat.enc p2), raw b3 (Flat.enc p1), raw b1 (cat [[(vI p0.Field)], Flat.enc p0.Box, Flat.enc p0.Mix, Flat.enc p0.Places, [(vI p0.Rounds)]]), opt (D 8) (rawP (ux28 8) (Flat.enc (Vector.replicate 16 (0 : UInt8))))] := hI.1
      refine s_loadA (cs := Flat.enc r16) hE goes_none (by decide) rfl ty39 rfl (hM.rawAt (pre := [_])) (Flat.len _) ?_; intro a hE
      exact ⟨_, _, rfl, hE, M.qKeep hM0 rfl, hI.2.put hD rfl allN rfl⟩
    · intro a w ux28 D hE hI hD hdc hp
      have hM0 := hI.1
      have hM : M (Old w0) w0 w [raw b26 (Flat.enc r18), raw b24 (Flat.enc r16), raw b13 (Flat.enc r9.2), raw b11 (Flat.enc r9.1), raw b7 (Flat.enc (Vector.replicate 32 (0 : UInt8))), raw b5 (Flat.enc p2), raw b3 (Flat.enc p1), raw b1 (cat [[(vI p0.Field)], Flat.enc p0.Box, Flat.enc p0.Mix, Flat.enc p0.Places, [(vI p0.Rounds)]]), opt (D 8) (rawP (ux28 8) (Flat.enc (Vector.replicate 16 (0 : UInt8))))] := hI.1
      refine s_fieldAddr hE goes_none (by decide) rfl (fd103_4) ?_; intro a hE
      exact ⟨_, _, rfl, hE, M.qKeep hM0 rfl, hI.2.put hD rfl allN rfl⟩
    · intro a w ux28 D hE hI hD hdc hp
      have d3 : D 3 = true := hp 0 _ rfl rfl
      have g3 := hI.2 3 d3 _ rfl
      have f3 : ux28 3 = (ptr b1 (0 + 289)) := g3.2
      have hM0 := hI.1
      have hM : M (Old w0) w0 w [raw b26 (Flat.enc r18), raw b24 (Flat.enc r16), raw b13 (Flat.enc r9.2), raw b11 (Flat.enc r9.1), raw b7 (Flat.enc (Vector.replicate 32 (0 : UInt8))), raw b5 (Flat.enc p2), raw b3 (Flat.enc p1), raw b1 (cat [[(vI p0.Field)], Flat.enc p0.Box, Flat.enc p0.Mix, Flat.enc p0.Places, [(vI p0.Rounds)]]), opt (D 8) (rawP (ux28 8) (Flat.enc (Vector.replicate 16 (0 : UInt8))))] := hI.1
      refine s_load (v := (vI p0.Rounds)) hE goes_none (by decide) (lk rfl f3) ty2 rfl (At.cat (pre := [[(vI p0.Field)], Flat.enc p0.Box, Flat.enc p0.Mix, Flat.enc p0.Places]) (seg := [(vI p0.Rounds)]) (post := []) (hM.rawAt (pre := [_, _, _, _, _, _, _])) (cl1 (n := 1) (m := 288) rfl (cl1 (n := 256) (m := 32) (Flat.len _) (cl1 (n := 16) (m := 16) (Flat.len _) (cl1 (n := 16) (m := 0) (Flat.len _) cl0))))) ?_; intro a hE
      exact ⟨_, _, rfl, hE, M.qKeep hM0 rfl, hI.2.put hD rfl allN rfl⟩
    · intro a w ux28 D hE hI hD hdc hp
      have d0 : D 0 = true := hp 0 _ rfl rfl
      have g0 := hI.2 0 d0 _ rfl
      have f0 : ux28 0 = (Value.agg (Flat.enc p0).toArray) := g0.2
      have d1 : D 1 = true := hp 1 _ rfl rfl
      have g1 := hI.2 1 d1 _ rfl
      have f1 : ux28 1 = (Value.agg (Flat.enc r9.2).toArray) := g1.2
      have d2 : D 2 = true := hp 2 _ rfl rfl
      have g2 := hI.2 2 d2 _ rfl
      have f2 : ux28 2 = (Value.agg (Flat.enc r16).toArray) := g2.2
      have d4 : D 4 = true := hp 3 _ rfl rfl
      have g4 := hI.2 4 d4 _ rfl
      have f4 : ux28 4 = (vI p0.Rounds) := g4.2
      have hM0 := hI.1
      have hM : M (Old w0) w0 w [raw b26 (Flat.enc r18), raw b24 (Flat.enc r16), raw b13 (Flat.enc r9.2), raw b11 (Flat.enc r9.1), raw b7 (Flat.enc (Vector.replicate 32 (0 : UInt8))), raw b5 (Flat.enc p2), raw b3 (Flat.enc p1), raw b1 (cat [[(vI p0.Field)], Flat.enc p0.Box, Flat.enc p0.Mix, Flat.enc p0.Places, [(vI p0.Rounds)]]), opt (D 8) (rawP (ux28 8) (Flat.enc (Vector.replicate 16 (0 : UInt8))))] := hI.1
      refine s_call (vs := [(Value.agg (Flat.enc p0).toArray), (Value.agg (Flat.enc r9.2).toArray), (Value.agg (Flat.enc r16).toArray), (vI p0.Rounds)]) hE goes_none (by decide) (evs_of (evsC (lk rfl f0) (evsC (lk rfl f1) (evsC (lk rfl f2) (evsC (lk rfl f4) evsN))))) cb102 (c_spec_l04Encipher _ p0 r9.2 r16 p0.Rounds r29 e30) ?_
      rintro v w a ⟨rfl, hK⟩ hE
      exact ⟨_, _, rfl, hE, M.qKeep (hM0.keep hK) rfl, hI.2.put hD rfl allN rfl⟩
    · intro a w ux28 D hE hI hD hdc hp
      have hM0 := hI.1
      have hM : M (Old w0) w0 w [raw b26 (Flat.enc r18), raw b24 (Flat.enc r16), raw b13 (Flat.enc r9.2), raw b11 (Flat.enc r9.1), raw b7 (Flat.enc (Vector.replicate 32 (0 : UInt8))), raw b5 (Flat.enc p2), raw b3 (Flat.enc p1), raw b1 (cat [[(vI p0.Field)], Flat.enc p0.Box, Flat.enc p0.Mix, Flat.enc p0.Places, [(vI p0.Rounds)]]), opt (D 8) (rawP (ux28 8) (Flat.enc (Vector.replicate 16 (0 : UInt8))))] := hI.1
      refine s_loadA (cs := Flat.enc r16) hE goes_none (by decide) rfl ty39 rfl (hM.rawAt (pre := [_])) (Flat.len _) ?_; intro a hE
      exact ⟨_, _, rfl, hE, M.qKeep hM0 rfl, hI.2.put hD rfl allN rfl⟩
    · intro a w ux28 D hE hI hD hdc hp
      have d5 : D 5 = true := hp 0 _ rfl rfl
      have g5 := hI.2 5 d5 _ rfl
      have f5 : ux28 5 = (Value.agg (Flat.enc r29).toArray) := g5.2
      have d6 : D 6 = true := hp 1 _ rfl rfl
      have g6 := hI.2 6 d6 _ rfl
      have f6 : ux28 6 = (Value.agg (Flat.enc r16).toArray) := g6.2
      have hM0 := hI.1
      have hM : M (Old w0) w0 w [raw b26 (Flat.enc r18), raw b24 (Flat.enc r16), raw b13 (Flat.enc r9.2), raw b11 (Flat.enc r9.1), raw b7 (Flat.enc (Vector.replicate 32 (0 : UInt8))), raw b5 (Flat.enc p2), raw b3 (Flat.enc p1), raw b1 (cat [[(vI p0.Field)], Flat.enc p0.Box, Flat.enc p0.Mix, Flat.enc p0.Places, [(vI p0.Rounds)]]), opt (D 8) (rawP (ux28 8) (Flat.enc (Vector.replicate 16 (0 : UInt8))))] := hI.1
      refine s_call (vs := [(Value.agg (Flat.enc r29).toArray), (Value.agg (Flat.enc r16).toArray)]) hE goes_none (by decide) (evs_of (evsC (lk rfl f5) (evsC (lk rfl f6) evsN))) cb101 (c_spec_l01Xor _ r29 r16 r31 e32) ?_
      rintro v w a ⟨rfl, hK⟩ hE
      exact ⟨_, _, rfl, hE, M.qKeep (hM0.keep hK) rfl, hI.2.put hD rfl allN rfl⟩
    · intro a w ux28 D hE hI hD hdc hp
      have hM0 := hI.1
      have hM : M (Old w0) w0 w [raw b26 (Flat.enc r18), raw b24 (Flat.enc r16), raw b13 (Flat.enc r9.2), raw b11 (Flat.enc r9.1), raw b7 (Flat.enc (Vector.replicate 32 (0 : UInt8))), raw b5 (Flat.enc p2), raw b3 (Flat.enc p1), raw b1 (cat [[(vI p0.Field)], Flat.enc p0.Box, Flat.enc p0.Mix, Flat.enc p0.Places, [(vI p0.Rounds)]]), opt (D 8) (rawP (ux28 8) (Flat.enc (Vector.replicate 16 (0 : UInt8))))] := hI.1
      refine s_alloc hE hM goes_none (by decide) ty39 ?_; intro b33 w a hM hE
      have hM := hM.pack1 (it := rawP _ (Flat.enc (Vector.replicate 16 (0 : UInt8)))) (fun w w' fp ⟨b', e, k⟩ hb => ⟨b', e, raw_loc w w' fp k hb⟩) (fun fp k => ⟨_, rfl, k⟩)
      exact ⟨_, _, rfl, hE, M.qFill (mk1 := []) (mk2 := []) (f := fun v => rawP v (Flat.enc (Vector.replicate 16 (0 : UInt8)))) hM rfl hD, hI.2.put hD rfl allN trivial⟩
    · intro a w ux28 D hE hI hall
      have hM : M (Old w0) w0 w [raw b26 (Flat.enc r18), raw b24 (Flat.enc r16), raw b13 (Flat.enc r9.2), raw b11 (Flat.enc r9.1), raw b7 (Flat.enc (Vector.replicate 32 (0 : UInt8))), raw b5 (Flat.enc p2), raw b3 (Flat.enc p1), raw b1 (cat [[(vI p0.Field)], Flat.enc p0.Box, Flat.enc p0.Mix, Flat.enc p0.Places, [(vI p0.Rounds)]]), opt (D 8) (rawP (ux28 8) (Flat.enc (Vector.replicate 16 (0 : UInt8))))] := hI.1
      have d0 : D 0 = true := hall 0 (by decide)
      have d1 : D 1 = true := hall 1 (by decide)
      have d2 : D 2 = true := hall 2 (by decide)
      have d3 : D 3 = true := hall 3 (by decide)
      have d4 : D 4 = true := hall 4 (by decide)
      have d5 : D 5 = true := hall 5 (by decide)
      have d6 : D 6 = true := hall 6 (by decide)
      have d7 : D 7 = true := hall 7 (by decide)
      have d8 : D 8 = true := hall 8 (by decide)
      have f0 : ux28 0 = (Value.agg (Flat.enc p0).toArray) := (hI.2 0 d0 _ rfl).2
      have f1 : ux28 1 = (Value.agg (Flat.enc r9.2).toArray) := (hI.2 1 d1 _ rfl).2
      have f2 : ux28 2 = (Value.agg (Flat.enc r16).toArray) := (hI.2 2 d2 _ rfl).2
      have f3 : ux28 3 = (ptr b1 (0 + 289)) := (hI.2 3 d3 _ rfl).2
      have f4 : ux28 4 = (vI p0.Rounds) := (hI.2 4 d4 _ rfl).2
      have f5 : ux28 5 = (Value.agg (Flat.enc r29).toArray) := (hI.2 5 d5 _ rfl).2
      have f6 : ux28 6 = (Value.agg (Flat.enc r16).toArray) := (hI.2 6 d6 _ rfl).2
      have f7 : ux28 7 = (Value.agg (Flat.enc r31).toArray) := (hI.2 7 d7 _ rfl).2
      have hM := (hM.sure (pre := [_, _, _, _, _, _, _, _]) d8).pull
      obtain ⟨_, ⟨b35, f36, _⟩, _⟩ := hM.head
      have hM := hM.pack1 raw_loc (it := raw b35 (Flat.enc (Vector.replicate 16 (0 : UInt8)))) (fun fp ⟨b2, e2, k2⟩ => by rw [f36] at e2; simp [ptr] at e2; subst e2; exact k2)
      have hE := hE.sub (e' := [(26, (Value.agg (Flat.enc p0).toArray)), (27, (Value.agg (Flat.enc r9.2).toArray)), (28, (Value.agg (Flat.enc r16).toArray)), (29, (ptr b1 (0 + 289))), (30, (vI p0.Rounds)), (31, (Value.agg (Flat.enc r29).toArray)), (32, (Value.agg (Flat.enc r16).toArray)), (33, (Value.agg (Flat.enc r31).toArray)), (11, (ptr b35 0)), (0, (Value.agg (Flat.enc p0).toArray)), (1, (Value.agg (Flat.enc p1).toArray)), (2, (Value.agg (Flat.enc p2).toArray)), (3, (ptr b1 0)), (4, (ptr b3 0)), (5, (ptr b5 0)), (6, (ptr b7 0)), (7, (ptr b11 0)), (8, (ptr b13 0)), (9, (ptr b24 0)), (10, (ptr b26 0)), (15, (Value.tuple [(Value.agg (Flat.enc r9.1).toArray), (Value.agg (Flat.enc r9.2).toArray)].toArray)), (16, (Value.agg (Flat.enc p1).toArray)), (17, (Value.tuple [(Value.agg (Flat.enc r9.1).toArray), (Value.agg (Flat.enc r9.2).toArray)].toArray)), (18, (Value.agg (Flat.enc r9.1).toArray)), (19, (Value.agg (Flat.enc r9.2).toArray)), (20, (Value.agg (Flat.enc r9.1).toArray)), (21, (Value.agg (Flat.enc p2).toArray)), (22, (Value.agg (Flat.enc r16).toArray)), (23, (Value.agg (Flat.enc r9.2).toArray)), (24, (Value.agg (Flat.enc p2).toArray)), (25, (Value.agg (Flat.enc r18).toArray))]) ⟨lk rfl f0, lk rfl f1, lk rfl f2, lk rfl f3, lk rfl f4, lk rfl f5, lk rfl f6, lk rfl f7, lk rfl f36, rfl, rfl, rfl, rfl, rfl, rfl, rfl, rfl, rfl, rfl, rfl, rfl, rfl, rfl, rfl, rfl, rfl, rfl, rfl, rfl, rfl, rfl, trivial⟩
      refine s_store (seg := Flat.enc r31) (cs' := Flat.enc r31) hE hM goes_none rfl rfl rfl ty39 (Flat.len _) (Nat.le_of_eq ((Nat.zero_add _).trans (Eq.trans (Flat.len _) (Eq.symm (Flat.len _))))) (Flat.cell _) (splice_all (Eq.trans (Flat.len _) (Eq.symm (Flat.len _)))) ?_; intro w a hM hE
      refine c_fin0 ?_
      refine c_nx ?_
      refine wp_seq ?_
      obtain ⟨r38, e39, hF⟩ := bind_some hF
      obtain ⟨r40, e41, hF⟩ := bind_some hF
      refine c_draw3 (n := 59) (hd := [_, _, _, _, _, _, _, _, _]) (tl := [_]) hmix rfl rfl [34, 35, 36, 37, 38, 39, 40, 41, 12] (by decide) (fun D u w => M (Old w0) w0 w ([raw b35 (Flat.enc r31), raw b26 (Flat.enc r18), raw b24 (Flat.enc r16), raw b13 (Flat.enc r9.2), raw b11 (Flat.enc r9.1), raw b7 (Flat.enc (Vector.replicate 32 (0 : UInt8))), raw b5 (Flat.enc p2), raw b3 (Flat.enc p1), raw b1 (cat [[(vI p0.Field)], Flat.enc p0.Box, Flat.enc p0.Mix, Flat.enc p0.Places, [(vI p0.Rounds)]])] ++ qL ([mkO 8 (fun v => rawP v (Flat.enc (Vector.replicate 16 (0 : UInt8))))] : Mk) D u) ∧ GOk ([([], fun us v => v = (Value.agg (Flat.enc p0).toArray)), ([], fun us v => v = (Value.agg (Flat.enc r31).toArray)), ([], fun us v => v = (Value.agg (Flat.enc r18).toArray)), ([], fun us v => v = (ptr b1 (0 + 289))), ([], fun us v => v = (vI p0.Rounds)), ([], fun us v => v = (Value.agg (Flat.enc r38).toArray)), ([], fun us v => v = (Value.agg (Flat.enc r18).toArray)), ([], fun us v => v = (Value.agg (Flat.enc r40).toArray)), ([], fun us v => True)] : Gs) D u) hE (fun u => ⟨M.qE (M.q0 hM.drew u) emO, gok0⟩) (steps_of (steps_cons ?_ (steps_cons ?_ (steps_cons ?_ (steps_cons ?_ (steps_cons ?_ (steps_cons ?_ (steps_cons ?_ (steps_cons ?_ (steps_cons ?_ steps_nil)))))))))) ?_
      · intro a w ux37 D hE hI hD hdc hp
        have hM0 := hI.1
        have hM : M (Old w0) w0 w [raw b35 (Flat.enc r31), raw b26 (Flat.enc r18), raw b24 (Flat.enc r16), raw b13 (Flat.enc r9.2), raw b11 (Flat.enc r9.1), raw b7 (Flat.enc (Vector.replicate 32 (0 : UInt8))), raw b5 (Flat.enc p2), raw b3 (Flat.enc p1), raw b1 (cat [[(vI p0.Field)], Flat.enc p0.Box, Flat.enc p0.Mix, Flat.enc p0.Places, [(vI p0.Rounds)]]), opt (D 8) (rawP (ux37 8) (Flat.enc (Vector.replicate 16 (0 : UInt8))))] := hI.1
        refine s_loadA (cs := Flat.enc p0) hE goes_none (by decide) rfl ty103 rfl (hM.rawAt (pre := [_, _, _, _, _, _, _, _])) (cat_len (cl1 (n := 1) (m := 289) rfl (cl1 (n := 256) (m := 33) (Flat.len _) (cl1 (n := 16) (m := 17) (Flat.len _) (cl1 (n := 16) (m := 1) (Flat.len _) (cl1 (n := 1) (m := 0) rfl cl0)))))) ?_; intro a hE
        exact ⟨_, _, rfl, hE, M.qKeep hM0 rfl, hI.2.put hD rfl allN rfl⟩
      · intro a w ux37 D hE hI hD hdc hp
        have hM0 := hI.1
        have hM : M (Old w0) w0 w [raw b35 (Flat.enc r31), raw b26 (Flat.enc r18), raw b24 (Flat.enc r16), raw b13 (Flat.enc r9.2), raw b11 (Flat.enc r9.1), raw b7 (Flat.enc (Vector.replicate 32 (0 : UInt8))), raw b5 (Flat.enc p2), raw b3 (Flat.enc p1), raw b1 (cat [[(vI p0.Field)], Flat.enc p0.Box, Flat.enc p0.Mix, Flat.enc p0.Places, [(vI p0.Rounds)]]), opt (D 8) (rawP (ux37 8) (Flat.enc (Vector.replicate 16 (0 : UInt8))))] := hI.1
        refine s_loadA (cs := Flat.enc r31) hE goes_none (by decide) rfl ty39 rfl (hM.rawAt (pre := [])) (Flat.len _) ?_; intro a hE
        exact ⟨_, _, rfl, hE, M.qKeep hM0 rfl, hI.2.put hD rfl allN rfl⟩
      · intro a w ux37 D hE hI hD hdc hp
        have hM0 := hI.1
        have hM : M (Old w0) w0 w [raw b35 (Flat.enc r31), raw b26 (Flat.enc r18), raw b24 (Flat.enc r16), raw b13 (Flat.enc r9.2), raw b11 (Flat.enc r9.1), raw b7 (Flat.enc (Vector.replicate 32 (0 : UInt8))), raw b5 (Flat.enc p2), raw b3 (Flat.enc p1), raw b1 (cat [[(vI p0.Field)], Flat.enc p0.Box, Flat.enc p0.Mix, Flat.enc p0.Places, [(vI p0.Rounds)]]), opt (D 8) (rawP (ux37 8) (Flat.enc (Vector.replicate 16 (0 : UInt8))))] := hI.1
        refine s_loadA (cs := Flat.enc r18) hE goes_none (by decide) rfl ty39 rfl (hM.rawAt (pre := [_])) (Flat.len _) ?_; intro a hE
        exact ⟨_, _, rfl, hE, M.qKeep hM0 rfl, hI.2.put hD rfl allN rfl⟩
      · intro a w ux37 D hE hI hD hdc hp
        have hM0 := hI.1
        have hM : M (Old w0) w0 w [raw b35 (Flat.enc r31), raw b26 (Flat.enc r18), raw b24 (Flat.enc r16), raw b13 (Flat.enc r9.2), raw b11 (Flat.enc r9.1), raw b7 (Flat.enc (Vector.replicate 32 (0 : UInt8))), raw b5 (Flat.enc p2), raw b3 (Flat.enc p1), raw b1 (cat [[(vI p0.Field)], Flat.enc p0.Box, Flat.enc p0.Mix, Flat.enc p0.Places, [(vI p0.Rounds)]]), opt (D 8) (rawP (ux37 8) (Flat.enc (Vector.replicate 16 (0 : UInt8))))] := hI.1
        refine s_fieldAddr hE goes_none (by decide) rfl (fd103_4) ?_; intro a hE
        exact ⟨_, _, rfl, hE, M.qKeep hM0 rfl, hI.2.put hD rfl allN rfl⟩
      · intro a w ux37 D hE hI hD hdc hp
        have d3 : D 3 = true := hp 0 _ rfl rfl
        have g3 := hI.2 3 d3 _ rfl
        have f3 : ux37 3 = (ptr b1 (0 + 289)) := g3.2
        have hM0 := hI.1
        have hM : M (Old w0) w0 w [raw b35 (Flat.enc r31), raw b26 (Flat.enc r18), raw b24 (Flat.enc r16), raw b13 (Flat.enc r9.2), raw b11 (Flat.enc r9.1), raw b7 (Flat.enc (Vector.replicate 32 (0 : UInt8))), raw b5 (Flat.enc p2), raw b3 (Flat.enc p1), raw b1 (cat [[(vI p0.Field)], Flat.enc p0.Box, Flat.enc p0.Mix, Flat.enc p0.Places, [(vI p0.Rounds)]]), opt (D 8) (rawP (ux37 8) (Flat.enc (Vector.replicate 16 (0 : UInt8))))] := hI.1
        refine s_load (v := (vI p0.Rounds)) hE goes_none (by decide) (lk rfl f3) ty2 rfl (At.cat (pre := [[(vI p0.Field)], Flat.enc p0.Box, Flat.enc p0.Mix, Flat.enc p0.Places]) (seg := [(vI p0.Rounds)]) (post := []) (hM.rawAt (pre := [_, _, _, _, _, _, _, _])) (cl1 (n := 1) (m := 288) rfl (cl1 (n := 256) (m := 32) (Flat.len _) (cl1 (n := 16) (m := 16) (Flat.len _) (cl1 (n := 16) (m := 0) (Flat.len _) cl0))))) ?_; intro a hE
        exact ⟨_, _, rfl, hE, M.qKeep hM0 rfl, hI.2.put hD rfl allN rfl⟩
      · intro a w ux37 D hE hI hD hdc hp
        have d0 : D 0 = true := hp 0 _ rfl rfl
        have g0 := hI.2 0 d0 _ rfl
        have f0 : ux37 0 = (Value.agg (Flat.enc p0).toArray) := g0.2
        have d1 : D 1 = true := hp 1 _ rfl rfl
        have g1 := hI.2 1 d1 _ rfl
        have f1 : ux37 1 = (Value.agg (Flat.enc r31).toArray) := g1.2
        have d2 : D 2 = true := hp 2 _ rfl rfl
        have g2 := hI.2 2 d2 _ rfl
        have f2 : ux37 2 = (Value.agg (Flat.enc r18).toArray) := g2.2
        have d4 : D 4 = true := hp 3 _ rfl rfl
        have g4 := hI.2 4 d4 _ rfl
        have f4 : ux37 4 = (vI p0.Rounds) := g4.2
        have hM0 := hI.1
        have hM : M (Old w0) w0 w [raw b35 (Flat.enc r31), raw b26 (Flat.enc r18), raw b24 (Flat.enc r16), raw b13 (Flat.enc r9.2), raw b11 (Flat.enc r9.1), raw b7 (Flat.enc (Vector.replicate 32 (0 : UInt8))), raw b5 (Flat.enc p2), raw b3 (Flat.enc p1), raw b1 (cat [[(vI p0.Field)], Flat.enc p0.Box, Flat.enc p0.Mix, Flat.enc p0.Places, [(vI p0.Rounds)]]), opt (D 8) (rawP (ux37 8) (Flat.enc (Vector.replicate 16 (0 : UInt8))))] := hI.1
        refine s_call (vs := [(Value.agg (Flat.enc p0).toArray), (Value.agg (Flat.enc r31).toArray), (Value.agg (Flat.enc r18).toArray), (vI p0.Rounds)]) hE goes_none (by decide) (evs_of (evsC (lk rfl f0) (evsC (lk rfl f1) (evsC (lk rfl f2) (evsC (lk rfl f4) evsN))))) cb102 (c_spec_l04Encipher _ p0 r31 r18 p0.Rounds r38 e39) ?_
        rintro v w a ⟨rfl, hK⟩ hE
        exact ⟨_, _, rfl, hE, M.qKeep (hM0.keep hK) rfl, hI.2.put hD rfl allN rfl⟩
      · intro a w ux37 D hE hI hD hdc hp
        have hM0 := hI.1
        have hM : M (Old w0) w0 w [raw b35 (Flat.enc r31), raw b26 (Flat.enc r18), raw b24 (Flat.enc r16), raw b13 (Flat.enc r9.2), raw b11 (Flat.enc r9.1), raw b7 (Flat.enc (Vector.replicate 32 (0 : UInt8))), raw b5 (Flat.enc p2), raw b3 (Flat.enc p1), raw b1 (cat [[(vI p0.Field)], Flat.enc p0.Box, Flat.enc p0.Mix, Flat.enc p0.Places, [(vI p0.Rounds)]]), opt (D 8) (rawP (ux37 8) (Flat.enc (Vector.replicate 16 (0 : UInt8))))] := hI.1
        refine s_loadA (cs := Flat.enc r18) hE goes_none (by decide) rfl ty39 rfl (hM.rawAt (pre := [_])) (Flat.len _) ?_; intro a hE
        exact ⟨_, _, rfl, hE, M.qKeep hM0 rfl, hI.2.put hD rfl allN rfl⟩
      · intro a w ux37 D hE hI hD hdc hp
        have d5 : D 5 = true := hp 0 _ rfl rfl
        have g5 := hI.2 5 d5 _ rfl
        have f5 : ux37 5 = (Value.agg (Flat.enc r38).toArray) := g5.2
        have d6 : D 6 = true := hp 1 _ rfl rfl
        have g6 := hI.2 6 d6 _ rfl
        have f6 : ux37 6 = (Value.agg (Flat.enc r18).toArray) := g6.2
        have hM0 := hI.1
        have hM : M (Old w0) w0 w [raw b35 (Flat.enc r31), raw b26 (Flat.enc r18), raw b24 (Flat.enc r16), raw b13 (Flat.enc r9.2), raw b11 (Flat.enc r9.1), raw b7 (Flat.enc (Vector.replicate 32 (0 : UInt8))), raw b5 (Flat.enc p2), raw b3 (Flat.enc p1), raw b1 (cat [[(vI p0.Field)], Flat.enc p0.Box, Flat.enc p0.Mix, Flat.enc p0.Places, [(vI p0.Rounds)]]), opt (D 8) (rawP (ux37 8) (Flat.enc (Vector.replicate 16 (0 : UInt8))))] := hI.1
        refine s_call (vs := [(Value.agg (Flat.enc r38).toArray), (Value.agg (Flat.enc r18).toArray)]) hE goes_none (by decide) (evs_of (evsC (lk rfl f5) (evsC (lk rfl f6) evsN))) cb101 (c_spec_l01Xor _ r38 r18 r40 e41) ?_
        rintro v w a ⟨rfl, hK⟩ hE
        exact ⟨_, _, rfl, hE, M.qKeep (hM0.keep hK) rfl, hI.2.put hD rfl allN rfl⟩
      · intro a w ux37 D hE hI hD hdc hp
        have hM0 := hI.1
        have hM : M (Old w0) w0 w [raw b35 (Flat.enc r31), raw b26 (Flat.enc r18), raw b24 (Flat.enc r16), raw b13 (Flat.enc r9.2), raw b11 (Flat.enc r9.1), raw b7 (Flat.enc (Vector.replicate 32 (0 : UInt8))), raw b5 (Flat.enc p2), raw b3 (Flat.enc p1), raw b1 (cat [[(vI p0.Field)], Flat.enc p0.Box, Flat.enc p0.Mix, Flat.enc p0.Places, [(vI p0.Rounds)]]), opt (D 8) (rawP (ux37 8) (Flat.enc (Vector.replicate 16 (0 : UInt8))))] := hI.1
        refine s_alloc hE hM goes_none (by decide) ty39 ?_; intro b42 w a hM hE
        have hM := hM.pack1 (it := rawP _ (Flat.enc (Vector.replicate 16 (0 : UInt8)))) (fun w w' fp ⟨b', e, k⟩ hb => ⟨b', e, raw_loc w w' fp k hb⟩) (fun fp k => ⟨_, rfl, k⟩)
        exact ⟨_, _, rfl, hE, M.qFill (mk1 := []) (mk2 := []) (f := fun v => rawP v (Flat.enc (Vector.replicate 16 (0 : UInt8)))) hM rfl hD, hI.2.put hD rfl allN trivial⟩
      · intro a w ux37 D hE hI hall
        have hM : M (Old w0) w0 w [raw b35 (Flat.enc r31), raw b26 (Flat.enc r18), raw b24 (Flat.enc r16), raw b13 (Flat.enc r9.2), raw b11 (Flat.enc r9.1), raw b7 (Flat.enc (Vector.replicate 32 (0 : UInt8))), raw b5 (Flat.enc p2), raw b3 (Flat.enc p1), raw b1 (cat [[(vI p0.Field)], Flat.enc p0.Box, Flat.enc p0.Mix, Flat.enc p0.Places, [(vI p0.Rounds)]]), opt (D 8) (rawP (ux37 8) (Flat.enc (Vector.replicate 16 (0 : UInt8))))] := hI.1
        have d0 : D 0 = true := hall 0 (by decide)
        have d1 : D 1 = true := hall 1 (by decide)
        have d2 : D 2 = true := hall 2 (by decide)
        have d3 : D 3 = true := hall 3 (by decide)
        have d4 : D 4 = true := hall 4 (by decide)
        have d5 : D 5 = true := hall 5 (by decide)
        have d6 : D 6 = true := hall 6 (by decide)
        have d7 : D 7 = true := hall 7 (by decide)
        have d8 : D 8 = true := hall 8 (by decide)
        have f0 : ux37 0 = (Value.agg (Flat.enc p0).toArray) := (hI.2 0 d0 _ rfl).2
        have f1 : ux37 1 = (Value.agg (Flat.enc r31).toArray) := (hI.2 1 d1 _ rfl).2
        have f2 : ux37 2 = (Value.agg (Flat.enc r18).toArray) := (hI.2 2 d2 _ rfl).2
        have f3 : ux37 3 = (ptr b1 (0 + 289)) := (hI.2 3 d3 _ rfl).2
        have f4 : ux37 4 = (vI p0.Rounds) := (hI.2 4 d4 _ rfl).2
        have f5 : ux37 5 = (Value.agg (Flat.enc r38).toArray) := (hI.2 5 d5 _ rfl).2
        have f6 : ux37 6 = (Value.agg (Flat.enc r18).toArray) := (hI.2 6 d6 _ rfl).2
        have f7 : ux37 7 = (Value.agg (Flat.enc r40).toArray) := (hI.2 7 d7 _ rfl).2
        have hM := (hM.sure (pre := [_, _, _, _, _, _, _, _, _]) d8).pull
        obtain ⟨_, ⟨b44, f45, _⟩, _⟩ := hM.head
        have hM := hM.pack1 raw_loc (it := raw b44 (Flat.enc (Vector.replicate 16 (0 : UInt8)))) (fun fp ⟨b2, e2, k2⟩ => by rw [f45] at e2; simp [ptr] at e2; subst e2; exact k2)
        have hE := hE.sub (e' := [(34, (Value.agg (Flat.enc p0).toArray)), (35, (Value.agg (Flat.enc r31).toArray)), (36, (Value.agg (Flat.enc r18).toArray)), (37, (ptr b1 (0 + 289))), (38, (vI p0.Rounds)), (39, (Value.agg (Flat.enc r38).toArray)), (40, (Value.agg (Flat.enc r18).toArray)), (41, (Value.agg (Flat.enc r40).toArray)), (12, (ptr b44 0)), (0, (Value.agg (Flat.enc p0).toArray)), (1, (Value.agg (Flat.enc p1).toArray)), (2, (Value.agg (Flat.enc p2).toArray)), (3, (ptr b1 0)), (4, (ptr b3 0)), (5, (ptr b5 0)), (6, (ptr b7 0)), (7, (ptr b11 0)), (8, (ptr b13 0)), (9, (ptr b24 0)), (10, (ptr b26 0)), (11, (ptr b35 0)), (15, (Value.tuple [(Value.agg (Flat.enc r9.1).toArray), (Value.agg (Flat.enc r9.2).toArray)].toArray)), (16, (Value.agg (Flat.enc p1).toArray)), (17, (Value.tuple [(Value.agg (Flat.enc r9.1).toArray), (Value.agg (Flat.enc r9.2).toArray)].toArray)), (18, (Value.agg (Flat.enc r9.1).toArray)), (19, (Value.agg (Flat.enc r9.2).toArray)), (20, (Value.agg (Flat.enc r9.1).toArray)), (21, (Value.agg (Flat.enc p2).toArray)), (22, (Value.agg (Flat.enc r16).toArray)), (23, (Value.agg (Flat.enc r9.2).toArray)), (24, (Value.agg (Flat.enc p2).toArray)), (25, (Value.agg (Flat.enc r18).toArray)), (26, (Value.agg (Flat.enc p0).toArray)), (27, (Value.agg (Flat.enc r9.2).toArray)), (28, (Value.agg (Flat.enc r16).toArray)), (29, (ptr b1 (0 + 289))), (30, (vI p0.Rounds)), (31, (Value.agg (Flat.enc r29).toArray)), (32, (Value.agg (Flat.enc r16).toArray)), (33, (Value.agg (Flat.enc r31).toArray))]) ⟨lk rfl f0, lk rfl f1, lk rfl f2, lk rfl f3, lk rfl f4, lk rfl f5, lk rfl f6, lk rfl f7, lk rfl f45, rfl, rfl, rfl, rfl, rfl, rfl, rfl, rfl, rfl, rfl, rfl, rfl, rfl, rfl, rfl, rfl, rfl, rfl, rfl, rfl, rfl, rfl, rfl, rfl, rfl, rfl, rfl, rfl, rfl, rfl, rfl, trivial⟩
        refine s_store (seg := Flat.enc r40) (cs' := Flat.enc r40) hE hM goes_none rfl rfl rfl ty39 (Flat.len _) (Nat.le_of_eq ((Nat.zero_add _).trans (Eq.trans (Flat.len _) (Eq.symm (Flat.len _))))) (Flat.cell _) (splice_all (Eq.trans (Flat.len _) (Eq.symm (Flat.len _)))) ?_; intro w a hM hE
        refine c_fin0 ?_
        refine c_nx ?_
        refine c_region ?_
        refine s_buildA (parts := []) (vs := []) (cs := Flat.enc (Vector.replicate 32 (0 : UInt8))) hE goes_none (by decide) rfl rfl ty25 rfl ty5 filla_nil ?_; intro a hE
        refine s_alloc hE hM goes_none (by decide) ty25 ?_; intro b46 w a hM hE
        refine s_store (seg := Flat.enc (Vector.replicate 32 (0 : UInt8))) (cs' := Flat.enc (Vector.replicate 32 (0 : UInt8))) hE hM goes_none rfl rfl rfl ty25 (Flat.len _) (Nat.le_of_eq ((Nat.zero_add _).trans (Eq.trans (Flat.len _) (Eq.symm (Flat.len _))))) (Flat.cell _) (splice_all (Eq.trans (Flat.len _) (Eq.symm (Flat.len _)))) ?_; intro w a hM hE
        refine c_fin ?_
        refine wp_seq ?_
        refine c_region ?_
        refine s_assign hE goes_none (by decide) rfl ?_; intro a hE
        refine c_fin ?_
        obtain ⟨j48, hl49, hF50⟩ := bind_some hF
        refine c_cut (fun a w => Env 59 a [(6, (ptr b7 0)), (13, (ptr b46 0))] ∧ M (Old w0) w0 w [raw b46 (Flat.enc j48), raw b7 (Flat.enc (Vector.replicate 32 (0 : UInt8)))]) ?_ ?_
        · skip
          refine wp_block ?_
          have hM := hM.pull (pre := [_, _, _, _, _, _, _])
          have hM := hM.pull (pre := [_, _, _])
          have hM := hM.pull (pre := [_, _, _])
          have hM := hM.pull (pre := [_, _, _])
          have hM := M.fst (l := [_, _, _, _]) hM
          refine c_loop (fun (s51 : (Vector UInt8 32) × Int) a w => Env 59 a [(6, (ptr b7 0)), (11, (ptr b35 0)), (12, (ptr b44 0)), (13, (ptr b46 0)), (14, (vI s51.2))] ∧ M (Old w0) w0 w [raw b46 (Flat.enc s51.1), raw b44 (Flat.enc r40), raw b35 (Flat.enc r31), raw b7 (Flat.enc (Vector.replicate 32 (0 : UInt8)))]) hl49 ⟨hE.sub ⟨rfl, rfl, rfl, rfl, rfl, trivial⟩, hM⟩ ?_
          rintro s51 a w ⟨hE, hM⟩ o54 hs52 hx53
          unfold L0_spec_l08Absorb at hs52
          refine wp_seq ?_
          refine c_region ?_
          refine s_move hE goes_none (by decide) rfl ?_; intro a hE
          refine s_int hE goes_none (by decide) rfl rfl rfl ?_; intro a hE
          refine c_fin ?_
          refine c_cond hE rfl ?_ ?_
          · intro hb55
            have hs52 := ite_t hs52 hb55
            refine wp_skip ?_
            refine c_nx ?_
            refine wp_seq ?_
            refine wp_block ?_
            refine c_region ?_
            refine s_move hE goes_none (by decide) rfl ?_; intro a hE
            refine s_move hE goes_none (by decide) rfl ?_; intro a hE
            obtain ⟨x57, e58, hs52⟩ := bind_some hs52
            have hi56 := vidx_some e58
            refine s_indexA hE goes_none (by decide) rfl rfl Try.underlying39 ty5 hi56.1 ?_; intro a hE
            refine s_load (v := (vB x57)) hE goes_none (by decide) rfl ty5 rfl (At.vec (hM.rawAt (pre := [_, _])) hi56.2) ?_; intro a hE
            obtain ⟨x60, e61, hs52⟩ := bind_some hs52
            have hi59 := vidx_some e61
            refine s_indexA hE goes_none (by decide) rfl rfl Try.underlying25 ty5 hi59.1 ?_; intro a hE
            refine s_store (seg := [(vB x57)]) (cs' := Flat.enc (s51.1.setIfInBounds (s51.2).toNat x57)) hE hM goes_none rfl rfl rfl ty5 rfl (fit_vec (v := s51.1) (x := x57) hi59.1) (Flat.cell (x57 : UInt8)) (splice_vec0 (v := s51.1) (x := x57) hi59.1) ?_; intro w a hM hE
            refine c_fin ?_
            refine wp_region_lit ?_
            refine s_move hE goes_none (by decide) rfl ?_; intro a hE
            refine s_int hE goes_none (by decide) rfl rfl rfl ?_; intro a hE
            refine s_move hE goes_none (by decide) rfl ?_; intro a hE
            obtain ⟨x63, e64, hs52⟩ := bind_some hs52
            have hi62 := vidx_some e64
            refine s_indexA hE goes_none (by decide) rfl rfl Try.underlying39 ty5 hi62.1 ?_; intro a hE
            refine s_load (v := (vB x63)) hE goes_none (by decide) rfl ty5 rfl (At.vec (hM.rawAt (pre := [_])) hi62.2) ?_; intro a hE
            obtain ⟨x66, e67, hs52⟩ := bind_some hs52
            have hi65 := vidx_some e67
            refine s_indexA hE goes_none (by decide) rfl rfl Try.underlying25 ty5 hi65.1 ?_; intro a hE
            refine s_store (seg := [(vB x63)]) (cs' := Flat.enc ((s51.1.setIfInBounds (s51.2).toNat x57).setIfInBounds ((wr (16 + s51.2))).toNat x63)) hE hM goes_none rfl rfl rfl ty5 rfl (fit_vec (v := (s51.1.setIfInBounds (s51.2).toNat x57)) (x := x63) hi65.1) (Flat.cell (x63 : UInt8)) (splice_vec0 (v := (s51.1.setIfInBounds (s51.2).toNat x57)) (x := x63) hi65.1) ?_; intro w a hM hE
            refine c_fin0 ?_
            refine c_nb ?_
            refine c_nx ?_
            refine wp_region_lit ?_
            refine s_move hE goes_none (by decide) rfl ?_; intro a hE
            refine s_int hE goes_none (by decide) rfl rfl rfl ?_; intro a hE
            refine s_assign hE goes_none (by decide) rfl ?_; intro a hE
            refine c_fin0 ?_
            refine c_mid ?_
            exact ⟨_, (Option.some.inj hs52).symm, hE.sub ⟨rfl, rfl, rfl, rfl, rfl, trivial⟩, hM⟩
          · intro hb55
            have hs52 := ite_f hs52 hb55
            refine wp_exit (e_then (e_then (e_eq ?_)))
            have ht68 := hx53 _ (Option.some.inj hs52).symm
            subst ht68
            refine c_mid ?_
            have hM := hM.pull (pre := [_, _, _])
            have hM := hM.pull (pre := [_])
            have hM := M.fst (l := [_, _]) hM
            exact ⟨hE.sub ⟨rfl, rfl, trivial⟩, hM⟩
        · skip
          rintro a w ⟨hE, hM⟩
          refine c_nx ?_
          refine c_region ?_
          refine s_loadA (cs := Flat.enc j48) hE goes_none (by decide) rfl ty25 rfl (hM.rawAt (pre := [])) (Flat.len _) ?_; intro a hE
          have hM := hM.pull (pre := [_])
          refine s_store (seg := Flat.enc j48) (cs' := Flat.enc j48) hE hM goes_none rfl rfl rfl ty25 (Flat.len _) (Nat.le_of_eq ((Nat.zero_add _).trans (Eq.trans (Flat.len _) (Eq.symm (Flat.len _))))) (Flat.cell _) (splice_all (Eq.trans (Flat.len _) (Eq.symm (Flat.len _)))) ?_; intro w a hM hE
          refine c_fin ?_
          have hr := Option.some.inj hF50
          subst hr
          have hq69 : ResIs Try.prog _ _ (.cell 6 25) _ := res_cell hE rfl ty25 rfl (hM.rawAt (pre := [])) (Flat.len _) rfl
          have hM := M.fst (l := []) hM
          exact wp_ret (k_ret1 hE rfl hq69 ⟨_, rfl, rfl, hM.kept⟩)
noncomputable def L0_spec_l08Of (p0 : GCipher) (r8 : (List (Vector UInt8 16))) (s18 : (Vector UInt8 32) × Int) : Option (Fl ((Vector UInt8 32) × Int) (Vector UInt8 32)) :=
  if (decide (s18.2 < (r8.length : Int))) = true then ((idx r8 s18.2).bind fun (x24 : (Vector UInt8 16)) => (F_spec_l08Absorb p0 s18.1 x24).bind fun (r27 : (Vector UInt8 32)) => some (Fl.nx (r27, wr (s18.2 + 1)))) else (some (Fl.ex s18.1))
noncomputable def F_spec_l08Of (p0 : GCipher) (p1 : (List UInt8)) : Option ((Vector UInt8 32)) :=
  (F_spec_l08Pad p1).bind fun (r5 : (List UInt8)) => (F_spec_l01Blocks r5).bind fun (r8 : (List (Vector UInt8 16))) => (F_spec_l08Start).bind fun (r11 : (Vector UInt8 32)) => (iter (L0_spec_l08Of p0 r8) (r11, 0) : Option ((Vector UInt8 32))).bind fun (j15 : (Vector UInt8 32)) => some j15
set_option maxRecDepth 20000 in
set_option maxHeartbeats 400000 in
theorem c_spec_l08Of (w0 : World) (p0 : GCipher) (p1 : (List UInt8)) (v1_1 : Value) (hv1_1 : Ro w0 p1 [v1_1]) (r : (Vector UInt8 32)) (hF : F_spec_l08Of p0 p1 = some r) :
    Calls Try.prog 63 [(Value.agg (Flat.enc p0).toArray), v1_1].toArray w0 (fun en w' => ∃ v, en = .returned v ∧ (v = (Value.agg (Flat.enc r).toArray) ∧ Kept (Old w0) w0 w')) := by
  refine c_enter (n := 26) Try.func63 rfl rfl (Nat.le_of_ble_eq_true rfl) rfl ?_
  intro a hE
  have hM := M.start w0
  unfold F_spec_l08Of at hF
  refine c_region ?_
  refine s_box (cs := cat [[(vI p0.Field)], Flat.enc p0.Box, Flat.enc p0.Mix, Flat.enc p0.Places, [(vI p0.Rounds)]]) hE hM goes_none (by decide) rfl rfl ?_; intro b1 w a hM hE
  refine s_alloc hE hM goes_none (by decide) ty25 ?_; intro b3 w a hM hE
  refine c_fin ?_
  refine c_region ?_
  refine s_move hE goes_none (by decide) rfl ?_; intro a hE
  obtain ⟨r5, e6, hF⟩ := bind_some hF
  refine s_call (vs := [v1_1]) hE goes_none (by decide) rfl cb83 (c_spec_l08Pad _ p1 v1_1 (hM.rdo hv1_1) r5 e6) ?_
  rintro u7 w a ⟨_, rfl, hFr, hK⟩ hE
  have hM := hM.add hK hFr
  obtain ⟨r8, e9, hF⟩ := bind_some hF
  refine s_call (vs := [u7]) hE goes_none (by decide) rfl cb82 (c_spec_l01Blocks _ r5 u7 (hM.sl (pre := []) noB) r8 e9) ?_
  rintro u10 w a ⟨_, rfl, hFr, hK⟩ hE
  have hM := hM.add hK hFr
  obtain ⟨r11, e12, hF⟩ := bind_some hF
  refine s_call (vs := []) hE goes_none (by decide) rfl cb84 (c_spec_l08Start _  r11 e12) ?_
  rintro v w a ⟨rfl, hK⟩ hE
  have hM := hM.keep hK
  refine s_alloc hE hM goes_none (by decide) ty25 ?_; intro b13 w a hM hE
  refine s_assign hE goes_none (by decide) rfl ?_; intro a hE
  refine s_store (seg := Flat.enc r11) (cs' := Flat.enc r11) hE hM goes_none rfl rfl rfl ty25 (Flat.len _) (Nat.le_of_eq ((Nat.zero_add _).trans (Eq.trans (Flat.len _) (Eq.symm (Flat.len _))))) (Flat.cell _) (splice_all (Eq.trans (Flat.len _) (Eq.symm (Flat.len _)))) ?_; intro w a hM hE
  refine c_fin ?_
  refine wp_seq ?_
  refine c_region ?_
  refine s_assign hE goes_none (by decide) rfl ?_; intro a hE
  refine c_fin ?_
  obtain ⟨j15, hl16, hF17⟩ := bind_some hF
  refine c_cut (fun a w => Env 26 a [(4, (ptr b3 0)), (6, (ptr b13 0))] ∧ M (Old w0) w0 w [raw b13 (Flat.enc j15), raw b3 (Flat.enc (Vector.replicate 32 (0 : UInt8)))]) ?_ ?_
  · skip
    refine wp_block ?_
    have hM := hM.pull (pre := [_, _, _, _])
    have hM := hM.pull (pre := [_, _, _, _])
    have hM := hM.pull (pre := [_, _, _])
    have hM := hM.pull (pre := [_, _, _])
    have hM := M.fst (l := [_, _, _, _]) hM
    refine c_loop (fun (s18 : (Vector UInt8 32) × Int) a w => Env 26 a [(2, (ptr b1 0)), (4, (ptr b3 0)), (5, u10), (6, (ptr b13 0)), (7, (vI s18.2))] ∧ M (Old w0) w0 w [raw b13 (Flat.enc s18.1), osl NoB (r8 : List (Vector UInt8 16)) u10, raw b3 (Flat.enc (Vector.replicate 32 (0 : UInt8))), raw b1 (cat [[(vI p0.Field)], Flat.enc p0.Box, Flat.enc p0.Mix, Flat.enc p0.Places, [(vI p0.Rounds)]])]) hl16 ⟨hE.sub ⟨rfl, rfl, rfl, rfl, rfl, trivial⟩, hM⟩ ?_
    rintro s18 a w ⟨hE, hM⟩ o21 hs19 hx20
    unfold L0_spec_l08Of at hs19
    refine wp_seq ?_
    refine c_region ?_
    refine s_move hE goes_none (by decide) rfl ?_; intro a hE
    refine s_move hE goes_none (by decide) rfl ?_; intro a hE
    refine s_len hE goes_none (by decide) rfl Try.underlying34 (hM.sl (pre := [_]) noB) ?_; intro a hE
    refine s_int hE goes_none (by decide) rfl rfl rfl ?_; intro a hE
    refine c_fin ?_
    refine c_cond hE rfl ?_ ?_
    · intro hb22
      have hs19 := ite_t hs19 hb22
      refine wp_skip ?_
      refine c_nx ?_
      refine wp_seq ?_
      refine wp_block ?_
      obtain ⟨x24, e25, hs19⟩ := bind_some hs19
      have hi26 := idx_some e25
      obtain ⟨r27, e28, hs19⟩ := bind_some hs19
      refine c_draw (n := 26) (hd := [_, _, _, _, _, _, _]) (tl := [_]) hmix rfl rfl [18, 19, 20, 21, 22, 23, 24] (by decide) (fun w => M (Old w0) w0 w [raw b13 (Flat.enc s18.1), osl NoB (r8 : List (Vector UInt8 16)) u10, raw b3 (Flat.enc (Vector.replicate 32 (0 : UInt8))), raw b1 (cat [[(vI p0.Field)], Flat.enc p0.Box, Flat.enc p0.Mix, Flat.enc p0.Places, [(vI p0.Rounds)]])]) (fun j => ([fun v _ => v = (Value.agg (Flat.enc p0).toArray), fun v _ => v = (Value.agg (Flat.enc s18.1).toArray), fun v _ => v = u10, fun v _ => v = (vI s18.2), fun v _ => v = (ptr (sb u10) (so u10 + (s18.2).toNat * 16)), fun v _ => v = (Value.agg (Flat.enc x24).toArray), fun v _ => v = (Value.agg (Flat.enc r27).toArray)] : List (Value → World → Prop)).getD j (fun _ _ => True)) (fun _ _ h hk => h.keep hk) (gup (gupE (gupE (gupE (gupE (gupE (gupE (gupE gupN)))))))) hE hM.drew (steps_of (steps_cons ?_ (steps_cons ?_ (steps_cons ?_ (steps_cons ?_ (steps_cons ?_ (steps_cons ?_ (steps_cons ?_ steps_nil)))))))) ?_
      · intro a w ux23 hE hM hp
        refine s_loadA (cs := Flat.enc p0) hE goes_none (by decide) rfl ty103 rfl (hM.rawAt (pre := [_, _, _])) (cat_len (cl1 (n := 1) (m := 289) rfl (cl1 (n := 256) (m := 33) (Flat.len _) (cl1 (n := 16) (m := 17) (Flat.len _) (cl1 (n := 16) (m := 1) (Flat.len _) (cl1 (n := 1) (m := 0) rfl cl0)))))) ?_; intro a hE
        exact ⟨Kept.refl _ _, _, _, rfl, hE, rfl⟩
      · intro a w ux23 hE hM hp
        refine s_loadA (cs := Flat.enc s18.1) hE goes_none (by decide) rfl ty25 rfl (hM.rawAt (pre := [])) (Flat.len _) ?_; intro a hE
        exact ⟨Kept.refl _ _, _, _, rfl, hE, rfl⟩
      · intro a w ux23 hE hM hp
        refine s_move hE goes_none (by decide) rfl ?_; intro a hE
        exact ⟨Kept.refl _ _, _, _, rfl, hE, rfl⟩
      · intro a w ux23 hE hM hp
        refine s_move hE goes_none (by decide) rfl ?_; intro a hE
        exact ⟨Kept.refl _ _, _, _, rfl, hE, rfl⟩
      · intro a w ux23 hE hM hp
        have f2 : ux23 2 = u10 := hp 0 _ rfl rfl
        have f3 : ux23 3 = (vI s18.2) := hp 1 _ rfl rfl
        refine s_indexS hE goes_none (by decide) (lk rfl f2) (lk rfl f3) Try.underlying34 ty39 (hM.sl (pre := [_]) noB) hi26.1 ?_; intro a hE
        exact ⟨Kept.refl _ _, _, _, rfl, hE, rfl⟩
      · intro a w ux23 hE hM hp
        have f4 : ux23 4 = (ptr (sb u10) (so u10 + (s18.2).toNat * 16)) := hp 0 _ rfl rfl
        refine s_loadA (cs := Flat.enc x24) hE goes_none (by decide) (lk rfl f4) ty39 rfl (sl_atF (hM.sl (pre := [_]) noB) hi26.2) (Flat.len _) ?_; intro a hE
        exact ⟨Kept.refl _ _, _, _, rfl, hE, rfl⟩
      · intro a w ux23 hE hM hp
        have f0 : ux23 0 = (Value.agg (Flat.enc p0).toArray) := hp 0 _ rfl rfl
        have f1 : ux23 1 = (Value.agg (Flat.enc s18.1).toArray) := hp 1 _ rfl rfl
        have f5 : ux23 5 = (Value.agg (Flat.enc x24).toArray) := hp 2 _ rfl rfl
        refine s_call (vs := [(Value.agg (Flat.enc p0).toArray), (Value.agg (Flat.enc s18.1).toArray), (Value.agg (Flat.enc x24).toArray)]) hE goes_none (by decide) (evs_of (evsC (lk rfl f0) (evsC (lk rfl f1) (evsC (lk rfl f5) evsN)))) cb85 (c_spec_l08Absorb _ p0 s18.1 x24 r27 e28) ?_
        rintro v w a ⟨rfl, hK⟩ hE
        exact ⟨hK, _, _, rfl, hE, rfl⟩
      · intro a w ux23 hE hM hg
        have f0 : ux23 0 = (Value.agg (Flat.enc p0).toArray) := hg 0 (by decide)
        have f1 : ux23 1 = (Value.agg (Flat.enc s18.1).toArray) := hg 1 (by decide)
        have f2 : ux23 2 = u10 := hg 2 (by decide)
        have f3 : ux23 3 = (vI s18.2) := hg 3 (by decide)
        have f4 : ux23 4 = (ptr (sb u10) (so u10 + (s18.2).toNat * 16)) := hg 4 (by decide)
        have f5 : ux23 5 = (Value.agg (Flat.enc x24).toArray) := hg 5 (by decide)
        have f6 : ux23 6 = (Value.agg (Flat.enc r27).toArray) := hg 6 (by decide)
        have hE := hE.sub (e' := [(18, (Value.agg (Flat.enc p0).toArray)), (19, (Value.agg (Flat.enc s18.1).toArray)), (20, u10), (21, (vI s18.2)), (22, (ptr (sb u10) (so u10 + (s18.2).toNat * 16))), (23, (Value.agg (Flat.enc x24).toArray)), (24, (Value.agg (Flat.enc r27).toArray)), (2, (ptr b1 0)), (4, (ptr b3 0)), (5, u10), (6, (ptr b13 0)), (7, (vI s18.2)), (12, (vI s18.2)), (13, u10), (14, (vI (r8.length : Int))), (15, (vT (decide (s18.2 < (r8.length : Int)))))]) ⟨lk rfl f0, lk rfl f1, lk rfl f2, lk rfl f3, lk rfl f4, lk rfl f5, lk rfl f6, rfl, rfl, rfl, rfl, rfl, rfl, rfl, rfl, rfl, trivial⟩
        refine s_store (seg := Flat.enc r27) (cs' := Flat.enc r27) hE hM goes_none rfl rfl rfl ty25 (Flat.len _) (Nat.le_of_eq ((Nat.zero_add _).trans (Eq.trans (Flat.len _) (Eq.symm (Flat.len _))))) (Flat.cell _) (splice_all (Eq.trans (Flat.len _) (Eq.symm (Flat.len _)))) ?_; intro w a hM hE
        refine c_fin0 ?_
        refine c_nb ?_
        refine c_nx ?_
        refine wp_region_lit ?_
        refine s_move hE goes_none (by decide) rfl ?_; intro a hE
        refine s_int hE goes_none (by decide) rfl rfl rfl ?_; intro a hE
        refine s_assign hE goes_none (by decide) rfl ?_; intro a hE
        refine c_fin0 ?_
        refine c_mid ?_
        exact ⟨_, (Option.some.inj hs19).symm, hE.sub ⟨rfl, rfl, rfl, rfl, rfl, trivial⟩, hM⟩
    · intro hb22
      have hs19 := ite_f hs19 hb22
      refine wp_exit (e_then (e_then (e_eq ?_)))
      have ht29 := hx20 _ (Option.some.inj hs19).symm
      subst ht29
      refine c_mid ?_
      have hM := hM.pull (pre := [_, _])
      have hM := hM.pull (pre := [_])
      have hM := M.fst (l := [_, _]) hM
      exact ⟨hE.sub ⟨rfl, rfl, trivial⟩, hM⟩
  · skip
    rintro a w ⟨hE, hM⟩
    refine c_nx ?_
    refine c_region ?_
    refine s_loadA (cs := Flat.enc j15) hE goes_none (by decide) rfl ty25 rfl (hM.rawAt (pre := [])) (Flat.len _) ?_; intro a hE
    have hM := hM.pull (pre := [_])
    refine s_store (seg := Flat.enc j15) (cs' := Flat.enc j15) hE hM goes_none rfl rfl rfl ty25 (Flat.len _) (Nat.le_of_eq ((Nat.zero_add _).trans (Eq.trans (Flat.len _) (Eq.symm (Flat.len _))))) (Flat.cell _) (splice_all (Eq.trans (Flat.len _) (Eq.symm (Flat.len _)))) ?_; intro w a hM hE
    refine c_fin ?_
    have hr := Option.some.inj hF17
    subst hr
    have hq30 : ResIs Try.prog _ _ (.cell 4 25) _ := res_cell hE rfl ty25 rfl (hM.rawAt (pre := [])) (Flat.len _) rfl
    have hM := M.fst (l := []) hM
    exact wp_ret (k_ret1 hE rfl hq30 ⟨_, rfl, rfl, hM.kept⟩)
noncomputable def L0_spec_l08Bytes (p0 : (Vector UInt8 32)) (s10 : (List UInt8) × Int) : Option (Fl ((List UInt8) × Int) (List UInt8)) :=
  if (decide (s10.2 < 32)) = true then ((vidx p0 s10.2).bind fun (x18 : UInt8) => (app 1 s10.1 ([x18] : List UInt8)).bind fun (l22 : (List UInt8)) => some (Fl.nx ((s10.1 ++ ([x18] : List UInt8)), wr (s10.2 + 1)))) else (some (Fl.ex s10.1))
noncomputable def F_spec_l08Bytes (p0 : (Vector UInt8 32)) : Option ((List UInt8)) :=
  (iter (L0_spec_l08Bytes p0) (([] : List UInt8), 0) : Option ((List UInt8))).bind fun (j5 : (List UInt8)) => some j5
set_option maxRecDepth 20000 in
set_option maxHeartbeats 400000 in
theorem c_spec_l08Bytes (w0 : World) (p0 : (Vector UInt8 32)) (r : (List UInt8)) (hF : F_spec_l08Bytes p0 = some r) :
    Calls Try.prog 87 [(Value.agg (Flat.enc p0).toArray)].toArray w0 (fun en w' => ∃ v, en = .returned v ∧ (∃ (y1 : Value), v = y1 ∧ Fr w0 w' [osl NoB (r : List UInt8) y1] ∧ Kept (Old w0) w0 w')) := by
  refine c_enter (n := 17) Try.func87 rfl rfl (Nat.le_of_ble_eq_true rfl) rfl ?_
  intro a hE
  have hM := M.start w0
  unfold F_spec_l08Bytes at hF
  refine c_region ?_
  refine s_box (cs := Flat.enc p0) hE hM goes_none (by decide) rfl rfl ?_; intro b1 w a hM hE
  refine s_assign hE goes_none (by decide) rfl ?_; intro a hE
  refine c_fin ?_
  refine c_region ?_
  refine s_buildF (xs := []) (l := ([] : List UInt8)) (vs := []) hE hM goes_none (by decide) rfl rfl Try.underlying50 ty5 rfl (by decide) rfl ?_; intro u3 w a hM hE
  refine s_assign hE goes_none (by decide) rfl ?_; intro a hE
  refine c_fin ?_
  refine wp_seq ?_
  refine c_region ?_
  refine s_assign hE goes_none (by decide) rfl ?_; intro a hE
  refine c_fin ?_
  obtain ⟨j5, hl6, hF7⟩ := bind_some hF
  refine c_cut (fun a w => ∃ (u8 : Value), Env 17 a [(3, u8)] ∧ M (Old w0) w0 w [osl NoB (j5 : List UInt8) u8]) ?_ ?_
  · skip
    refine wp_block ?_
    have hM := hM.pull (pre := [_])
    refine c_loop (fun (s10 : (List UInt8) × Int) a w => ∃ (u11 : Value), Env 17 a [(1, (ptr b1 0)), (3, u11), (4, (vI s10.2))] ∧ M (Old w0) w0 w [raw b1 (Flat.enc p0), osl NoB (s10.1 : List UInt8) u11]) hl6 ⟨u3, hE.sub ⟨rfl, rfl, rfl, trivial⟩, hM⟩ ?_
    rintro s10 a w ⟨u11, hE, hM⟩ o15 hs13 hx14
    unfold L0_spec_l08Bytes at hs13
    refine wp_seq ?_
    refine c_region ?_
    refine s_move hE goes_none (by decide) rfl ?_; intro a hE
    refine s_int hE goes_none (by decide) rfl rfl rfl ?_; intro a hE
    refine c_fin ?_
    refine c_cond hE rfl ?_ ?_
    · intro hb16
      have hs13 := ite_t hs13 hb16
      refine wp_skip ?_
      refine c_nx ?_
      refine wp_seq ?_
      refine wp_block ?_
      refine wp_region_lit ?_
      refine s_move hE goes_none (by decide) rfl ?_; intro a hE
      refine s_move hE goes_none (by decide) rfl ?_; intro a hE
      obtain ⟨x18, e19, hs13⟩ := bind_some hs13
      have hi17 := vidx_some e19
      refine s_indexA hE goes_none (by decide) rfl rfl Try.underlying25 ty5 hi17.1 ?_; intro a hE
      refine s_load (v := (vB x18)) hE goes_none (by decide) rfl ty5 rfl (At.vec (hM.rawAt (pre := [])) hi17.2) ?_; intro a hE
      refine s_buildF (xs := [.tmp 13]) (l := ([x18] : List UInt8)) (vs := [(vB x18)]) hE hM goes_none (by decide) rfl rfl Try.underlying50 ty5 rfl (by decide) rfl ?_; intro u20 w a hM hE
      obtain ⟨l22, e23, hs13⟩ := bind_some hs13
      obtain ⟨e26, rfl⟩ := app_some e23
      have hM := hM.pull (pre := [_, _])
      refine s_appendF hE hM goes_none (by decide) rfl rfl (hM.sl (pre := [_]) noB) Try.underlying50 ty5 rfl (by decide) e26 ?_; intro u24 w a hM hE
      refine s_assign hE goes_none (by decide) rfl ?_; intro a hE
      refine c_fin0 ?_
      refine c_nb ?_
      refine c_nx ?_
      refine wp_region_lit ?_
      refine s_move hE goes_none (by decide) rfl ?_; intro a hE
      refine s_int hE goes_none (by decide) rfl rfl rfl ?_; intro a hE
      refine s_assign hE goes_none (by decide) rfl ?_; intro a hE
      refine c_fin0 ?_
      refine c_mid ?_
      have hM := hM.pull (pre := [_, _])
      have hM := M.fst (l := [_, _]) hM
      exact ⟨_, (Option.some.inj hs13).symm, u24, hE.sub ⟨rfl, rfl, rfl, trivial⟩, hM⟩
    · intro hb16
      have hs13 := ite_f hs13 hb16
      refine wp_exit (e_then (e_then (e_eq ?_)))
      have ht27 := hx14 _ (Option.some.inj hs13).symm
      subst ht27
      refine c_mid ?_
      have hM := hM.pull (pre := [_])
      have hM := M.fst (l := [_]) hM
      exact ⟨u11, hE.sub ⟨rfl, trivial⟩, hM⟩
  · skip
    rintro a w ⟨u8, hE, hM⟩
    refine c_nx ?_
    refine c_region ?_
    refine s_move hE goes_none (by decide) rfl ?_; intro a hE
    refine s_assign hE goes_none (by decide) rfl ?_; intro a hE
    refine c_fin ?_
    have hr := Option.some.inj hF7
    subst hr
    exact wp_ret (k_ret1 hE rfl (res_tmp hE rfl) ⟨_, rfl, u8, rfl, hM.outF (locN1 locN0), hM.kept⟩)
noncomputable def F_spec_l12Four (p0 : Int) : Option ((List UInt8)) :=
  some ([byteI (andI (shrI p0 24) 255), byteI (andI (shrI p0 16) 255), byteI (andI (shrI p0 8) 255), byteI (andI p0 255)] : List UInt8)
set_option maxRecDepth 20000 in
set_option maxHeartbeats 400000 in
theorem c_spec_l12Four (w0 : World) (p0 : Int) (r : (List UInt8)) (hF : F_spec_l12Four p0 = some r) :
    Calls Try.prog 88 [(vI p0)].toArray w0 (fun en w' => ∃ v, en = .returned v ∧ (∃ (y1 : Value), v = y1 ∧ Fr w0 w' [osl NoB (r : List UInt8) y1] ∧ Kept (Old w0) w0 w')) := by
  refine c_enter (n := 19) Try.func88 rfl rfl (Nat.le_of_ble_eq_true rfl) rfl ?_
  intro a hE
  have hM := M.start w0
  unfold F_spec_l12Four at hF
  refine c_region ?_
  refine s_assign hE goes_none (by decide) rfl ?_; intro a hE
  refine c_fin ?_
  refine c_region ?_
  refine s_move hE goes_none (by decide) rfl ?_; intro a hE
  refine s_sh hE goes_none (by decide) rfl rfl (bI_shr _ _ (by decide)) ?_; intro a hE
  refine s_int hE goes_none (by decide) rfl rfl rfl ?_; intro a hE
  refine s_conv hE goes_none (by decide) rfl Try.underlying2 Try.underlying5 ?_; intro a hE
  rw [byteI_val] at hE
  refine s_move hE goes_none (by decide) rfl ?_; intro a hE
  refine s_sh hE goes_none (by decide) rfl rfl (bI_shr _ _ (by decide)) ?_; intro a hE
  refine s_int hE goes_none (by decide) rfl rfl rfl ?_; intro a hE
  refine s_conv hE goes_none (by decide) rfl Try.underlying2 Try.underlying5 ?_; intro a hE
  rw [byteI_val] at hE
  refine s_move hE goes_none (by decide) rfl ?_; intro a hE
  refine s_sh hE goes_none (by decide) rfl rfl (bI_shr _ _ (by decide)) ?_; intro a hE
  refine s_int hE goes_none (by decide) rfl rfl rfl ?_; intro a hE
  refine s_conv hE goes_none (by decide) rfl Try.underlying2 Try.underlying5 ?_; intro a hE
  rw [byteI_val] at hE
  refine s_move hE goes_none (by decide) rfl ?_; intro a hE
  refine s_int hE goes_none (by decide) rfl rfl rfl ?_; intro a hE
  refine s_conv hE goes_none (by decide) rfl Try.underlying2 Try.underlying5 ?_; intro a hE
  rw [byteI_val] at hE
  refine s_buildF (xs := [.tmp 6, .tmp 10, .tmp 14, .tmp 17]) (l := ([byteI (andI (shrI p0 24) 255), byteI (andI (shrI p0 16) 255), byteI (andI (shrI p0 8) 255), byteI (andI p0 255)] : List UInt8)) (vs := [(vB (byteI (andI (shrI p0 24) 255))), (vB (byteI (andI (shrI p0 16) 255))), (vB (byteI (andI (shrI p0 8) 255))), (vB (byteI (andI p0 255)))]) hE hM goes_none (by decide) rfl rfl Try.underlying50 ty5 rfl (by decide) rfl ?_; intro u1 w a hM hE
  refine s_assign hE goes_none (by decide) rfl ?_; intro a hE
  refine c_fin ?_
  have hr := Option.some.inj hF
  subst hr
  exact wp_ret (k_ret1 hE rfl (res_tmp hE rfl) ⟨_, rfl, u1, rfl, hM.outF (locN1 locN0), hM.kept⟩)
noncomputable def F_spec_l12Step (p0 : (Vector UInt8 32)) (p1 : GEvent) : Option ((Vector UInt8 32)) :=
  ((F_spec_l08Bytes p0).bind fun (r13 : (List UInt8)) => (app 1 r13 ([byteI p1.Kind] : List UInt8)).bind fun (l18 : (List UInt8)) => some (r13 ++ ([byteI p1.Kind] : List UInt8)) : Option ((List UInt8))).bind fun (j7 : (List UInt8)) => (F_spec_l12Four p1.Number).bind fun (r24 : (List UInt8)) => (app 1 j7 r24).bind fun (l27 : (List UInt8)) => ((F_spec_l12Cipher).bind fun (r36 : GCipher) => (F_spec_l08Bytes p1.Tag).bind fun (r38 : (List UInt8)) => (app 1 (j7 ++ r24) r38).bind fun (l41 : (List UInt8)) => (F_spec_l08Of r36 ((j7 ++ r24) ++ r38)).bind fun (r46 : (Vector UInt8 32)) => some r46 : Option ((Vector UInt8 32))).bind fun (j32 : (Vector UInt8 32)) => some j32
set_option maxRecDepth 20000 in
set_option maxHeartbeats 400000 in
theorem c_spec_l12Step (w0 : World) (p0 : (Vector UInt8 32)) (p1 : GEvent) (r : (Vector UInt8 32)) (hF : F_spec_l12Step p0 p1 = some r) :
    Calls Try.prog 65 [(Value.agg (Flat.enc p0).toArray), (Value.agg (Flat.enc p1).toArray)].toArray w0 (fun en w' => ∃ v, en = .returned v ∧ (v = (Value.agg (Flat.enc r).toArray) ∧ Kept (Old w0) w0 w')) := by
  refine c_enter (n := 25) Try.func65 rfl rfl (Nat.le_of_ble_eq_true rfl) rfl ?_
  intro a hE
  have hM := M.start w0
  unfold F_spec_l12Step at hF
  refine c_region ?_
  refine s_box (cs := Flat.enc p0) hE hM goes_none (by decide) rfl rfl ?_; intro b1 w a hM hE
  refine s_box (cs := cat [[(vI p1.Kind)], [(vI p1.Number)], Flat.enc p1.Tag]) hE hM goes_none (by decide) rfl rfl ?_; intro b3 w a hM hE
  refine s_alloc hE hM goes_none (by decide) ty25 ?_; intro b5 w a hM hE
  refine c_fin ?_
  obtain ⟨j7, hl8, hF9⟩ := bind_some hF
  refine c_join (fun a w => ∃ (u10 : Value), Env 25 a [(3, (ptr b3 0)), (4, (ptr b5 0)), (5, u10)] ∧ M (Old w0) w0 w [raw b5 (Flat.enc (Vector.replicate 32 (0 : UInt8))), raw b3 (cat [[(vI p1.Kind)], [(vI p1.Number)], Flat.enc p1.Tag]), osl NoB (j7 : List UInt8) u10]) ?_ ?_
  · skip
    obtain ⟨r13, e14, hl8⟩ := bind_some hl8
    refine c_draw2 (n := 25) (hd := [_, _, _, _, _, _]) (tl := [_, _]) (its := [raw b5 (Flat.enc (Vector.replicate 32 (0 : UInt8))), raw b3 (cat [[(vI p1.Kind)], [(vI p1.Number)], Flat.enc p1.Tag]), raw b1 (Flat.enc p0)]) hmix rfl rfl [6, 7, 8, 9, 10, 11] (by decide) [(1, fun v => osl NoB (r13 : List UInt8) v), (5, fun v => osl NoB (([byteI p1.Kind] : List UInt8) : List UInt8) v)] rfl (fun j => ([fun v => v = (Value.agg (Flat.enc p0).toArray), fun v => True, fun v => v = (ptr b3 (0 + 0)), fun v => v = (vI p1.Kind), fun v => v = (vB (byteI p1.Kind)), fun v => True] : List (Value → Prop)).getD j (fun _ => True)) hE hM.drew (steps_of (steps_cons ?_ (steps_cons ?_ (steps_cons ?_ (steps_cons ?_ (steps_cons ?_ (steps_cons ?_ steps_nil))))))) ?_
    · intro a w ux12 D hE hM hD hp
      have hM0 := hM
      have hM : M (Old w0) w0 w [raw b5 (Flat.enc (Vector.replicate 32 (0 : UInt8))), raw b3 (cat [[(vI p1.Kind)], [(vI p1.Number)], Flat.enc p1.Tag]), raw b1 (Flat.enc p0), opt (D 1) (osl NoB (r13 : List UInt8) (ux12 1)), opt (D 5) (osl NoB (([byteI p1.Kind] : List UInt8) : List UInt8) (ux12 5))] := hM
      refine s_loadA (cs := Flat.enc p0) hE goes_none (by decide) rfl ty25 rfl (hM.rawAt (pre := [_, _])) (Flat.len _) ?_; intro a hE
      exact ⟨_, _, rfl, hE, rfl, hM0.optKeep rfl⟩
    · intro a w ux12 D hE hM hD hp
      have f0 : ux12 0 = (Value.agg (Flat.enc p0).toArray) := (hp 0 _ rfl rfl).2
      have hM0 := hM
      have hM : M (Old w0) w0 w [raw b5 (Flat.enc (Vector.replicate 32 (0 : UInt8))), raw b3 (cat [[(vI p1.Kind)], [(vI p1.Number)], Flat.enc p1.Tag]), raw b1 (Flat.enc p0), opt (D 1) (osl NoB (r13 : List UInt8) (ux12 1)), opt (D 5) (osl NoB (([byteI p1.Kind] : List UInt8) : List UInt8) (ux12 5))] := hM
      refine s_call (vs := [(Value.agg (Flat.enc p0).toArray)]) hE goes_none (by decide) (evs_of (evsC (lk rfl f0) evsN)) cb87 (c_spec_l08Bytes _ p0 r13 e14) ?_
      rintro _ w a ⟨_, rfl, hFr, hK⟩ hE
      have hM := hM0.add hK hFr
      exact ⟨_, _, rfl, hE, trivial, M.optFill (mk1 := []) (mk2 := [_]) (f := (fun v => osl NoB (r13 : List UInt8) v)) hM rfl hD⟩
    · intro a w ux12 D hE hM hD hp
      have hM0 := hM
      refine s_fieldAddr hE goes_none (by decide) rfl (fd65_0) ?_; intro a hE
      exact ⟨_, _, rfl, hE, rfl, hM0.optKeep rfl⟩
    · intro a w ux12 D hE hM hD hp
      have f2 : ux12 2 = (ptr b3 (0 + 0)) := (hp 0 _ rfl rfl).2
      have hM0 := hM
      have hM : M (Old w0) w0 w [raw b5 (Flat.enc (Vector.replicate 32 (0 : UInt8))), raw b3 (cat [[(vI p1.Kind)], [(vI p1.Number)], Flat.enc p1.Tag]), raw b1 (Flat.enc p0), opt (D 1) (osl NoB (r13 : List UInt8) (ux12 1)), opt (D 5) (osl NoB (([byteI p1.Kind] : List UInt8) : List UInt8) (ux12 5))] := hM
      refine s_load (v := (vI p1.Kind)) hE goes_none (by decide) (lk rfl f2) ty2 rfl (At.cat (pre := []) (seg := [(vI p1.Kind)]) (post := [[(vI p1.Number)], Flat.enc p1.Tag]) (hM.rawAt (pre := [_])) cl0) ?_; intro a hE
      exact ⟨_, _, rfl, hE, rfl, hM0.optKeep rfl⟩
    · intro a w ux12 D hE hM hD hp
      have f3 : ux12 3 = (vI p1.Kind) := (hp 0 _ rfl rfl).2
      have hM0 := hM
      refine s_conv hE goes_none (by decide) (lk rfl f3) Try.underlying2 Try.underlying5 ?_; intro a hE
      rw [byteI_val] at hE
      exact ⟨_, _, rfl, hE, rfl, hM0.optKeep rfl⟩
    · intro a w ux12 D hE hM hD hp
      have f4 : ux12 4 = (vB (byteI p1.Kind)) := (hp 0 _ rfl rfl).2
      have hM0 := hM
      have hM : M (Old w0) w0 w [raw b5 (Flat.enc (Vector.replicate 32 (0 : UInt8))), raw b3 (cat [[(vI p1.Kind)], [(vI p1.Number)], Flat.enc p1.Tag]), raw b1 (Flat.enc p0), opt (D 1) (osl NoB (r13 : List UInt8) (ux12 1)), opt (D 5) (osl NoB (([byteI p1.Kind] : List UInt8) : List UInt8) (ux12 5))] := hM
      refine s_buildF (xs := [.tmp 10]) (l := ([byteI p1.Kind] : List UInt8)) (vs := [(vB (byteI p1.Kind))]) hE hM goes_none (by decide) (evs_of (evsC (lk rfl f4) evsN)) rfl Try.underlying50 ty5 rfl (by decide) rfl ?_; intro u16 w a hM hE
      exact ⟨_, _, rfl, hE, trivial, M.optFill (mk1 := [_]) (mk2 := []) (f := (fun v => osl NoB (([byteI p1.Kind] : List UInt8) : List UInt8) v)) hM rfl hD⟩
    · intro a w ux12 hE hM hg
      have f0 : ux12 0 = (Value.agg (Flat.enc p0).toArray) := hg 0 (by decide)
      have f2 : ux12 2 = (ptr b3 (0 + 0)) := hg 2 (by decide)
      have f3 : ux12 3 = (vI p1.Kind) := hg 3 (by decide)
      have f4 : ux12 4 = (vB (byteI p1.Kind)) := hg 4 (by decide)
      have hM : M (Old w0) w0 w [raw b5 (Flat.enc (Vector.replicate 32 (0 : UInt8))), raw b3 (cat [[(vI p1.Kind)], [(vI p1.Number)], Flat.enc p1.Tag]), raw b1 (Flat.enc p0), osl NoB (r13 : List UInt8) (ux12 1), osl NoB (([byteI p1.Kind] : List UInt8) : List UInt8) (ux12 5)] := hM
      have hE := hE.sub (e' := [(6, (Value.agg (Flat.enc p0).toArray)), (7, (ux12 1)), (8, (ptr b3 (0 + 0))), (9, (vI p1.Kind)), (10, (vB (byteI p1.Kind))), (11, (ux12 5)), (0, (Value.agg (Flat.enc p0).toArray)), (1, (Value.agg (Flat.enc p1).toArray)), (2, (ptr b1 0)), (3, (ptr b3 0)), (4, (ptr b5 0))]) ⟨lk rfl f0, rfl, lk rfl f2, lk rfl f3, lk rfl f4, rfl, rfl, rfl, rfl, rfl, rfl, trivial⟩
      obtain ⟨l18, e19, hl8⟩ := bind_some hl8
      obtain ⟨e22, rfl⟩ := app_some e19
      have hM := hM.pull (pre := [_, _, _])
      refine s_appendF hE hM goes_none (by decide) rfl rfl (hM.sl (pre := [_, _, _, _]) noB) Try.underlying50 ty5 rfl (by decide) e22 ?_; intro u20 w a hM hE
      refine s_assign hE goes_none (by decide) rfl ?_; intro a hE
      refine c_fin0 ?_
      have ht23 := Option.some.inj hl8
      subst ht23
      refine c_mid ?_
      have hM := hM.pull (pre := [_, _])
      have hM := hM.pull (pre := [_, _])
      have hM := M.fst (l := [_, _, _]) hM
      exact ⟨u20, hE.sub ⟨rfl, rfl, rfl, trivial⟩, hM⟩
  · skip
    rintro a w ⟨u10, hE, hM⟩
    refine c_region ?_
    refine s_move hE goes_none (by decide) rfl ?_; intro a hE
    refine s_fieldAddr hE goes_none (by decide) rfl (fd65_1) ?_; intro a hE
    refine s_load (v := (vI p1.Number)) hE goes_none (by decide) rfl ty2 rfl (At.cat (pre := [[(vI p1.Kind)]]) (seg := [(vI p1.Number)]) (post := [Flat.enc p1.Tag]) (hM.rawAt (pre := [_])) (cl1 (n := 1) (m := 0) rfl cl0)) ?_; intro a hE
    obtain ⟨r24, e25, hF9⟩ := bind_some hF9
    refine s_call (vs := [(vI p1.Number)]) hE goes_none (by decide) rfl cb88 (c_spec_l12Four _ p1.Number r24 e25) ?_
    rintro u26 w a ⟨_, rfl, hFr, hK⟩ hE
    have hM := hM.add hK hFr
    obtain ⟨l27, e28, hF9⟩ := bind_some hF9
    obtain ⟨e31, rfl⟩ := app_some e28
    have hM := hM.pull (pre := [_, _, _])
    refine s_appendF hE hM goes_none (by decide) rfl rfl (hM.sl (pre := [_]) noB) Try.underlying50 ty5 rfl (by decide) e31 ?_; intro u29 w a hM hE
    refine s_assign hE goes_none (by decide) rfl ?_; intro a hE
    refine c_fin ?_
    obtain ⟨j32, hl33, hF34⟩ := bind_some hF9
    refine c_join (fun a w => Env 25 a [(4, (ptr b5 0))] ∧ M (Old w0) w0 w [raw b5 (Flat.enc j32)]) ?_ ?_
    · skip
      obtain ⟨r36, e37, hl33⟩ := bind_some hl33
      obtain ⟨r38, e39, hl33⟩ := bind_some hl33
      refine c_draw2 (n := 25) (hd := [_, _, _, _, _]) (tl := [_, _, _]) (its := [osl NoB ((j7 ++ r24) : List UInt8) u29, osl NoB (r24 : List UInt8) u26, raw b5 (Flat.enc (Vector.replicate 32 (0 : UInt8))), raw b3 (cat [[(vI p1.Kind)], [(vI p1.Number)], Flat.enc p1.Tag])]) hmix rfl rfl [18, 19, 20, 21, 22] (by decide) [(4, fun v => osl NoB (r38 : List UInt8) v)] rfl (fun j => ([fun v => v = (Value.agg (Flat.enc r36).toArray), fun v => v = u29, fun v => v = (ptr b3 (0 + 2)), fun v => v = (Value.agg (Flat.enc p1.Tag).toArray), fun v => True] : List (Value → Prop)).getD j (fun _ => True)) hE hM.drew (steps_of (steps_cons ?_ (steps_cons ?_ (steps_cons ?_ (steps_cons ?_ (steps_cons ?_ steps_nil)))))) ?_
      · intro a w ux35 D hE hM hD hp
        have hM0 := hM
        refine s_call (vs := []) hE goes_none (by decide) rfl cb64 (c_spec_l12Cipher _  r36 e37) ?_
        rintro v w a ⟨rfl, hK⟩ hE
        exact ⟨_, _, rfl, hE, rfl, (hM0.keep hK).optKeep rfl⟩
      · intro a w ux35 D hE hM hD hp
        have hM0 := hM
        refine s_move hE goes_none (by decide) rfl ?_; intro a hE
        exact ⟨_, _, rfl, hE, rfl, hM0.optKeep rfl⟩
      · intro a w ux35 D hE hM hD hp
        have hM0 := hM
        refine s_fieldAddr hE goes_none (by decide) rfl (fd65_2) ?_; intro a hE
        exact ⟨_, _, rfl, hE, rfl, hM0.optKeep rfl⟩
      · intro a w ux35 D hE hM hD hp
        have f2 : ux35 2 = (ptr b3 (0 + 2)) := (hp 0 _ rfl rfl).2
        have hM0 := hM
        have hM : M (Old w0) w0 w [osl NoB ((j7 ++ r24) : List UInt8) u29, osl NoB (r24 : List UInt8) u26, raw b5 (Flat.enc (Vector.replicate 32 (0 : UInt8))), raw b3 (cat [[(vI p1.Kind)], [(vI p1.Number)], Flat.enc p1.Tag]), opt (D 4) (osl NoB (r38 : List UInt8) (ux35 4))] := hM
        refine s_loadA (cs := Flat.enc p1.Tag) hE goes_none (by decide) (lk rfl f2) ty25 rfl (At.cat (pre := [[(vI p1.Kind)], [(vI p1.Number)]]) (seg := Flat.enc p1.Tag) (post := []) (hM.rawAt (pre := [_, _, _])) (cl1 (n := 1) (m := 1) rfl (cl1 (n := 1) (m := 0) rfl cl0))) (Flat.len _) ?_; intro a hE
        exact ⟨_, _, rfl, hE, rfl, hM0.optKeep rfl⟩
      · intro a w ux35 D hE hM hD hp
        have f3 : ux35 3 = (Value.agg (Flat.enc p1.Tag).toArray) := (hp 0 _ rfl rfl).2
        have hM0 := hM
        have hM : M (Old w0) w0 w [osl NoB ((j7 ++ r24) : List UInt8) u29, osl NoB (r24 : List UInt8) u26, raw b5 (Flat.enc (Vector.replicate 32 (0 : UInt8))), raw b3 (cat [[(vI p1.Kind)], [(vI p1.Number)], Flat.enc p1.Tag]), opt (D 4) (osl NoB (r38 : List UInt8) (ux35 4))] := hM
        refine s_call (vs := [(Value.agg (Flat.enc p1.Tag).toArray)]) hE goes_none (by decide) (evs_of (evsC (lk rfl f3) evsN)) cb87 (c_spec_l08Bytes _ p1.Tag r38 e39) ?_
        rintro _ w a ⟨_, rfl, hFr, hK⟩ hE
        have hM := hM0.add hK hFr
        exact ⟨_, _, rfl, hE, trivial, M.optFill (mk1 := []) (mk2 := []) (f := (fun v => osl NoB (r38 : List UInt8) v)) hM rfl hD⟩
      · intro a w ux35 hE hM hg
        have f0 : ux35 0 = (Value.agg (Flat.enc r36).toArray) := hg 0 (by decide)
        have f1 : ux35 1 = u29 := hg 1 (by decide)
        have f2 : ux35 2 = (ptr b3 (0 + 2)) := hg 2 (by decide)
        have f3 : ux35 3 = (Value.agg (Flat.enc p1.Tag).toArray) := hg 3 (by decide)
        have hM : M (Old w0) w0 w [osl NoB ((j7 ++ r24) : List UInt8) u29, osl NoB (r24 : List UInt8) u26, raw b5 (Flat.enc (Vector.replicate 32 (0 : UInt8))), raw b3 (cat [[(vI p1.Kind)], [(vI p1.Number)], Flat.enc p1.Tag]), osl NoB (r38 : List UInt8) (ux35 4)] := hM
        have hE := hE.sub (e' := [(18, (Value.agg (Flat.enc r36).toArray)), (19, u29), (20, (ptr b3 (0 + 2))), (21, (Value.agg (Flat.enc p1.Tag).toArray)), (22, (ux35 4)), (3, (ptr b3 0)), (4, (ptr b5 0)), (5, u29), (13, u10), (14, (ptr b3 (0 + 1))), (15, (vI p1.Number)), (16, u26), (17, u29)]) ⟨lk rfl f0, lk rfl f1, lk rfl f2, lk rfl f3, rfl, rfl, rfl, rfl, rfl, rfl, rfl, rfl, rfl, trivial⟩
        obtain ⟨l41, e42, hl33⟩ := bind_some hl33
        obtain ⟨e45, rfl⟩ := app_some e42
        refine s_appendF hE hM goes_none (by decide) rfl rfl (hM.sl (pre := [_, _, _, _]) noB) Try.underlying50 ty5 rfl (by decide) e45 ?_; intro u43 w a hM hE
        obtain ⟨r46, e47, hl33⟩ := bind_some hl33
        refine s_call (vs := [(Value.agg (Flat.enc r36).toArray), u43]) hE goes_none (by decide) rfl cb63 (c_spec_l08Of _ r36 ((j7 ++ r24) ++ r38) u43 (hM.sl (pre := []) noB) r46 e47) ?_
        rintro v w a ⟨rfl, hK⟩ hE
        have hM := hM.keep hK
        have hM := hM.pull (pre := [_, _])
        refine s_store (seg := Flat.enc r46) (cs' := Flat.enc r46) hE hM goes_none rfl rfl rfl ty25 (Flat.len _) (Nat.le_of_eq ((Nat.zero_add _).trans (Eq.trans (Flat.len _) (Eq.symm (Flat.len _))))) (Flat.cell _) (splice_all (Eq.trans (Flat.len _) (Eq.symm (Flat.len _)))) ?_; intro w a hM hE
        refine c_fin0 ?_
        have ht48 := Option.some.inj hl33
        subst ht48
        refine c_mid ?_
        have hM := M.fst (l := [_]) hM
        exact ⟨hE.sub ⟨rfl, trivial⟩, hM⟩
    · skip
      rintro a w ⟨hE, hM⟩
      have hr := Option.some.inj hF34
      subst hr
      have hq49 : ResIs Try.prog _ _ (.cell 4 25) _ := res_cell hE rfl ty25 rfl (hM.rawAt (pre := [])) (Flat.len _) rfl
      have hM := M.fst (l := []) hM
      exact wp_ret (k_ret1 hE rfl hq49 ⟨_, rfl, rfl, hM.kept⟩)
noncomputable def L0_spec_l12Head (p0 : (List GEvent)) (s19 : (Vector UInt8 32) × Int) : Option (Fl ((Vector UInt8 32) × Int) (Vector UInt8 32)) :=
  if (decide (s19.2 < (p0.length : Int))) = true then ((idx p0 s19.2).bind fun (x25 : GEvent) => (F_spec_l12Step s19.1 x25).bind fun (r28 : (Vector UInt8 32)) => some (Fl.nx (r28, wr (s19.2 + 1)))) else (some (Fl.ex s19.1))
noncomputable def F_spec_l12Head (p0 : (List GEvent)) : Option ((Vector UInt8 32)) :=
  (F_spec_l12Cipher).bind fun (r4 : GCipher) => (mkS 1 (0 : UInt8) 32).bind fun (l6 : (List UInt8)) => (F_spec_l08Of r4 l6).bind fun (r10 : (Vector UInt8 32)) => (iter (L0_spec_l12Head p0) (r10, 0) : Option ((Vector UInt8 32))).bind fun (j16 : (Vector UInt8 32)) => some j16
set_option maxRecDepth 20000 in
set_option maxHeartbeats 400000 in
theorem c_spec_l12Head (w0 : World) (p0 : (List GEvent)) (v0_1 : Value) (hv0_1 : Ro w0 p0 [v0_1]) (r : (Vector UInt8 32)) (hF : F_spec_l12Head p0 = some r) :
    Calls Try.prog 29 [v0_1].toArray w0 (fun en w' => ∃ v, en = .returned v ∧ (v = (Value.agg (Flat.enc r).toArray) ∧ Kept (Old w0) w0 w')) := by
  refine c_enter (n := 21) Try.func29 rfl rfl (Nat.le_of_ble_eq_true rfl) rfl ?_
  intro a hE
  have hM := M.start w0
  unfold F_spec_l12Head at hF
  refine c_region ?_
  refine s_alloc hE hM goes_none (by decide) ty25 ?_; intro b1 w a hM hE
  refine c_fin ?_
  refine wp_seq ?_
  obtain ⟨r4, e5, hF⟩ := bind_some hF
  obtain ⟨l6, e7, hF⟩ := bind_some hF
  obtain ⟨r10, e11, hF⟩ := bind_some hF
  refine c_draw3 (n := 21) (hd := [_, _, _, _]) (tl := [_]) hmix rfl rfl [5, 6, 7, 3] (by decide) (fun D u w => M (Old w0) w0 w ([raw b1 (Flat.enc (Vector.replicate 32 (0 : UInt8)))] ++ qL ([mkO 1 (fun v => osl NoB (l6 : List UInt8) v), mkO 3 (fun v => rawP v (Flat.enc (Vector.replicate 32 (0 : UInt8))))] : Mk) D u) ∧ GOk ([([], fun us v => v = (Value.agg (Flat.enc r4).toArray)), ([], fun us v => True), ([], fun us v => v = (Value.agg (Flat.enc r10).toArray)), ([], fun us v => True)] : Gs) D u) hE (fun u => ⟨M.qE (M.qE (M.q0 hM.drew u) emO) emO, gok0⟩) (steps_of (steps_cons ?_ (steps_cons ?_ (steps_cons ?_ (steps_cons ?_ steps_nil))))) ?_
  · intro a w ux3 D hE hI hD hdc hp
    have hM0 := hI.1
    have hM : M (Old w0) w0 w [raw b1 (Flat.enc (Vector.replicate 32 (0 : UInt8))), opt (D 1) (osl NoB (l6 : List UInt8) (ux3 1)), opt (D 3) (rawP (ux3 3) (Flat.enc (Vector.replicate 32 (0 : UInt8))))] := hI.1
    refine s_call (vs := []) hE goes_none (by decide) rfl cb64 (c_spec_l12Cipher _  r4 e5) ?_
    rintro v w a ⟨rfl, hK⟩ hE
    exact ⟨_, _, rfl, hE, M.qKeep (hM0.keep hK) rfl, hI.2.put hD rfl allN rfl⟩
  · intro a w ux3 D hE hI hD hdc hp
    have hM0 := hI.1
    have hM : M (Old w0) w0 w [raw b1 (Flat.enc (Vector.replicate 32 (0 : UInt8))), opt (D 1) (osl NoB (l6 : List UInt8) (ux3 1)), opt (D 3) (rawP (ux3 3) (Flat.enc (Vector.replicate 32 (0 : UInt8))))] := hI.1
    refine s_make hE hM goes_none (by decide) rfl rfl Try.underlying50 ty5 rfl (by decide) (fun _ => sat_flat.2 ⟨rfl, rfl⟩) e7 ?_; intro u8 w a hM hE
    exact ⟨_, _, rfl, hE, M.qFill (mk1 := []) (mk2 := [_]) (f := (fun v => osl NoB (l6 : List UInt8) v)) hM rfl hD, hI.2.put hD rfl allN trivial⟩
  · intro a w ux3 D hE hI hD hdc hp
    have d0 : D 0 = true := hp 0 _ rfl rfl
    have g0 := hI.2 0 d0 _ rfl
    have f0 : ux3 0 = (Value.agg (Flat.enc r4).toArray) := g0.2
    have d1 : D 1 = true := hp 1 _ rfl rfl
    have g1 := hI.2 1 d1 _ rfl
    have hM0 := hI.1
    have hM : M (Old w0) w0 w [raw b1 (Flat.enc (Vector.replicate 32 (0 : UInt8))), opt (D 1) (osl NoB (l6 : List UInt8) (ux3 1)), opt (D 3) (rawP (ux3 3) (Flat.enc (Vector.replicate 32 (0 : UInt8))))] := hI.1
    have hM := hM.sure (pre := [_]) d1
    refine s_call (vs := [(Value.agg (Flat.enc r4).toArray), (ux3 1)]) hE goes_none (by decide) (evs_of (evsC (lk rfl f0) (evsC rfl evsN))) cb63 (c_spec_l08Of _ r4 l6 (ux3 1) (hM.sl (pre := [_]) noB) r10 e11) ?_
    rintro v w a ⟨rfl, hK⟩ hE
    exact ⟨_, _, rfl, hE, M.qKeep (hM0.keep hK) rfl, hI.2.put hD rfl allN rfl⟩
  · intro a w ux3 D hE hI hD hdc hp
    have hM0 := hI.1
    have hM : M (Old w0) w0 w [raw b1 (Flat.enc (Vector.replicate 32 (0 : UInt8))), opt (D 1) (osl NoB (l6 : List UInt8) (ux3 1)), opt (D 3) (rawP (ux3 3) (Flat.enc (Vector.replicate 32 (0 : UInt8))))] := hI.1
    refine s_alloc hE hM goes_none (by decide) ty25 ?_; intro b12 w a hM hE
    have hM := hM.pack1 (it := rawP _ (Flat.enc (Vector.replicate 32 (0 : UInt8)))) (fun w w' fp ⟨b', e, k⟩ hb => ⟨b', e, raw_loc w w' fp k hb⟩) (fun fp k => ⟨_, rfl, k⟩)
    exact ⟨_, _, rfl, hE, M.qFill (mk1 := [_]) (mk2 := []) (f := fun v => rawP v (Flat.enc (Vector.replicate 32 (0 : UInt8)))) hM rfl hD, hI.2.put hD rfl allN trivial⟩
  · intro a w ux3 D hE hI hall
    have hM : M (Old w0) w0 w [raw b1 (Flat.enc (Vector.replicate 32 (0 : UInt8))), opt (D 1) (osl NoB (l6 : List UInt8) (ux3 1)), opt (D 3) (rawP (ux3 3) (Flat.enc (Vector.replicate 32 (0 : UInt8))))] := hI.1
    have d0 : D 0 = true := hall 0 (by decide)
    have d1 : D 1 = true := hall 1 (by decide)
    have d2 : D 2 = true := hall 2 (by decide)
    have d3 : D 3 = true := hall 3 (by decide)
    have f0 : ux3 0 = (Value.agg (Flat.enc r4).toArray) := (hI.2 0 d0 _ rfl).2
    have f2 : ux3 2 = (Value.agg (Flat.enc r10).toArray) := (hI.2 2 d2 _ rfl).2
    have hM := hM.sure (pre := [_]) d1
    have hM := (hM.sure (pre := [_, _]) d3).pull
    obtain ⟨_, ⟨b14, f15, _⟩, _⟩ := hM.head
    have hM := hM.pack1 raw_loc (it := raw b14 (Flat.enc (Vector.replicate 32 (0 : UInt8)))) (fun fp ⟨b2, e2, k2⟩ => by rw [f15] at e2; simp [ptr] at e2; subst e2; exact k2)
    have hE := hE.sub (e' := [(5, (Value.agg (Flat.enc r4).toArray)), (6, (ux3 1)), (7, (Value.agg (Flat.enc r10).toArray)), (3, (ptr b14 0)), (0, v0_1), (2, (ptr b1 0))]) ⟨lk rfl f0, rfl, lk rfl f2, lk rfl f15, rfl, rfl, trivial⟩
    refine s_store (seg := Flat.enc r10) (cs' := Flat.enc r10) hE hM goes_none rfl rfl rfl ty25 (Flat.len _) (Nat.le_of_eq ((Nat.zero_add _).trans (Eq.trans (Flat.len _) (Eq.symm (Flat.len _))))) (Flat.cell _) (splice_all (Eq.trans (Flat.len _) (Eq.symm (Flat.len _)))) ?_; intro w a hM hE
    refine c_fin0 ?_
    refine c_nx ?_
    refine wp_seq ?_
    refine c_region ?_
    refine s_assign hE goes_none (by decide) rfl ?_; intro a hE
    refine c_fin ?_
    obtain ⟨j16, hl17, hF18⟩ := bind_some hF
    refine c_cut (fun a w => Env 21 a [(2, (ptr b1 0)), (3, (ptr b14 0))] ∧ M (Old w0) w0 w [raw b14 (Flat.enc j16), raw b1 (Flat.enc (Vector.replicate 32 (0 : UInt8)))]) ?_ ?_
    · skip
      refine wp_block ?_
      have hM := hM.pull (pre := [_])
      have hM := hM.pull (pre := [_])
      have hM := M.fst (l := [_, _]) hM
      refine c_loop (fun (s19 : (Vector UInt8 32) × Int) a w => Env 21 a [(0, v0_1), (2, (ptr b1 0)), (3, (ptr b14 0)), (4, (vI s19.2))] ∧ M (Old w0) w0 w [raw b14 (Flat.enc s19.1), raw b1 (Flat.enc (Vector.replicate 32 (0 : UInt8)))]) hl17 ⟨hE.sub ⟨rfl, rfl, rfl, rfl, trivial⟩, hM⟩ ?_
      rintro s19 a w ⟨hE, hM⟩ o22 hs20 hx21
      unfold L0_spec_l12Head at hs20
      refine wp_seq ?_
      refine c_region ?_
      refine s_move hE goes_none (by decide) rfl ?_; intro a hE
      refine s_move hE goes_none (by decide) rfl ?_; intro a hE
      refine s_len hE goes_none (by decide) rfl Try.underlying28 (hM.rd hv0_1) ?_; intro a hE
      refine s_int hE goes_none (by decide) rfl rfl rfl ?_; intro a hE
      refine c_fin ?_
      refine c_cond hE rfl ?_ ?_
      · intro hb23
        have hs20 := ite_t hs20 hb23
        refine wp_skip ?_
        refine c_nx ?_
        refine wp_seq ?_
        refine wp_block ?_
        obtain ⟨x25, e26, hs20⟩ := bind_some hs20
        have hi27 := idx_some e26
        obtain ⟨r28, e29, hs20⟩ := bind_some hs20
        refine c_draw (n := 21) (hd := [_, _, _, _, _, _]) (tl := [_]) hmix rfl rfl [14, 15, 16, 17, 18, 19] (by decide) (fun w => M (Old w0) w0 w [raw b14 (Flat.enc s19.1), raw b1 (Flat.enc (Vector.replicate 32 (0 : UInt8)))]) (fun j => ([fun v _ => v = (Value.agg (Flat.enc s19.1).toArray), fun v _ => v = v0_1, fun v _ => v = (vI s19.2), fun v _ => v = (ptr (sb v0_1) (so v0_1 + (s19.2).toNat * 34)), fun v _ => v = (Value.agg (Flat.enc x25).toArray), fun v _ => v = (Value.agg (Flat.enc r28).toArray)] : List (Value → World → Prop)).getD j (fun _ _ => True)) (fun _ _ h hk => h.keep hk) (gup (gupE (gupE (gupE (gupE (gupE (gupE gupN))))))) hE hM.drew (steps_of (steps_cons ?_ (steps_cons ?_ (steps_cons ?_ (steps_cons ?_ (steps_cons ?_ (steps_cons ?_ steps_nil))))))) ?_
        · intro a w ux24 hE hM hp
          refine s_loadA (cs := Flat.enc s19.1) hE goes_none (by decide) rfl ty25 rfl (hM.rawAt (pre := [])) (Flat.len _) ?_; intro a hE
          exact ⟨Kept.refl _ _, _, _, rfl, hE, rfl⟩
        · intro a w ux24 hE hM hp
          refine s_move hE goes_none (by decide) rfl ?_; intro a hE
          exact ⟨Kept.refl _ _, _, _, rfl, hE, rfl⟩
        · intro a w ux24 hE hM hp
          refine s_move hE goes_none (by decide) rfl ?_; intro a hE
          exact ⟨Kept.refl _ _, _, _, rfl, hE, rfl⟩
        · intro a w ux24 hE hM hp
          have f1 : ux24 1 = v0_1 := hp 0 _ rfl rfl
          have f2 : ux24 2 = (vI s19.2) := hp 1 _ rfl rfl
          refine s_indexS hE goes_none (by decide) (lk rfl f1) (lk rfl f2) Try.underlying28 ty65 (hM.rd hv0_1) hi27.1 ?_; intro a hE
          exact ⟨Kept.refl _ _, _, _, rfl, hE, rfl⟩
        · intro a w ux24 hE hM hp
          have f3 : ux24 3 = (ptr (sb v0_1) (so v0_1 + (s19.2).toNat * 34)) := hp 0 _ rfl rfl
          refine s_loadA (cs := Flat.enc x25) hE goes_none (by decide) (lk rfl f3) ty65 rfl (sl_atF (hM.rd hv0_1) hi27.2) (cat_len (cl1 (n := 1) (m := 33) rfl (cl1 (n := 1) (m := 32) rfl (cl1 (n := 32) (m := 0) (Flat.len _) cl0)))) ?_; intro a hE
          exact ⟨Kept.refl _ _, _, _, rfl, hE, rfl⟩
        · intro a w ux24 hE hM hp
          have f0 : ux24 0 = (Value.agg (Flat.enc s19.1).toArray) := hp 0 _ rfl rfl
          have f4 : ux24 4 = (Value.agg (Flat.enc x25).toArray) := hp 1 _ rfl rfl
          refine s_call (vs := [(Value.agg (Flat.enc s19.1).toArray), (Value.agg (Flat.enc x25).toArray)]) hE goes_none (by decide) (evs_of (evsC (lk rfl f0) (evsC (lk rfl f4) evsN))) cb65 (c_spec_l12Step _ s19.1 x25 r28 e29) ?_
          rintro v w a ⟨rfl, hK⟩ hE
          exact ⟨hK, _, _, rfl, hE, rfl⟩
        · intro a w ux24 hE hM hg
          have f0 : ux24 0 = (Value.agg (Flat.enc s19.1).toArray) := hg 0 (by decide)
          have f1 : ux24 1 = v0_1 := hg 1 (by decide)
          have f2 : ux24 2 = (vI s19.2) := hg 2 (by decide)
          have f3 : ux24 3 = (ptr (sb v0_1) (so v0_1 + (s19.2).toNat * 34)) := hg 3 (by decide)
          have f4 : ux24 4 = (Value.agg (Flat.enc x25).toArray) := hg 4 (by decide)
          have f5 : ux24 5 = (Value.agg (Flat.enc r28).toArray) := hg 5 (by decide)
          have hE := hE.sub (e' := [(14, (Value.agg (Flat.enc s19.1).toArray)), (15, v0_1), (16, (vI s19.2)), (17, (ptr (sb v0_1) (so v0_1 + (s19.2).toNat * 34))), (18, (Value.agg (Flat.enc x25).toArray)), (19, (Value.agg (Flat.enc r28).toArray)), (0, v0_1), (2, (ptr b1 0)), (3, (ptr b14 0)), (4, (vI s19.2)), (8, (vI s19.2)), (9, v0_1), (10, (vI (p0.length : Int))), (11, (vT (decide (s19.2 < (p0.length : Int)))))]) ⟨lk rfl f0, lk rfl f1, lk rfl f2, lk rfl f3, lk rfl f4, lk rfl f5, rfl, rfl, rfl, rfl, rfl, rfl, rfl, rfl, trivial⟩
          refine s_store (seg := Flat.enc r28) (cs' := Flat.enc r28) hE hM goes_none rfl rfl rfl ty25 (Flat.len _) (Nat.le_of_eq ((Nat.zero_add _).trans (Eq.trans (Flat.len _) (Eq.symm (Flat.len _))))) (Flat.cell _) (splice_all (Eq.trans (Flat.len _) (Eq.symm (Flat.len _)))) ?_; intro w a hM hE
          refine c_fin0 ?_
          refine c_nb ?_
          refine c_nx ?_
          refine wp_region_lit ?_
          refine s_move hE goes_none (by decide) rfl ?_; intro a hE
          refine s_int hE goes_none (by decide) rfl rfl rfl ?_; intro a hE
          refine s_assign hE goes_none (by decide) rfl ?_; intro a hE
          refine c_fin0 ?_
          refine c_mid ?_
          exact ⟨_, (Option.some.inj hs20).symm, hE.sub ⟨rfl, rfl, rfl, rfl, trivial⟩, hM⟩
      · intro hb23
        have hs20 := ite_f hs20 hb23
        refine wp_exit (e_then (e_then (e_eq ?_)))
        have ht30 := hx21 _ (Option.some.inj hs20).symm
        subst ht30
        refine c_mid ?_
        exact ⟨hE.sub ⟨rfl, rfl, trivial⟩, hM⟩
    · skip
      rintro a w ⟨hE, hM⟩
      refine c_nx ?_
      refine c_region ?_
      refine s_loadA (cs := Flat.enc j16) hE goes_none (by decide) rfl ty25 rfl (hM.rawAt (pre := [])) (Flat.len _) ?_; intro a hE
      have hM := hM.pull (pre := [_])
      refine s_store (seg := Flat.enc j16) (cs' := Flat.enc j16) hE hM goes_none rfl rfl rfl ty25 (Flat.len _) (Nat.le_of_eq ((Nat.zero_add _).trans (Eq.trans (Flat.len _) (Eq.symm (Flat.len _))))) (Flat.cell _) (splice_all (Eq.trans (Flat.len _) (Eq.symm (Flat.len _)))) ?_; intro w a hM hE
      refine c_fin ?_
      have hr := Option.some.inj hF18
      subst hr
      have hq31 : ResIs Try.prog _ _ (.cell 2 25) _ := res_cell hE rfl ty25 rfl (hM.rawAt (pre := [])) (Flat.len _) rfl
      have hM := M.fst (l := []) hM
      exact wp_ret (k_ret1 hE rfl hq31 ⟨_, rfl, rfl, hM.kept⟩)
noncomputable def F_spec_NewVault (p0 : (Vector UInt8 16)) : Option (GVault) :=
  ((F_spec_l12Head ([] : (List GEvent))).bind fun (r13 : (Vector UInt8 32)) => some (([p0] : List (Vector UInt8 16)), 1, r13) : Option ((List (Vector UInt8 16)) × Int × (Vector UInt8 32))).bind fun (j5 : (List (Vector UInt8 16)) × Int × (Vector UInt8 32)) => some (⟨j5.1, j5.2.1, [], [], j5.2.2⟩ : GVault)
set_option maxRecDepth 20000 in
set_option maxHeartbeats 400000 in
theorem c_spec_NewVault (w0 : World) (p0 : (Vector UInt8 16)) (r : GVault) (hF : F_spec_NewVault p0 = some r) :
    Calls Try.prog 12 [(Value.agg (Flat.enc p0).toArray)].toArray w0 (fun en w' => ∃ v, en = .returned v ∧ (∃ (y1 : Value) (y2 : Value) (y3 : Value), v = (Value.agg (cat [[y1], [(vI r.Next)], [y2], [y3], Flat.enc r.Head]).toArray) ∧ Fr w0 w' [osl NoB (r.Keys : List (Vector UInt8 16)) y1, osl NoB (r.Records : List GRecord) y2, osl NoB (r.Events : List GEvent) y3] ∧ Kept (Old w0) w0 w')) := by
  refine c_enter (n := 7) Try.func12 rfl rfl (Nat.le_of_ble_eq_true rfl) rfl ?_
  intro a hE
  have hM := M.start w0
  unfold F_spec_NewVault at hF
  refine c_region ?_
  refine s_box (cs := Flat.enc p0) hE hM goes_none (by decide) rfl rfl ?_; intro b1 w a hM hE
  refine s_alloc hE hM goes_none (by decide) ty37 ?_; intro b3 w a hM hE
  refine c_fin ?_
  obtain ⟨j5, hl6, hF7⟩ := bind_some hF
  refine c_join (fun a w => ∃ (u8 : Value), Env 7 a [(2, (ptr b3 0))] ∧ M (Old w0) w0 w [raw b3 (cat [[u8], [(vI j5.2.1)], [(Value.slice none 0 0)], [(Value.slice none 0 0)], Flat.enc j5.2.2]), osl NoB (j5.1 : List (Vector UInt8 16)) u8]) ?_ ?_
  · skip
    obtain ⟨r13, e14, hl6⟩ := bind_some hl6
    refine c_draw2 (n := 7) (hd := [_, _, _]) (tl := [_, _]) (its := [raw b3 (cat [[(Value.slice none 0 0)], [(vI 0)], [(Value.slice none 0 0)], [(Value.slice none 0 0)], Flat.enc (Vector.replicate 32 (0 : UInt8))]), raw b1 (Flat.enc p0)]) hmix rfl rfl [3, 4, 5] (by decide) [(1, fun v => osl NoB (([p0] : List (Vector UInt8 16)) : List (Vector UInt8 16)) v)] rfl (fun j => ([fun v => v = (Value.agg (Flat.enc p0).toArray), fun v => True, fun v => v = (Value.agg (Flat.enc r13).toArray)] : List (Value → Prop)).getD j (fun _ => True)) hE hM.drew (steps_of (steps_cons ?_ (steps_cons ?_ (steps_cons ?_ steps_nil)))) ?_
    · intro a w ux10 D hE hM hD hp
      have hM0 := hM
      have hM : M (Old w0) w0 w [raw b3 (cat [[(Value.slice none 0 0)], [(vI 0)], [(Value.slice none 0 0)], [(Value.slice none 0 0)], Flat.enc (Vector.replicate 32 (0 : UInt8))]), raw b1 (Flat.enc p0), opt (D 1) (osl NoB (([p0] : List (Vector UInt8 16)) : List (Vector UInt8 16)) (ux10 1))] := hM
      refine s_loadA (cs := Flat.enc p0) hE goes_none (by decide) rfl ty39 rfl (hM.rawAt (pre := [_])) (Flat.len _) ?_; intro a hE
      exact ⟨_, _, rfl, hE, rfl, hM0.optKeep rfl⟩
    · intro a w ux10 D hE hM hD hp
      have f0 : ux10 0 = (Value.agg (Flat.enc p0).toArray) := (hp 0 _ rfl rfl).2
      have hM0 := hM
      have hM : M (Old w0) w0 w [raw b3 (cat [[(Value.slice none 0 0)], [(vI 0)], [(Value.slice none 0 0)], [(Value.slice none 0 0)], Flat.enc (Vector.replicate 32 (0 : UInt8))]), raw b1 (Flat.enc p0), opt (D 1) (osl NoB (([p0] : List (Vector UInt8 16)) : List (Vector UInt8 16)) (ux10 1))] := hM
      refine s_buildF (xs := [.tmp 3]) (l := ([p0] : List (Vector UInt8 16))) (vs := [(Value.agg (Flat.enc p0).toArray)]) hE hM goes_none (by decide) (evs_of (evsC (lk rfl f0) evsN)) rfl Try.underlying34 ty39 rfl (by decide) rfl ?_; intro u11 w a hM hE
      exact ⟨_, _, rfl, hE, trivial, M.optFill (mk1 := []) (mk2 := []) (f := (fun v => osl NoB (([p0] : List (Vector UInt8 16)) : List (Vector UInt8 16)) v)) hM rfl hD⟩
    · intro a w ux10 D hE hM hD hp
      have hM0 := hM
      refine s_call (vs := [(Value.slice none 0 0)]) hE goes_none (by decide) rfl cb29 (c_spec_l12Head _ ([] : (List GEvent)) (Value.slice none 0 0) ro_nil r13 e14) ?_
      rintro v w a ⟨rfl, hK⟩ hE
      exact ⟨_, _, rfl, hE, rfl, (hM0.keep hK).optKeep rfl⟩
    · intro a w ux10 hE hM hg
      have f0 : ux10 0 = (Value.agg (Flat.enc p0).toArray) := hg 0 (by decide)
      have f2 : ux10 2 = (Value.agg (Flat.enc r13).toArray) := hg 2 (by decide)
      have hM : M (Old w0) w0 w [raw b3 (cat [[(Value.slice none 0 0)], [(vI 0)], [(Value.slice none 0 0)], [(Value.slice none 0 0)], Flat.enc (Vector.replicate 32 (0 : UInt8))]), raw b1 (Flat.enc p0), osl NoB (([p0] : List (Vector UInt8 16)) : List (Vector UInt8 16)) (ux10 1)] := hM
      have hE := hE.sub (e' := [(3, (Value.agg (Flat.enc p0).toArray)), (4, (ux10 1)), (5, (Value.agg (Flat.enc r13).toArray)), (0, (Value.agg (Flat.enc p0).toArray)), (1, (ptr b1 0)), (2, (ptr b3 0))]) ⟨lk rfl f0, rfl, lk rfl f2, rfl, rfl, rfl, trivial⟩
      refine s_buildStr (parts := [(0, .tmp 4), (1, .const (vI 1)), (4, .tmp 5)]) (vs := [(0, (ux10 1)), (1, (vI 1)), (4, (Value.agg (Flat.enc r13).toArray))]) (cs := cat [[(ux10 1)], [(vI 1)], [(Value.slice none 0 0)], [(Value.slice none 0 0)], Flat.enc r13]) hE goes_none (by decide) rfl rfl ty37 pl37 (fill_step (pre := []) (seg := [(Value.slice none 0 0)]) (seg' := [(ux10 1)]) (post := [[(vI 0)], [(Value.slice none 0 0)], [(Value.slice none 0 0)], Flat.enc (Vector.replicate 32 (0 : UInt8))]) rfl cl0 rfl rfl (sl_cells (hM.sl (pre := [_, _]) noB)) (fill_step (pre := [[(ux10 1)]]) (seg := [(vI 0)]) (seg' := [(vI 1)]) (post := [[(Value.slice none 0 0)], [(Value.slice none 0 0)], Flat.enc (Vector.replicate 32 (0 : UInt8))]) rfl (cl1 (n := 1) (m := 0) rfl cl0) rfl rfl rfl (fill_step (pre := [[(ux10 1)], [(vI 1)], [(Value.slice none 0 0)], [(Value.slice none 0 0)]]) (seg := Flat.enc (Vector.replicate 32 (0 : UInt8))) (seg' := Flat.enc r13) (post := []) rfl (cl1 (n := 1) (m := 3) rfl (cl1 (n := 1) (m := 2) rfl (cl1 (n := 1) (m := 1) rfl (cl1 (n := 1) (m := 0) rfl cl0)))) (Flat.len _) (Flat.len _) rfl fill_nil))) ?_; intro a hE
      refine s_store (seg := cat [[(ux10 1)], [(vI 1)], [(Value.slice none 0 0)], [(Value.slice none 0 0)], Flat.enc r13]) (cs' := cat [[(ux10 1)], [(vI 1)], [(Value.slice none 0 0)], [(Value.slice none 0 0)], Flat.enc r13]) hE hM goes_none rfl rfl rfl ty37 (cat_len (cl1 (n := 1) (m := 35) rfl (cl1 (n := 1) (m := 34) rfl (cl1 (n := 1) (m := 33) rfl (cl1 (n := 1) (m := 32) rfl (cl1 (n := 32) (m := 0) (Flat.len _) cl0)))))) (Nat.le_of_eq ((Nat.zero_add _).trans (Eq.trans (cat_len (cl1 (n := 1) (m := 35) rfl (cl1 (n := 1) (m := 34) rfl (cl1 (n := 1) (m := 33) rfl (cl1 (n := 1) (m := 32) rfl (cl1 (n := 32) (m := 0) (Flat.len _) cl0)))))) (Eq.symm (cat_len (cl1 (n := 1) (m := 35) rfl (cl1 (n := 1) (m := 34) rfl (cl1 (n := 1) (m := 33) rfl (cl1 (n := 1) (m := 32) rfl (cl1 (n := 32) (m := 0) (Flat.len _) cl0)))))))))) (cat_cell (cc1 (Rep.cell (hM.sl (pre := [_, _]) noB)) (cc1 (Flat.cell (1 : Int)) (cc1 cellNil (cc1 cellNil (cc1 (Flat.cell _) cc0)))))) (splice_all (Eq.trans (cat_len (cl1 (n := 1) (m := 35) rfl (cl1 (n := 1) (m := 34) rfl (cl1 (n := 1) (m := 33) rfl (cl1 (n := 1) (m := 32) rfl (cl1 (n := 32) (m := 0) (Flat.len _) cl0)))))) (Eq.symm (cat_len (cl1 (n := 1) (m := 35) rfl (cl1 (n := 1) (m := 34) rfl (cl1 (n := 1) (m := 33) rfl (cl1 (n := 1) (m := 32) rfl (cl1 (n := 32) (m := 0) (Flat.len _) cl0))))))))) ?_; intro w a hM hE
      refine c_fin0 ?_
      have ht15 := Option.some.inj hl6
      subst ht15
      refine c_mid ?_
      have hM := hM.pull (pre := [_, _])
      have hM := hM.pull (pre := [_])
      have hM := M.fst (l := [_, _]) hM
      exact ⟨(ux10 1), hE.sub ⟨rfl, trivial⟩, hM⟩
  · skip
    rintro a w ⟨u8, hE, hM⟩
    have hM := M.nilS (α := GRecord) NoB noB hM
    have hM := M.nilS (α := GEvent) NoB noB hM
    have hr := Option.some.inj hF7
    subst hr
    have hq18 : ResIs Try.prog _ _ (.cell 2 37) _ := res_cell hE rfl ty37 rfl (hM.rawAt (pre := [_, _])) (cat_len (cl1 (n := 1) (m := 35) rfl (cl1 (n := 1) (m := 34) rfl (cl1 (n := 1) (m := 33) rfl (cl1 (n := 1) (m := 32) rfl (cl1 (n := 32) (m := 0) (Flat.len _) cl0)))))) rfl
    have hM := hM.pull (pre := [_])
    have hM := hM.pull (pre := [_, _, _])
    have hM := M.fst (l := [_, _, _]) hM
    exact wp_ret (k_ret1 hE rfl hq18 ⟨_, rfl, u8, (Value.slice none 0 0), (Value.slice none 0 0), rfl, hM.outF (locN1 (locN1 (locN1 locN0))), hM.kept⟩)
noncomputable def L0_impl_rest (p1 : Int) (p2 : Int) (s4 : Int × Int) : Option (Fl (Int × Int) Int) :=
  if (decide (s4.2 ≥ p2)) = true then (((nonneg s4.2).bind fun _ => (if ((andI (shrI s4.1 s4.2) 1) == 1) = true then ((nonneg (wr (s4.2 - p2))).bind fun _ => some (xorI s4.1 (shlI p1 (wr (s4.2 - p2))))) else (some s4.1) : Option (Int)).bind fun (j13 : Int) => some j13 : Option (Int)).bind fun (j9 : Int) => some (Fl.nx (j9, wr (s4.2 - 1)))) else (some (Fl.ex s4.1))
noncomputable def F_impl_rest (p0 : Int) (p1 : Int) (p2 : Int) : Option (Int) :=
  (iter (L0_impl_rest p1 p2) (p0, 15) : Option (Int)).bind fun (j1 : Int) => some j1
set_option maxRecDepth 20000 in
set_option maxHeartbeats 400000 in
theorem c_impl_rest (w0 : World) (p0 : Int) (p1 : Int) (p2 : Int) (r : Int) (hF : F_impl_rest p0 p1 p2 = some r) :
    Calls Try.prog 132 [(vI p0), (vI p1), (vI p2)].toArray w0 (fun en w' => ∃ v, en = .returned v ∧ (v = (vI r) ∧ Kept (Old w0) w0 w')) := by
  refine c_enter (n := 26) Try.func132 rfl rfl (Nat.le_of_ble_eq_true rfl) rfl ?_
  intro a hE
  have hM := M.start w0
  unfold F_impl_rest at hF
  refine c_region ?_
  refine s_assign hE goes_none (by decide) rfl ?_; intro a hE
  refine c_fin ?_
  refine wp_seq ?_
  refine c_region ?_
  refine s_assign hE goes_none (by decide) rfl ?_; intro a hE
  refine c_fin ?_
  obtain ⟨j1, hl2, hF3⟩ := bind_some hF
  refine c_cut (fun a w => Env 26 a [(0, (vI j1))] ∧ M (Old w0) w0 w []) ?_ ?_
  · skip
    refine wp_block ?_
    refine c_loop (fun (s4 : Int × Int) a w => Env 26 a [(0, (vI s4.1)), (1, (vI p1)), (2, (vI p2)), (7, (vI s4.2))] ∧ M (Old w0) w0 w []) hl2 ⟨hE.sub ⟨rfl, rfl, rfl, rfl, trivial⟩, hM⟩ ?_
    rintro s4 a w ⟨hE, hM⟩ o7 hs5 hx6
    unfold L0_impl_rest at hs5
    refine wp_seq ?_
    refine c_region ?_
    refine s_move hE goes_none (by decide) rfl ?_; intro a hE
    refine s_move hE goes_none (by decide) rfl ?_; intro a hE
    refine s_int hE goes_none (by decide) rfl rfl rfl ?_; intro a hE
    refine c_fin ?_
    refine c_cond hE rfl ?_ ?_
    · intro hb8
      have hs5 := ite_t hs5 hb8
      refine wp_skip ?_
      refine c_nx ?_
      obtain ⟨j9, hl10, hF11⟩ := bind_some hs5
      refine c_join (fun a w => Env 26 a [(0, (vI j9)), (1, (vI p1)), (2, (vI p2)), (7, (vI s4.2))] ∧ M (Old w0) w0 w []) ?_ ?_
      · skip
        refine wp_block ?_
        refine c_region ?_
        refine s_move hE goes_none (by decide) rfl ?_; intro a hE
        refine s_move hE goes_none (by decide) rfl ?_; intro a hE
        obtain ⟨_, e12, hl10⟩ := bind_some hl10
        have e12 := nonneg_some e12
        refine s_sh hE goes_none (by decide) rfl rfl (bI_shr _ _ e12) ?_; intro a hE
        refine s_int hE goes_none (by decide) rfl rfl rfl ?_; intro a hE
        refine s_int hE goes_none (by decide) rfl rfl rfl ?_; intro a hE
        refine c_fin ?_
        obtain ⟨j13, hl14, hF15⟩ := bind_some hl10
        refine c_cut (fun a w => Env 26 a [(0, (vI j13)), (1, (vI p1)), (2, (vI p2)), (7, (vI s4.2))] ∧ M (Old w0) w0 w []) ?_ ?_
        · skip
          refine c_cond hE rfl ?_ ?_
          · intro hb16
            have hl14 := ite_t hl14 hb16
            refine wp_region_lit ?_
            refine s_move hE goes_none (by decide) rfl ?_; intro a hE
            refine s_move hE goes_none (by decide) rfl ?_; intro a hE
            refine s_move hE goes_none (by decide) rfl ?_; intro a hE
            refine s_move hE goes_none (by decide) rfl ?_; intro a hE
            refine s_int hE goes_none (by decide) rfl rfl rfl ?_; intro a hE
            obtain ⟨_, e17, hl14⟩ := bind_some hl14
            have e17 := nonneg_some e17
            refine s_sh hE goes_none (by decide) rfl rfl (bI_shl _ _ e17) ?_; intro a hE
            refine s_int hE goes_none (by decide) rfl rfl rfl ?_; intro a hE
            refine s_assign hE goes_none (by decide) rfl ?_; intro a hE
            refine c_fin0 ?_
            have ht18 := Option.some.inj hl14
            subst ht18
            refine c_mid ?_
            exact ⟨hE.sub ⟨rfl, rfl, rfl, rfl, trivial⟩, hM⟩
          · intro hb16
            have hl14 := ite_f hl14 hb16
            refine wp_skip ?_
            have ht19 := Option.some.inj hl14
            subst ht19
            refine c_mid ?_
            exact ⟨hE.sub ⟨rfl, rfl, rfl, rfl, trivial⟩, hM⟩
        · skip
          rintro a w ⟨hE, hM⟩
          refine c_nb ?_
          have ht20 := Option.some.inj hF15
          subst ht20
          refine c_mid ?_
          exact ⟨hE.sub ⟨rfl, rfl, rfl, rfl, trivial⟩, hM⟩
      · skip
        rintro a w ⟨hE, hM⟩
        refine wp_region_lit ?_
        refine s_move hE goes_none (by decide) rfl ?_; intro a hE
        refine s_int hE goes_none (by decide) rfl rfl rfl ?_; intro a hE
        refine s_assign hE goes_none (by decide) rfl ?_; intro a hE
        refine c_fin0 ?_
        refine c_mid ?_
        exact ⟨_, (Option.some.inj hF11).symm, hE.sub ⟨rfl, rfl, rfl, rfl, trivial⟩, hM⟩
    · intro hb8
      have hs5 := ite_f hs5 hb8
      refine wp_exit (e_then (e_then (e_eq ?_)))
      have ht21 := hx6 _ (Option.some.inj hs5).symm
      subst ht21
      refine c_mid ?_
      exact ⟨hE.sub ⟨rfl, trivial⟩, hM⟩
  · skip
    rintro a w ⟨hE, hM⟩
    refine c_nx ?_
    refine c_region ?_
    refine s_move hE goes_none (by decide) rfl ?_; intro a hE
    refine s_assign hE goes_none (by decide) rfl ?_; intro a hE
    refine c_fin ?_
    have hr := Option.some.inj hF3
    subst hr
    exact wp_ret (k_ret1 hE rfl (res_tmp hE rfl) ⟨_, rfl, rfl, hM.kept⟩)
noncomputable def L0_impl_field_times (p1 : UInt8) (p2 : UInt8) (s4 : Int × Int) : Option (Fl (Int × Int) Int) :=
  if (decide (s4.2 < 8)) = true then (((nonneg s4.2).bind fun _ => (if (((shrB p2 s4.2) &&& 1) == 1) = true then ((nonneg s4.2).bind fun _ => some (xorI s4.1 (shlI (bI p1) s4.2))) else (some s4.1) : Option (Int)).bind fun (j13 : Int) => some j13 : Option (Int)).bind fun (j9 : Int) => some (Fl.nx (j9, wr (s4.2 + 1)))) else (some (Fl.ex s4.1))
noncomputable def F_impl_field_times (p0 : Int) (p1 : UInt8) (p2 : UInt8) : Option (UInt8) :=
  (iter (L0_impl_field_times p1 p2) (0, 0) : Option (Int)).bind fun (j1 : Int) => (F_impl_rest j1 p0 8).bind fun (r22 : Int) => some (byteI r22)
set_option maxRecDepth 20000 in
set_option maxHeartbeats 400000 in
theorem c_impl_field_times (w0 : World) (p0 : Int) (p1 : UInt8) (p2 : UInt8) (r : UInt8) (hF : F_impl_field_times p0 p1 p2 = some r) :
    Calls Try.prog 127 [(vI p0), (vB p1), (vB p2)].toArray w0 (fun en w' => ∃ v, en = .returned v ∧ (v = (vB r) ∧ Kept (Old w0) w0 w')) := by
  refine c_enter (n := 28) Try.func127 rfl rfl (Nat.le_of_ble_eq_true rfl) rfl ?_
  intro a hE
  have hM := M.start w0
  unfold F_impl_field_times at hF
  refine c_region ?_
  refine s_assign hE goes_none (by decide) rfl ?_; intro a hE
  refine c_fin ?_
  refine c_region ?_
  refine s_assign hE goes_none (by decide) rfl ?_; intro a hE
  refine c_fin ?_
  refine wp_seq ?_
  refine c_region ?_
  refine s_move hE goes_none (by decide) rfl ?_; intro a hE
  refine c_fin ?_
  obtain ⟨j1, hl2, hF3⟩ := bind_some hF
  refine c_cut (fun a w => Env 28 a [(0, (vI p0)), (7, (vI j1))] ∧ M (Old w0) w0 w []) ?_ ?_
  · skip
    refine wp_block ?_
    refine c_loop (fun (s4 : Int × Int) a w => Env 28 a [(0, (vI p0)), (1, (vB p1)), (2, (vB p2)), (7, (vI s4.1)), (9, (vI s4.2))] ∧ M (Old w0) w0 w []) hl2 ⟨hE.sub ⟨rfl, rfl, rfl, rfl, rfl, trivial⟩, hM⟩ ?_
    rintro s4 a w ⟨hE, hM⟩ o7 hs5 hx6
    unfold L0_impl_field_times at hs5
    refine c_region ?_
    refine s_int hE goes_none (by decide) rfl rfl rfl ?_; intro a hE
    refine c_fin ?_
    refine wp_seq ?_
    refine c_cond hE rfl ?_ ?_
    · intro hb8
      have hs5 := ite_t hs5 hb8
      refine wp_skip ?_
      refine c_nx ?_
      obtain ⟨j9, hl10, hF11⟩ := bind_some hs5
      refine c_join (fun a w => Env 28 a [(0, (vI p0)), (1, (vB p1)), (2, (vB p2)), (7, (vI j9)), (9, (vI s4.2))] ∧ M (Old w0) w0 w []) ?_ ?_
      · skip
        refine wp_block ?_
        refine c_region ?_
        refine s_move hE goes_none (by decide) rfl ?_; intro a hE
        refine s_assign hE goes_none (by decide) rfl ?_; intro a hE
        refine c_fin ?_
        refine c_region ?_
        refine s_move hE goes_none (by decide) rfl ?_; intro a hE
        refine s_move hE goes_none (by decide) rfl ?_; intro a hE
        obtain ⟨_, e12, hl10⟩ := bind_some hl10
        have e12 := nonneg_some e12
        refine s_sh hE goes_none (by decide) rfl rfl (bB_shr _ _ e12) ?_; intro a hE
        refine s_int hE goes_none (by decide) rfl rfl (bB_and (shrB p2 s4.2) 1) ?_; intro a hE
        refine s_int hE goes_none (by decide) rfl rfl (bB_eql ((shrB p2 s4.2) &&& 1) 1) ?_; intro a hE
        refine c_fin ?_
        obtain ⟨j13, hl14, hF15⟩ := bind_some hl10
        refine c_cut (fun a w => Env 28 a [(0, (vI p0)), (1, (vB p1)), (2, (vB p2)), (7, (vI j13)), (9, (vI s4.2))] ∧ M (Old w0) w0 w []) ?_ ?_
        · skip
          refine c_cond hE rfl ?_ ?_
          · intro hb16
            have hl14 := ite_t hl14 hb16
            refine wp_region_lit ?_
            refine s_move hE goes_none (by decide) rfl ?_; intro a hE
            refine s_move hE goes_none (by decide) rfl ?_; intro a hE
            refine s_conv hE goes_none (by decide) rfl Try.underlying5 Try.underlying2 ?_; intro a hE
            rw [byte_wide] at hE
            refine s_move hE goes_none (by decide) rfl ?_; intro a hE
            obtain ⟨_, e17, hl14⟩ := bind_some hl14
            have e17 := nonneg_some e17
            refine s_sh hE goes_none (by decide) rfl rfl (bI_shl _ _ e17) ?_; intro a hE
            refine s_int hE goes_none (by decide) rfl rfl rfl ?_; intro a hE
            refine s_assign hE goes_none (by decide) rfl ?_; intro a hE
            refine c_fin0 ?_
            have ht18 := Option.some.inj hl14
            subst ht18
            refine c_mid ?_
            exact ⟨hE.sub ⟨rfl, rfl, rfl, rfl, rfl, trivial⟩, hM⟩
          · intro hb16
            have hl14 := ite_f hl14 hb16
            refine wp_skip ?_
            have ht19 := Option.some.inj hl14
            subst ht19
            refine c_mid ?_
            exact ⟨hE.sub ⟨rfl, rfl, rfl, rfl, rfl, trivial⟩, hM⟩
        · skip
          rintro a w ⟨hE, hM⟩
          refine c_nb ?_
          have ht20 := Option.some.inj hF15
          subst ht20
          refine c_mid ?_
          exact ⟨hE.sub ⟨rfl, rfl, rfl, rfl, rfl, trivial⟩, hM⟩
      · skip
        rintro a w ⟨hE, hM⟩
        refine wp_region_lit ?_
        refine s_int hE goes_none (by decide) rfl rfl rfl ?_; intro a hE
        refine s_move hE goes_none (by decide) rfl ?_; intro a hE
        refine c_fin0 ?_
        refine c_mid ?_
        exact ⟨_, (Option.some.inj hF11).symm, hE.sub ⟨rfl, rfl, rfl, rfl, rfl, trivial⟩, hM⟩
    · intro hb8
      have hs5 := ite_f hs5 hb8
      refine wp_exit (e_then (e_then (e_eq ?_)))
      have ht21 := hx6 _ (Option.some.inj hs5).symm
      subst ht21
      refine c_mid ?_
      exact ⟨hE.sub ⟨rfl, rfl, trivial⟩, hM⟩
  · skip
    rintro a w ⟨hE, hM⟩
    refine c_nx ?_
    refine c_region ?_
    refine s_move hE goes_none (by decide) rfl ?_; intro a hE
    refine s_move hE goes_none (by decide) rfl ?_; intro a hE
    obtain ⟨r22, e23, hF3⟩ := bind_some hF3
    refine s_call (vs := [(vI j1), (vI p0), (vI 8)]) hE goes_none (by decide) rfl cb132 (c_impl_rest _ j1 p0 8 r22 e23) ?_
    rintro v w a ⟨rfl, hK⟩ hE
    have hM := hM.keep hK
    refine s_conv hE goes_none (by decide) rfl Try.underlying2 Try.underlying5 ?_; intro a hE
    rw [byteI_val] at hE
    refine s_assign hE goes_none (by decide) rfl ?_; intro a hE
    refine c_fin ?_
    have hr := Option.some.inj hF3
    subst hr
    exact wp_ret (k_ret1 hE rfl (res_tmp hE rfl) ⟨_, rfl, rfl, hM.kept⟩)
noncomputable def L0_impl_field_power (p0 : Int) (s4 : UInt8 × Int × UInt8) : Option (Fl (UInt8 × Int × UInt8) UInt8) :=
  if (decide (s4.2.1 > 0)) = true then (((if ((Int.tmod s4.2.1 2) == 1) = true then ((F_impl_field_times p0 s4.2.2 s4.1).bind fun (r16 : UInt8) => some r16) else (some s4.2.2) : Option (UInt8)).bind fun (j12 : UInt8) => (F_impl_field_times p0 s4.1 s4.1).bind fun (r20 : UInt8) => some (r20, j12) : Option (UInt8 × UInt8)).bind fun (j9 : UInt8 × UInt8) => some (Fl.nx (j9.1, wr (Int.tdiv s4.2.1 2), j9.2))) else (some (Fl.ex s4.2.2))
noncomputable def F_impl_field_power (p0 : Int) (p1 : UInt8) (p2 : Int) : Option (UInt8) :=
  (iter (L0_impl_field_power p0) (p1, p2, 1) : Option (UInt8)).bind fun (j1 : UInt8) => some j1
set_option maxRecDepth 20000 in
set_option maxHeartbeats 400000 in
theorem c_impl_field_power (w0 : World) (p0 : Int) (p1 : UInt8) (p2 : Int) (r : UInt8) (hF : F_impl_field_power p0 p1 p2 = some r) :
    Calls Try.prog 128 [(vI p0), (vB p1), (vI p2)].toArray w0 (fun en w' => ∃ v, en = .returned v ∧ (v = (vB r) ∧ Kept (Old w0) w0 w')) := by
  refine c_enter (n := 24) Try.func128 rfl rfl (Nat.le_of_ble_eq_true rfl) rfl ?_
  intro a hE
  have hM := M.start w0
  unfold F_impl_field_power at hF
  refine c_region ?_
  refine s_assign hE goes_none (by decide) rfl ?_; intro a hE
  refine c_fin ?_
  refine c_region ?_
  refine s_assign hE goes_none (by decide) rfl ?_; intro a hE
  refine c_fin ?_
  obtain ⟨j1, hl2, hF3⟩ := bind_some hF
  refine c_join (fun a w => Env 24 a [(7, (vB j1))] ∧ M (Old w0) w0 w []) ?_ ?_
  · skip
    refine wp_block ?_
    refine c_loop (fun (s4 : UInt8 × Int × UInt8) a w => Env 24 a [(0, (vI p0)), (1, (vB s4.1)), (2, (vI s4.2.1)), (7, (vB s4.2.2))] ∧ M (Old w0) w0 w []) hl2 ⟨hE.sub ⟨rfl, rfl, rfl, rfl, trivial⟩, hM⟩ ?_
    rintro s4 a w ⟨hE, hM⟩ o7 hs5 hx6
    unfold L0_impl_field_power at hs5
    refine wp_seq ?_
    refine c_region ?_
    refine s_move hE goes_none (by decide) rfl ?_; intro a hE
    refine s_int hE goes_none (by decide) rfl rfl rfl ?_; intro a hE
    refine c_fin ?_
    refine c_cond hE rfl ?_ ?_
    · intro hb8
      have hs5 := ite_t hs5 hb8
      refine wp_skip ?_
      refine c_nx ?_
      obtain ⟨j9, hl10, hF11⟩ := bind_some hs5
      refine c_join (fun a w => Env 24 a [(0, (vI p0)), (1, (vB j9.1)), (2, (vI s4.2.1)), (7, (vB j9.2))] ∧ M (Old w0) w0 w []) ?_ ?_
      · skip
        refine wp_block ?_
        obtain ⟨j12, hl13, hF14⟩ := bind_some hl10
        refine c_join (fun a w => Env 24 a [(0, (vI p0)), (1, (vB s4.1)), (2, (vI s4.2.1)), (7, (vB j12))] ∧ M (Old w0) w0 w []) ?_ ?_
        · skip
          refine c_region ?_
          refine s_move hE goes_none (by decide) rfl ?_; intro a hE
          refine s_int hE goes_none (by decide) rfl rfl (bI_rem _ _ (by decide)) ?_; intro a hE
          refine s_int hE goes_none (by decide) rfl rfl rfl ?_; intro a hE
          refine c_fin ?_
          refine c_cond hE rfl ?_ ?_
          · intro hb15
            have hl13 := ite_t hl13 hb15
            refine wp_region_lit ?_
            refine s_move hE goes_none (by decide) rfl ?_; intro a hE
            refine s_move hE goes_none (by decide) rfl ?_; intro a hE
            refine s_move hE goes_none (by decide) rfl ?_; intro a hE
            obtain ⟨r16, e17, hl13⟩ := bind_some hl13
            refine s_call (vs := [(vI p0), (vB s4.2.2), (vB s4.1)]) hE goes_none (by decide) rfl cb127 (c_impl_field_times _ p0 s4.2.2 s4.1 r16 e17) ?_
            rintro v w a ⟨rfl, hK⟩ hE
            have hM := hM.keep hK
            refine s_assign hE goes_none (by decide) rfl ?_; intro a hE
            refine c_fin0 ?_
            have ht18 := Option.some.inj hl13
            subst ht18
            refine c_mid ?_
            exact ⟨hE.sub ⟨rfl, rfl, rfl, rfl, trivial⟩, hM⟩
          · intro hb15
            have hl13 := ite_f hl13 hb15
            refine wp_skip ?_
            have ht19 := Option.some.inj hl13
            subst ht19
            refine c_mid ?_
            exact ⟨hE.sub ⟨rfl, rfl, rfl, rfl, trivial⟩, hM⟩
        · skip
          rintro a w ⟨hE, hM⟩
          refine wp_region_lit ?_
          refine s_move hE goes_none (by decide) rfl ?_; intro a hE
          refine s_move hE goes_none (by decide) rfl ?_; intro a hE
          refine s_move hE goes_none (by decide) rfl ?_; intro a hE
          obtain ⟨r20, e21, hF14⟩ := bind_some hF14
          refine s_call (vs := [(vI p0), (vB s4.1), (vB s4.1)]) hE goes_none (by decide) rfl cb127 (c_impl_field_times _ p0 s4.1 s4.1 r20 e21) ?_
          rintro v w a ⟨rfl, hK⟩ hE
          have hM := hM.keep hK
          refine s_assign hE goes_none (by decide) rfl ?_; intro a hE
          refine c_fin0 ?_
          refine c_nb ?_
          have ht22 := Option.some.inj hF14
          subst ht22
          refine c_mid ?_
          exact ⟨hE.sub ⟨rfl, rfl, rfl, rfl, trivial⟩, hM⟩
      · skip
        rintro a w ⟨hE, hM⟩
        refine wp_region_lit ?_
        refine s_move hE goes_none (by decide) rfl ?_; intro a hE
        refine s_int hE goes_none (by decide) rfl rfl (bI_quo _ _ (by decide)) ?_; intro a hE
        refine s_assign hE goes_none (by decide) rfl ?_; intro a hE
        refine c_fin0 ?_
        refine c_mid ?_
        exact ⟨_, (Option.some.inj hF11).symm, hE.sub ⟨rfl, rfl, rfl, rfl, trivial⟩, hM⟩
    · intro hb8
      have hs5 := ite_f hs5 hb8
      refine wp_exit (e_then (e_then (e_eq ?_)))
      have ht23 := hx6 _ (Option.some.inj hs5).symm
      subst ht23
      refine c_mid ?_
      exact ⟨hE.sub ⟨rfl, trivial⟩, hM⟩
  · skip
    rintro a w ⟨hE, hM⟩
    refine c_region ?_
    refine s_move hE goes_none (by decide) rfl ?_; intro a hE
    refine s_assign hE goes_none (by decide) rfl ?_; intro a hE
    refine c_fin ?_
    have hr := Option.some.inj hF3
    subst hr
    exact wp_ret (k_ret1 hE rfl (res_tmp hE rfl) ⟨_, rfl, rfl, hM.kept⟩)
noncomputable def F_impl_field_inverse (p0 : Int) (p1 : UInt8) : Option (UInt8) :=
  (F_impl_field_power p0 p1 254).bind fun (r1 : UInt8) => some r1
set_option maxRecDepth 20000 in
set_option maxHeartbeats 400000 in
theorem c_impl_field_inverse (w0 : World) (p0 : Int) (p1 : UInt8) (r : UInt8) (hF : F_impl_field_inverse p0 p1 = some r) :
    Calls Try.prog 111 [(vI p0), (vB p1)].toArray w0 (fun en w' => ∃ v, en = .returned v ∧ (v = (vB r) ∧ Kept (Old w0) w0 w')) := by
  refine c_enter (n := 8) Try.func111 rfl rfl (Nat.le_of_ble_eq_true rfl) rfl ?_
  intro a hE
  have hM := M.start w0
  unfold F_impl_field_inverse at hF
  refine c_region ?_
  refine s_assign hE goes_none (by decide) rfl ?_; intro a hE
  refine c_fin ?_
  refine c_region ?_
  refine s_move hE goes_none (by decide) rfl ?_; intro a hE
  refine s_move hE goes_none (by decide) rfl ?_; intro a hE
  obtain ⟨r1, e2, hF⟩ := bind_some hF
  refine s_call (vs := [(vI p0), (vB p1), (vI 254)]) hE goes_none (by decide) rfl cb128 (c_impl_field_power _ p0 p1 254 r1 e2) ?_
  rintro v w a ⟨rfl, hK⟩ hE
  have hM := hM.keep hK
  refine s_assign hE goes_none (by decide) rfl ?_; intro a hE
  refine c_fin ?_
  have hr := Option.some.inj hF
  subst hr
  exact wp_ret (k_ret1 hE rfl (res_tmp hE rfl) ⟨_, rfl, rfl, hM.kept⟩)
noncomputable def F_math_bits_RotateLeft8 (p0 : UInt8) (p1 : Int) : Option (UInt8) :=
  (nonneg (wru (BitVec.ofInt 64 (IntKind.u64.wrap p1) &&& BitVec.ofInt 64 7).toNat)).bind fun _ => (nonneg (IntKind.u64.wrap (8 - (wru (BitVec.ofInt 64 (IntKind.u64.wrap p1) &&& BitVec.ofInt 64 7).toNat)))).bind fun _ => some ((shlB p0 (wru (BitVec.ofInt 64 (IntKind.u64.wrap p1) &&& BitVec.ofInt 64 7).toNat)) ||| (shrB p0 (IntKind.u64.wrap (8 - (wru (BitVec.ofInt 64 (IntKind.u64.wrap p1) &&& BitVec.ofInt 64 7).toNat)))))
set_option maxRecDepth 20000 in
set_option maxHeartbeats 400000 in
theorem c_math_bits_RotateLeft8 (w0 : World) (p0 : UInt8) (p1 : Int) (r : UInt8) (hF : F_math_bits_RotateLeft8 p0 p1 = some r) :
    Calls Try.prog 112 [(vB p0), (vI p1)].toArray w0 (fun en w' => ∃ v, en = .returned v ∧ (v = (vB r) ∧ Kept (Old w0) w0 w')) := by
  refine c_enter (n := 17) Try.func112 rfl rfl (Nat.le_of_ble_eq_true rfl) rfl ?_
  intro a hE
  have hM := M.start w0
  unfold F_math_bits_RotateLeft8 at hF
  refine c_region ?_
  refine s_assign hE goes_none (by decide) rfl ?_; intro a hE
  refine c_fin ?_
  refine c_region ?_
  refine s_move hE goes_none (by decide) rfl ?_; intro a hE
  refine s_conv hE goes_none (by decide) rfl Try.underlying3 Try.underlying134 ?_; intro a hE
  refine s_int hE goes_none (by decide) rfl rfl rfl ?_; intro a hE
  refine s_assign hE goes_none (by decide) rfl ?_; intro a hE
  refine c_fin ?_
  refine c_region ?_
  refine s_move hE goes_none (by decide) rfl ?_; intro a hE
  refine s_move hE goes_none (by decide) rfl ?_; intro a hE
  obtain ⟨_, e1, hF⟩ := bind_some hF
  have e1 := nonneg_some e1
  refine s_sh hE goes_none (by decide) rfl rfl (bB_shl _ _ e1) ?_; intro a hE
  refine s_move hE goes_none (by decide) rfl ?_; intro a hE
  refine s_move hE goes_none (by decide) rfl ?_; intro a hE
  refine s_int hE goes_none (by decide) rfl rfl rfl ?_; intro a hE
  obtain ⟨_, e2, hF⟩ := bind_some hF
  have e2 := nonneg_some e2
  refine s_sh hE goes_none (by decide) rfl rfl (bB_shr _ _ e2) ?_; intro a hE
  refine s_int hE goes_none (by decide) rfl rfl (bB_or (shlB p0 (wru (BitVec.ofInt 64 (IntKind.u64.wrap p1) &&& BitVec.ofInt 64 7).toNat)) (shrB p0 (IntKind.u64.wrap (8 - (wru (BitVec.ofInt 64 (IntKind.u64.wrap p1) &&& BitVec.ofInt 64 7).toNat))))) ?_; intro a hE
  refine s_assign hE goes_none (by decide) rfl ?_; intro a hE
  refine c_fin ?_
  have hr := Option.some.inj hF
  subst hr
  exact wp_ret (k_ret1 hE rfl (res_tmp hE rfl) ⟨_, rfl, rfl, hM.kept⟩)
noncomputable def L0_impl_houseCipher (s8 : (Vector UInt8 256) × Int) : Option (Fl ((Vector UInt8 256) × Int) (Vector UInt8 256)) :=
  if (decide (s8.2 < 256)) = true then ((F_impl_field_inverse 285 (byteI s8.2)).bind fun (r13 : UInt8) => (F_math_bits_RotateLeft8 r13 1).bind fun (r15 : UInt8) => (F_math_bits_RotateLeft8 r13 4).bind fun (r17 : UInt8) => (vidx s8.1 s8.2).bind fun (x20 : UInt8) => some (Fl.nx ((s8.1.setIfInBounds (s8.2).toNat (((r13 ^^^ r15) ^^^ r17) ^^^ 90)), wr (s8.2 + 1)))) else (some (Fl.ex s8.1))
noncomputable def L2_impl_houseCipher (s26 : (Vector (Vector UInt8 4) 4) × Int) (s34 : (Vector (Vector UInt8 4) 4) × Int) : Option (Fl ((Vector (Vector UInt8 4) 4) × Int) (Vector (Vector UInt8 4) 4)) :=
  if (decide (s34.2 < 4)) = true then ((F_impl_field_inverse 285 (byteI (xorI s26.2 (wr (4 + s34.2))))).bind fun (r40 : UInt8) => (vidx s34.1 s26.2).bind fun (x43 : (Vector UInt8 4)) => (vidx x43 s34.2).bind fun (x46 : UInt8) => some (Fl.nx ((s34.1.setIfInBounds (s26.2).toNat (x43.setIfInBounds (s34.2).toNat r40)), wr (s34.2 + 1)))) else (some (Fl.ex s34.1))
noncomputable def L1_impl_houseCipher (s26 : (Vector (Vector UInt8 4) 4) × Int) : Option (Fl ((Vector (Vector UInt8 4) 4) × Int) (Vector (Vector UInt8 4) 4)) :=
  if (decide (s26.2 < 4)) = true then ((iter (L2_impl_houseCipher s26) (s26.1, 0) : Option ((Vector (Vector UInt8 4) 4))).bind fun (j31 : (Vector (Vector UInt8 4) 4)) => some (Fl.nx (j31, wr (s26.2 + 1)))) else (some (Fl.ex s26.1))
noncomputable def L3_impl_houseCipher (s53 : (Vector UInt8 16) × Int) : Option (Fl ((Vector UInt8 16) × Int) (Vector UInt8 16)) :=
  if (decide (s53.2 < 16)) = true then ((vidx s53.1 s53.2).bind fun (x59 : UInt8) => some (Fl.nx ((s53.1.setIfInBounds (s53.2).toNat (byteI (Int.tmod (wr ((wr (13 * s53.2)) + 4)) 16))), wr (s53.2 + 1)))) else (some (Fl.ex s53.1))
noncomputable def F_impl_houseCipher (p0 : Int) : Option (GCipher) :=
  (iter (L0_impl_houseCipher) ((Vector.replicate 256 (0 : UInt8)), 0) : Option ((Vector UInt8 256))).bind fun (j5 : (Vector UInt8 256)) => (iter (L1_impl_houseCipher) ((Vector.replicate 4 (Vector.replicate 4 (0 : UInt8))), 0) : Option ((Vector (Vector UInt8 4) 4))).bind fun (j23 : (Vector (Vector UInt8 4) 4)) => (iter (L3_impl_houseCipher) ((Vector.replicate 16 (0 : UInt8)), 0) : Option ((Vector UInt8 16))).bind fun (j50 : (Vector UInt8 16)) => some (⟨285, j5, j23, j50, p0⟩ : GCipher)
set_option maxRecDepth 20000 in
set_option maxHeartbeats 400000 in
theorem c_impl_houseCipher (w0 : World) (p0 : Int) (r : GCipher) (hF : F_impl_houseCipher p0 = some r) :
    Calls Try.prog 90 [(vI p0)].toArray w0 (fun en w' => ∃ v, en = .returned v ∧ (v = (Value.agg (Flat.enc r).toArray) ∧ Kept (Old w0) w0 w')) := by
  refine c_enter (n := 61) Try.func90 rfl rfl (Nat.le_of_ble_eq_true rfl) rfl ?_
  intro a hE
  have hM := M.start w0
  unfold F_impl_houseCipher at hF
  refine c_region ?_
  refine s_alloc hE hM goes_none (by decide) ty103 ?_; intro b1 w a hM hE
  refine c_fin ?_
  refine c_region ?_
  refine s_move hE goes_none (by decide) rfl ?_; intro a hE
  refine s_buildStr (parts := [(0, .const (vI 285)), (4, .tmp 9)]) (vs := [(0, (vI 285)), (4, (vI p0))]) (cs := cat [[(vI 285)], Flat.enc (Vector.replicate 256 (0 : UInt8)), Flat.enc (Vector.replicate 4 (Vector.replicate 4 (0 : UInt8))), Flat.enc (Vector.replicate 16 (0 : UInt8)), [(vI p0)]]) hE goes_none (by decide) rfl rfl ty103 pl103 (fill_step (pre := []) (seg := [(vI 0)]) (seg' := [(vI 285)]) (post := [Flat.enc (Vector.replicate 256 (0 : UInt8)), Flat.enc (Vector.replicate 4 (Vector.replicate 4 (0 : UInt8))), Flat.enc (Vector.replicate 16 (0 : UInt8)), [(vI 0)]]) rfl cl0 rfl rfl rfl (fill_step (pre := [[(vI 285)], Flat.enc (Vector.replicate 256 (0 : UInt8)), Flat.enc (Vector.replicate 4 (Vector.replicate 4 (0 : UInt8))), Flat.enc (Vector.replicate 16 (0 : UInt8))]) (seg := [(vI 0)]) (seg' := [(vI p0)]) (post := []) rfl (cl1 (n := 1) (m := 288) rfl (cl1 (n := 256) (m := 32) (Flat.len _) (cl1 (n := 16) (m := 16) (Flat.len _) (cl1 (n := 16) (m := 0) (Flat.len _) cl0)))) rfl rfl rfl fill_nil)) ?_; intro a hE
  refine s_alloc hE hM goes_none (by decide) ty103 ?_; intro b3 w a hM hE
  refine s_store (seg := cat [[(vI 285)], Flat.enc (Vector.replicate 256 (0 : UInt8)), Flat.enc (Vector.replicate 4 (Vector.replicate 4 (0 : UInt8))), Flat.enc (Vector.replicate 16 (0 : UInt8)), [(vI p0)]]) (cs' := cat [[(vI 285)], Flat.enc (Vector.replicate 256 (0 : UInt8)), Flat.enc (Vector.replicate 4 (Vector.replicate 4 (0 : UInt8))), Flat.enc (Vector.replicate 16 (0 : UInt8)), [(vI p0)]]) hE hM goes_none rfl rfl rfl ty103 (cat_len (cl1 (n := 1) (m := 289) rfl (cl1 (n := 256) (m := 33) (Flat.len _) (cl1 (n := 16) (m := 17) (Flat.len _) (cl1 (n := 16) (m := 1) (Flat.len _) (cl1 (n := 1) (m := 0) rfl cl0)))))) (Nat.le_of_eq ((Nat.zero_add _).trans (Eq.trans (cat_len (cl1 (n := 1) (m := 289) rfl (cl1 (n := 256) (m := 33) (Flat.len _) (cl1 (n := 16) (m := 17) (Flat.len _) (cl1 (n := 16) (m := 1) (Flat.len _) (cl1 (n := 1) (m := 0) rfl cl0)))))) (Eq.symm (cat_len (cl1 (n := 1) (m := 289) rfl (cl1 (n := 256) (m := 33) (Flat.len _) (cl1 (n := 16) (m := 17) (Flat.len _) (cl1 (n := 16) (m := 1) (Flat.len _) (cl1 (n := 1) (m := 0) rfl cl0)))))))))) (cat_cell (cc1 (Flat.cell (285 : Int)) (cc1 (Flat.cell _) (cc1 (Flat.cell _) (cc1 (Flat.cell _) (cc1 (Flat.cell (p0 : Int)) cc0)))))) (splice_all (Eq.trans (cat_len (cl1 (n := 1) (m := 289) rfl (cl1 (n := 256) (m := 33) (Flat.len _) (cl1 (n := 16) (m := 17) (Flat.len _) (cl1 (n := 16) (m := 1) (Flat.len _) (cl1 (n := 1) (m := 0) rfl cl0)))))) (Eq.symm (cat_len (cl1 (n := 1) (m := 289) rfl (cl1 (n := 256) (m := 33) (Flat.len _) (cl1 (n := 16) (m := 17) (Flat.len _) (cl1 (n := 16) (m := 1) (Flat.len _) (cl1 (n := 1) (m := 0) rfl cl0))))))))) ?_; intro w a hM hE
  refine c_fin ?_
  refine wp_seq ?_
  refine c_region ?_
  refine s_move hE goes_none (by decide) rfl ?_; intro a hE
  refine c_fin ?_
  obtain ⟨j5, hl6, hF7⟩ := bind_some hF
  refine c_cut (fun a w => Env 61 a [(2, (ptr b1 0)), (3, (ptr b3 0))] ∧ M (Old w0) w0 w [raw b3 (cat [[(vI 285)], Flat.enc j5, Flat.enc (Vector.replicate 4 (Vector.replicate 4 (0 : UInt8))), Flat.enc (Vector.replicate 16 (0 : UInt8)), [(vI p0)]]), raw b1 (cat [[(vI 0)], Flat.enc (Vector.replicate 256 (0 : UInt8)), Flat.enc (Vector.replicate 4 (Vector.replicate 4 (0 : UInt8))), Flat.enc (Vector.replicate 16 (0 : UInt8)), [(vI 0)]])]) ?_ ?_
  · skip
    refine wp_block ?_
    refine c_loop (fun (s8 : (Vector UInt8 256) × Int) a w => Env 61 a [(2, (ptr b1 0)), (3, (ptr b3 0)), (11, (vI s8.2))] ∧ M (Old w0) w0 w [raw b3 (cat [[(vI 285)], Flat.enc s8.1, Flat.enc (Vector.replicate 4 (Vector.replicate 4 (0 : UInt8))), Flat.enc (Vector.replicate 16 (0 : UInt8)), [(vI p0)]]), raw b1 (cat [[(vI 0)], Flat.enc (Vector.replicate 256 (0 : UInt8)), Flat.enc (Vector.replicate 4 (Vector.replicate 4 (0 : UInt8))), Flat.enc (Vector.replicate 16 (0 : UInt8)), [(vI 0)]])]) hl6 ⟨hE.sub ⟨rfl, rfl, rfl, trivial⟩, hM⟩ ?_
    rintro s8 a w ⟨hE, hM⟩ o11 hs9 hx10
    unfold L0_impl_houseCipher at hs9
    refine c_region ?_
    refine s_int hE goes_none (by decide) rfl rfl rfl ?_; intro a hE
    refine c_fin ?_
    refine wp_seq ?_
    refine c_cond hE rfl ?_ ?_
    · intro hb12
      have hs9 := ite_t hs9 hb12
      refine wp_skip ?_
      refine c_nx ?_
      refine wp_seq ?_
      refine wp_block ?_
      refine c_region ?_
      refine s_move hE goes_none (by decide) rfl ?_; intro a hE
      refine s_assign hE goes_none (by decide) rfl ?_; intro a hE
      refine c_fin ?_
      refine c_region ?_
      refine s_move hE goes_none (by decide) rfl ?_; intro a hE
      refine s_conv hE goes_none (by decide) rfl Try.underlying3 Try.underlying5 ?_; intro a hE
      rw [byteI_val] at hE
      obtain ⟨r13, e14, hs9⟩ := bind_some hs9
      refine s_call (vs := [(vI 285), (vB (byteI s8.2))]) hE goes_none (by decide) rfl cb111 (c_impl_field_inverse _ 285 (byteI s8.2) r13 e14) ?_
      rintro v w a ⟨rfl, hK⟩ hE
      have hM := hM.keep hK
      refine s_assign hE goes_none (by decide) rfl ?_; intro a hE
      refine c_fin ?_
      refine wp_region_lit ?_
      refine s_move hE goes_none (by decide) rfl ?_; intro a hE
      refine s_move hE goes_none (by decide) rfl ?_; intro a hE
      refine s_move hE goes_none (by decide) rfl ?_; intro a hE
      obtain ⟨r15, e16, hs9⟩ := bind_some hs9
      refine s_call (vs := [(vB r13), (vI 1)]) hE goes_none (by decide) rfl cb112 (c_math_bits_RotateLeft8 _ r13 1 r15 e16) ?_
      rintro v w a ⟨rfl, hK⟩ hE
      have hM := hM.keep hK
      refine s_int hE goes_none (by decide) rfl rfl (bB_xor r13 r15) ?_; intro a hE
      refine s_move hE goes_none (by decide) rfl ?_; intro a hE
      obtain ⟨r17, e18, hs9⟩ := bind_some hs9
      refine s_call (vs := [(vB r13), (vI 4)]) hE goes_none (by decide) rfl cb112 (c_math_bits_RotateLeft8 _ r13 4 r17 e18) ?_
      rintro v w a ⟨rfl, hK⟩ hE
      have hM := hM.keep hK
      refine s_int hE goes_none (by decide) rfl rfl (bB_xor (r13 ^^^ r15) r17) ?_; intro a hE
      refine s_int hE goes_none (by decide) rfl rfl (bB_xor ((r13 ^^^ r15) ^^^ r17) 90) ?_; intro a hE
      refine s_fieldAddr hE goes_none (by decide) rfl (fd103_1) ?_; intro a hE
      obtain ⟨x20, e21, hs9⟩ := bind_some hs9
      have hi19 := vidx_some e21
      refine s_indexA hE goes_none (by decide) rfl rfl Try.underlying97 ty5 hi19.1 ?_; intro a hE
      refine s_store (seg := [(vB (((r13 ^^^ r15) ^^^ r17) ^^^ 90))]) (cs' := cat [[(vI 285)], Flat.enc (s8.1.setIfInBounds (s8.2).toNat (((r13 ^^^ r15) ^^^ r17) ^^^ 90)), Flat.enc (Vector.replicate 4 (Vector.replicate 4 (0 : UInt8))), Flat.enc (Vector.replicate 16 (0 : UInt8)), [(vI p0)]]) hE hM goes_none rfl rfl rfl ty5 rfl (fit_catI (o' := 0 + (s8.2).toNat * 1) (pre := [[(vI 285)]]) (seg := Flat.enc s8.1) (post := [Flat.enc (Vector.replicate 4 (Vector.replicate 4 (0 : UInt8))), Flat.enc (Vector.replicate 16 (0 : UInt8)), [(vI p0)]]) (cl1 (n := 1) (m := 0) rfl cl0) (fit_vec (v := s8.1) (x := ((r13 ^^^ r15) ^^^ r17) ^^^ 90) hi19.1) (by first | omega | (simp only [Flat.n] <;> omega))) (Flat.cell (((r13 ^^^ r15) ^^^ r17) ^^^ 90 : UInt8)) (splice_catI (o' := 0 + (s8.2).toNat * 1) (pre := [[(vI 285)]]) (seg := Flat.enc s8.1) (post := [Flat.enc (Vector.replicate 4 (Vector.replicate 4 (0 : UInt8))), Flat.enc (Vector.replicate 16 (0 : UInt8)), [(vI p0)]]) (cl1 (n := 1) (m := 0) rfl cl0) (fit_vec (v := s8.1) (x := ((r13 ^^^ r15) ^^^ r17) ^^^ 90) hi19.1) (splice_vec0 (v := s8.1) (x := ((r13 ^^^ r15) ^^^ r17) ^^^ 90) hi19.1) (by first | omega | (simp only [Flat.n] <;> omega))) ?_; intro w a hM hE
      refine c_fin0 ?_
      refine c_nb ?_
      refine c_nx ?_
      refine wp_region_lit ?_
      refine s_int hE goes_none (by decide) rfl rfl rfl ?_; intro a hE
      refine s_move hE goes_none (by decide) rfl ?_; intro a hE
      refine c_fin0 ?_
      refine c_mid ?_
      exact ⟨_, (Option.some.inj hs9).symm, hE.sub ⟨rfl, rfl, rfl, trivial⟩, hM⟩
    · intro hb12
      have hs9 := ite_f hs9 hb12
      refine wp_exit (e_then (e_then (e_eq ?_)))
      have ht22 := hx10 _ (Option.some.inj hs9).symm
      subst ht22
      refine c_mid ?_
      exact ⟨hE.sub ⟨rfl, rfl, trivial⟩, hM⟩
  · skip
    rintro a w ⟨hE, hM⟩
    refine c_nx ?_
    refine wp_seq ?_
    refine c_region ?_
    refine s_move hE goes_none (by decide) rfl ?_; intro a hE
    refine c_fin ?_
    obtain ⟨j23, hl24, hF25⟩ := bind_some hF7
    refine c_cut (fun a w => Env 61 a [(2, (ptr b1 0)), (3, (ptr b3 0))] ∧ M (Old w0) w0 w [raw b3 (cat [[(vI 285)], Flat.enc j5, Flat.enc j23, Flat.enc (Vector.replicate 16 (0 : UInt8)), [(vI p0)]]), raw b1 (cat [[(vI 0)], Flat.enc (Vector.replicate 256 (0 : UInt8)), Flat.enc (Vector.replicate 4 (Vector.replicate 4 (0 : UInt8))), Flat.enc (Vector.replicate 16 (0 : UInt8)), [(vI 0)]])]) ?_ ?_
    · skip
      refine wp_block ?_
      refine c_loop (fun (s26 : (Vector (Vector UInt8 4) 4) × Int) a w => Env 61 a [(2, (ptr b1 0)), (3, (ptr b3 0)), (29, (vI s26.2))] ∧ M (Old w0) w0 w [raw b3 (cat [[(vI 285)], Flat.enc j5, Flat.enc s26.1, Flat.enc (Vector.replicate 16 (0 : UInt8)), [(vI p0)]]), raw b1 (cat [[(vI 0)], Flat.enc (Vector.replicate 256 (0 : UInt8)), Flat.enc (Vector.replicate 4 (Vector.replicate 4 (0 : UInt8))), Flat.enc (Vector.replicate 16 (0 : UInt8)), [(vI 0)]])]) hl24 ⟨hE.sub ⟨rfl, rfl, rfl, trivial⟩, hM⟩ ?_
      rintro s26 a w ⟨hE, hM⟩ o29 hs27 hx28
      unfold L1_impl_houseCipher at hs27
      refine c_region ?_
      refine s_int hE goes_none (by decide) rfl rfl rfl ?_; intro a hE
      refine c_fin ?_
      refine wp_seq ?_
      refine c_cond hE rfl ?_ ?_
      · intro hb30
        have hs27 := ite_t hs27 hb30
        refine wp_skip ?_
        refine c_nx ?_
        refine wp_seq ?_
        refine wp_block ?_
        refine c_region ?_
        refine s_move hE goes_none (by decide) rfl ?_; intro a hE
        refine s_assign hE goes_none (by decide) rfl ?_; intro a hE
        refine c_fin ?_
        refine c_region ?_
        refine s_move hE goes_none (by decide) rfl ?_; intro a hE
        refine c_fin ?_
        obtain ⟨j31, hl32, hF33⟩ := bind_some hs27
        refine c_cut (fun a w => Env 61 a [(2, (ptr b1 0)), (3, (ptr b3 0)), (29, (vI s26.2))] ∧ M (Old w0) w0 w [raw b3 (cat [[(vI 285)], Flat.enc j5, Flat.enc j31, Flat.enc (Vector.replicate 16 (0 : UInt8)), [(vI p0)]]), raw b1 (cat [[(vI 0)], Flat.enc (Vector.replicate 256 (0 : UInt8)), Flat.enc (Vector.replicate 4 (Vector.replicate 4 (0 : UInt8))), Flat.enc (Vector.replicate 16 (0 : UInt8)), [(vI 0)]])]) ?_ ?_
        · skip
          refine wp_block ?_
          refine c_loop (fun (s34 : (Vector (Vector UInt8 4) 4) × Int) a w => Env 61 a [(2, (ptr b1 0)), (3, (ptr b3 0)), (6, (vI s26.2)), (29, (vI s26.2)), (32, (vI s34.2))] ∧ M (Old w0) w0 w [raw b3 (cat [[(vI 285)], Flat.enc j5, Flat.enc s34.1, Flat.enc (Vector.replicate 16 (0 : UInt8)), [(vI p0)]]), raw b1 (cat [[(vI 0)], Flat.enc (Vector.replicate 256 (0 : UInt8)), Flat.enc (Vector.replicate 4 (Vector.replicate 4 (0 : UInt8))), Flat.enc (Vector.replicate 16 (0 : UInt8)), [(vI 0)]])]) hl32 ⟨hE.sub ⟨rfl, rfl, rfl, rfl, rfl, trivial⟩, hM⟩ ?_
          rintro s34 a w ⟨hE, hM⟩ o37 hs35 hx36
          unfold L2_impl_houseCipher at hs35
          refine c_region ?_
          refine s_int hE goes_none (by decide) rfl rfl rfl ?_; intro a hE
          refine c_fin ?_
          refine wp_seq ?_
          refine c_cond hE rfl ?_ ?_
          · intro hb38
            have hs35 := ite_t hs35 hb38
            refine wp_skip ?_
            refine c_nx ?_
            refine wp_seq ?_
            refine wp_block ?_
            refine c_region ?_
            refine s_move hE goes_none (by decide) rfl ?_; intro a hE
            refine s_assign hE goes_none (by decide) rfl ?_; intro a hE
            refine c_fin ?_
            obtain ⟨r40, e41, hs35⟩ := bind_some hs35
            obtain ⟨x43, e44, hs35⟩ := bind_some hs35
            have hi42 := vidx_some e44
            obtain ⟨x46, e47, hs35⟩ := bind_some hs35
            have hi45 := vidx_some e47
            refine c_draw (n := 61) (hd := [_, _, _, _, _, _, _, _, _, _, _]) (tl := [_]) hmix rfl rfl [35, 36, 37, 38, 39, 40, 41, 42, 43, 44, 45] (by decide) (fun w => M (Old w0) w0 w [raw b3 (cat [[(vI 285)], Flat.enc j5, Flat.enc s34.1, Flat.enc (Vector.replicate 16 (0 : UInt8)), [(vI p0)]]), raw b1 (cat [[(vI 0)], Flat.enc (Vector.replicate 256 (0 : UInt8)), Flat.enc (Vector.replicate 4 (Vector.replicate 4 (0 : UInt8))), Flat.enc (Vector.replicate 16 (0 : UInt8)), [(vI 0)]])]) (fun j => ([fun v _ => v = (vI s26.2), fun v _ => v = (vI s34.2), fun v _ => v = (vI s26.2), fun v _ => v = (vI s34.2), fun v _ => v = (vI (wr (4 + s34.2))), fun v _ => v = (vI (xorI s26.2 (wr (4 + s34.2)))), fun v _ => v = (vB (byteI (xorI s26.2 (wr (4 + s34.2))))), fun v _ => v = (vB r40), fun v _ => v = (ptr b3 (0 + 257)), fun v _ => v = (ptr b3 (0 + 257 + (s26.2).toNat * 4)), fun v _ => v = (ptr b3 (0 + 257 + (s26.2).toNat * 4 + (s34.2).toNat * 1))] : List (Value → World → Prop)).getD j (fun _ _ => True)) (fun _ _ h hk => h.keep hk) (gup (gupE (gupE (gupE (gupE (gupE (gupE (gupE (gupE (gupE (gupE (gupE gupN)))))))))))) hE hM.drew (steps_of (steps_cons ?_ (steps_cons ?_ (steps_cons ?_ (steps_cons ?_ (steps_cons ?_ (steps_cons ?_ (steps_cons ?_ (steps_cons ?_ (steps_cons ?_ (steps_cons ?_ (steps_cons ?_ steps_nil)))))))))))) ?_
            · intro a w ux39 hE hM hp
              refine s_move hE goes_none (by decide) rfl ?_; intro a hE
              exact ⟨Kept.refl _ _, _, _, rfl, hE, rfl⟩
            · intro a w ux39 hE hM hp
              refine s_move hE goes_none (by decide) rfl ?_; intro a hE
              exact ⟨Kept.refl _ _, _, _, rfl, hE, rfl⟩
            · intro a w ux39 hE hM hp
              refine s_move hE goes_none (by decide) rfl ?_; intro a hE
              exact ⟨Kept.refl _ _, _, _, rfl, hE, rfl⟩
            · intro a w ux39 hE hM hp
              refine s_move hE goes_none (by decide) rfl ?_; intro a hE
              exact ⟨Kept.refl _ _, _, _, rfl, hE, rfl⟩
            · intro a w ux39 hE hM hp
              have f3 : ux39 3 = (vI s34.2) := hp 0 _ rfl rfl
              refine s_int hE goes_none (by decide) rfl (lk rfl f3) rfl ?_; intro a hE
              exact ⟨Kept.refl _ _, _, _, rfl, hE, rfl⟩
            · intro a w ux39 hE hM hp
              have f2 : ux39 2 = (vI s26.2) := hp 0 _ rfl rfl
              have f4 : ux39 4 = (vI (wr (4 + s34.2))) := hp 1 _ rfl rfl
              refine s_int hE goes_none (by decide) (lk rfl f2) (lk rfl f4) rfl ?_; intro a hE
              exact ⟨Kept.refl _ _, _, _, rfl, hE, rfl⟩
            · intro a w ux39 hE hM hp
              have f5 : ux39 5 = (vI (xorI s26.2 (wr (4 + s34.2)))) := hp 0 _ rfl rfl
              refine s_conv hE goes_none (by decide) (lk rfl f5) Try.underlying3 Try.underlying5 ?_; intro a hE
              rw [byteI_val] at hE
              exact ⟨Kept.refl _ _, _, _, rfl, hE, rfl⟩
            · intro a w ux39 hE hM hp
              have f6 : ux39 6 = (vB (byteI (xorI s26.2 (wr (4 + s34.2))))) := hp 0 _ rfl rfl
              refine s_call (vs := [(vI 285), (vB (byteI (xorI s26.2 (wr (4 + s34.2)))))]) hE goes_none (by decide) (evs_of (evsC rfl (evsC (lk rfl f6) evsN))) cb111 (c_impl_field_inverse _ 285 (byteI (xorI s26.2 (wr (4 + s34.2)))) r40 e41) ?_
              rintro v w a ⟨rfl, hK⟩ hE
              exact ⟨hK, _, _, rfl, hE, rfl⟩
            · intro a w ux39 hE hM hp
              refine s_fieldAddr hE goes_none (by decide) rfl (fd103_2) ?_; intro a hE
              exact ⟨Kept.refl _ _, _, _, rfl, hE, rfl⟩
            · intro a w ux39 hE hM hp
              have f0 : ux39 0 = (vI s26.2) := hp 1 _ rfl rfl
              have f8 : ux39 8 = (ptr b3 (0 + 257)) := hp 0 _ rfl rfl
              refine s_indexA hE goes_none (by decide) (lk rfl f8) (lk rfl f0) Try.underlying100 ty98 hi42.1 ?_; intro a hE
              exact ⟨Kept.refl _ _, _, _, rfl, hE, rfl⟩
            · intro a w ux39 hE hM hp
              have f1 : ux39 1 = (vI s34.2) := hp 1 _ rfl rfl
              have f9 : ux39 9 = (ptr b3 (0 + 257 + (s26.2).toNat * 4)) := hp 0 _ rfl rfl
              refine s_indexA hE goes_none (by decide) (lk rfl f9) (lk rfl f1) Try.underlying98 ty5 hi45.1 ?_; intro a hE
              exact ⟨Kept.refl _ _, _, _, rfl, hE, rfl⟩
            · intro a w ux39 hE hM hg
              have f0 : ux39 0 = (vI s26.2) := hg 0 (by decide)
              have f1 : ux39 1 = (vI s34.2) := hg 1 (by decide)
              have f2 : ux39 2 = (vI s26.2) := hg 2 (by decide)
              have f3 : ux39 3 = (vI s34.2) := hg 3 (by decide)
              have f4 : ux39 4 = (vI (wr (4 + s34.2))) := hg 4 (by decide)
              have f5 : ux39 5 = (vI (xorI s26.2 (wr (4 + s34.2)))) := hg 5 (by decide)
              have f6 : ux39 6 = (vB (byteI (xorI s26.2 (wr (4 + s34.2))))) := hg 6 (by decide)
              have f7 : ux39 7 = (vB r40) := hg 7 (by decide)
              have f8 : ux39 8 = (ptr b3 (0 + 257)) := hg 8 (by decide)
              have f9 : ux39 9 = (ptr b3 (0 + 257 + (s26.2).toNat * 4)) := hg 9 (by decide)
              have f10 : ux39 10 = (ptr b3 (0 + 257 + (s26.2).toNat * 4 + (s34.2).toNat * 1)) := hg 10 (by decide)
              have hE := hE.sub (e' := [(35, (vI s26.2)), (36, (vI s34.2)), (37, (vI s26.2)), (38, (vI s34.2)), (39, (vI (wr (4 + s34.2)))), (40, (vI (xorI s26.2 (wr (4 + s34.2))))), (41, (vB (byteI (xorI s26.2 (wr (4 + s34.2)))))), (42, (vB r40)), (43, (ptr b3 (0 + 257))), (44, (ptr b3 (0 + 257 + (s26.2).toNat * 4))), (45, (ptr b3 (0 + 257 + (s26.2).toNat * 4 + (s34.2).toNat * 1))), (2, (ptr b1 0)), (3, (ptr b3 0)), (6, (vI s26.2)), (7, (vI s34.2)), (29, (vI s26.2)), (32, (vI s34.2)), (33, (vT (decide (s34.2 < 4)))), (34, (vI s34.2))]) ⟨lk rfl f0, lk rfl f1, lk rfl f2, lk rfl f3, lk rfl f4, lk rfl f5, lk rfl f6, lk rfl f7, lk rfl f8, lk rfl f9, lk rfl f10, rfl, rfl, rfl, rfl, rfl, rfl, rfl, rfl, trivial⟩
              refine s_store (seg := [(vB r40)]) (cs' := cat [[(vI 285)], Flat.enc j5, Flat.enc (s34.1.setIfInBounds (s26.2).toNat (x43.setIfInBounds (s34.2).toNat r40)), Flat.enc (Vector.replicate 16 (0 : UInt8)), [(vI p0)]]) hE hM goes_none rfl rfl rfl ty5 rfl (fit_catI (o' := (s26.2).toNat * 4 + (0 + (s34.2).toNat * 1)) (pre := [[(vI 285)], Flat.enc j5]) (seg := Flat.enc s34.1) (post := [Flat.enc (Vector.replicate 16 (0 : UInt8)), [(vI p0)]]) (cl1 (n := 1) (m := 256) rfl (cl1 (n := 256) (m := 0) (Flat.len _) cl0)) (fit_vecI (o' := 0 + (s34.2).toNat * 1) hi42 (fit_vec (v := x43) (x := r40) hi45.1) (by first | omega | (simp only [Flat.n] <;> omega))) (by first | omega | (simp only [Flat.n] <;> omega))) (Flat.cell (r40 : UInt8)) (splice_catI (o' := (s26.2).toNat * 4 + (0 + (s34.2).toNat * 1)) (pre := [[(vI 285)], Flat.enc j5]) (seg := Flat.enc s34.1) (post := [Flat.enc (Vector.replicate 16 (0 : UInt8)), [(vI p0)]]) (cl1 (n := 1) (m := 256) rfl (cl1 (n := 256) (m := 0) (Flat.len _) cl0)) (fit_vecI (o' := 0 + (s34.2).toNat * 1) hi42 (fit_vec (v := x43) (x := r40) hi45.1) (by first | omega | (simp only [Flat.n] <;> omega))) (splice_vecI (o' := 0 + (s34.2).toNat * 1) hi42 (fit_vec (v := x43) (x := r40) hi45.1) (splice_vec0 (v := x43) (x := r40) hi45.1) (by first | omega | (simp only [Flat.n] <;> omega))) (by first | omega | (simp only [Flat.n] <;> omega))) ?_; intro w a hM hE
              refine c_fin0 ?_
              refine c_nb ?_
              refine c_nx ?_
              refine wp_region_lit ?_
              refine s_int hE goes_none (by decide) rfl rfl rfl ?_; intro a hE
              refine s_move hE goes_none (by decide) rfl ?_; intro a hE
              refine c_fin0 ?_
              refine c_mid ?_
              exact ⟨_, (Option.some.inj hs35).symm, hE.sub ⟨rfl, rfl, rfl, rfl, rfl, trivial⟩, hM⟩
          · intro hb38
            have hs35 := ite_f hs35 hb38
            refine wp_exit (e_then (e_then (e_eq ?_)))
            have ht48 := hx36 _ (Option.some.inj hs35).symm
            subst ht48
            refine c_mid ?_
            exact ⟨hE.sub ⟨rfl, rfl, rfl, trivial⟩, hM⟩
        · skip
          rintro a w ⟨hE, hM⟩
          refine c_nb ?_
          refine c_nx ?_
          refine wp_region_lit ?_
          refine s_int hE goes_none (by decide) rfl rfl rfl ?_; intro a hE
          refine s_move hE goes_none (by decide) rfl ?_; intro a hE
          refine c_fin0 ?_
          refine c_mid ?_
          exact ⟨_, (Option.some.inj hF33).symm, hE.sub ⟨rfl, rfl, rfl, trivial⟩, hM⟩
      · intro hb30
        have hs27 := ite_f hs27 hb30
        refine wp_exit (e_then (e_then (e_eq ?_)))
        have ht49 := hx28 _ (Option.some.inj hs27).symm
        subst ht49
        refine c_mid ?_
        exact ⟨hE.sub ⟨rfl, rfl, trivial⟩, hM⟩
    · skip
      rintro a w ⟨hE, hM⟩
      refine c_nx ?_
      refine wp_seq ?_
      refine c_region ?_
      refine s_move hE goes_none (by decide) rfl ?_; intro a hE
      refine c_fin ?_
      obtain ⟨j50, hl51, hF52⟩ := bind_some hF25
      refine c_cut (fun a w => Env 61 a [(2, (ptr b1 0)), (3, (ptr b3 0))] ∧ M (Old w0) w0 w [raw b3 (cat [[(vI 285)], Flat.enc j5, Flat.enc j23, Flat.enc j50, [(vI p0)]]), raw b1 (cat [[(vI 0)], Flat.enc (Vector.replicate 256 (0 : UInt8)), Flat.enc (Vector.replicate 4 (Vector.replicate 4 (0 : UInt8))), Flat.enc (Vector.replicate 16 (0 : UInt8)), [(vI 0)]])]) ?_ ?_
      · skip
        refine wp_block ?_
        refine c_loop (fun (s53 : (Vector UInt8 16) × Int) a w => Env 61 a [(2, (ptr b1 0)), (3, (ptr b3 0)), (48, (vI s53.2))] ∧ M (Old w0) w0 w [raw b3 (cat [[(vI 285)], Flat.enc j5, Flat.enc j23, Flat.enc s53.1, [(vI p0)]]), raw b1 (cat [[(vI 0)], Flat.enc (Vector.replicate 256 (0 : UInt8)), Flat.enc (Vector.replicate 4 (Vector.replicate 4 (0 : UInt8))), Flat.enc (Vector.replicate 16 (0 : UInt8)), [(vI 0)]])]) hl51 ⟨hE.sub ⟨rfl, rfl, rfl, trivial⟩, hM⟩ ?_
        rintro s53 a w ⟨hE, hM⟩ o56 hs54 hx55
        unfold L3_impl_houseCipher at hs54
        refine c_region ?_
        refine s_int hE goes_none (by decide) rfl rfl rfl ?_; intro a hE
        refine c_fin ?_
        refine wp_seq ?_
        refine c_cond hE rfl ?_ ?_
        · intro hb57
          have hs54 := ite_t hs54 hb57
          refine wp_skip ?_
          refine c_nx ?_
          refine wp_seq ?_
          refine wp_block ?_
          refine c_region ?_
          refine s_move hE goes_none (by decide) rfl ?_; intro a hE
          refine s_assign hE goes_none (by decide) rfl ?_; intro a hE
          refine c_fin ?_
          refine wp_region_lit ?_
          refine s_move hE goes_none (by decide) rfl ?_; intro a hE
          refine s_move hE goes_none (by decide) rfl ?_; intro a hE
          refine s_int hE goes_none (by decide) rfl rfl rfl ?_; intro a hE
          refine s_int hE goes_none (by decide) rfl rfl rfl ?_; intro a hE
          refine s_int hE goes_none (by decide) rfl rfl (bI_rem _ _ (by decide)) ?_; intro a hE
          refine s_conv hE goes_none (by decide) rfl Try.underlying3 Try.underlying5 ?_; intro a hE
          rw [byteI_val] at hE
          refine s_fieldAddr hE goes_none (by decide) rfl (fd103_3) ?_; intro a hE
          obtain ⟨x59, e60, hs54⟩ := bind_some hs54
          have hi58 := vidx_some e60
          refine s_indexA hE goes_none (by decide) rfl rfl Try.underlying101 ty5 hi58.1 ?_; intro a hE
          refine s_store (seg := [(vB (byteI (Int.tmod (wr ((wr (13 * s53.2)) + 4)) 16)))]) (cs' := cat [[(vI 285)], Flat.enc j5, Flat.enc j23, Flat.enc (s53.1.setIfInBounds (s53.2).toNat (byteI (Int.tmod (wr ((wr (13 * s53.2)) + 4)) 16))), [(vI p0)]]) hE hM goes_none rfl rfl rfl ty5 rfl (fit_catI (o' := 0 + (s53.2).toNat * 1) (pre := [[(vI 285)], Flat.enc j5, Flat.enc j23]) (seg := Flat.enc s53.1) (post := [[(vI p0)]]) (cl1 (n := 1) (m := 272) rfl (cl1 (n := 256) (m := 16) (Flat.len _) (cl1 (n := 16) (m := 0) (Flat.len _) cl0))) (fit_vec (v := s53.1) (x := byteI (Int.tmod (wr ((wr (13 * s53.2)) + 4)) 16)) hi58.1) (by first | omega | (simp only [Flat.n] <;> omega))) (Flat.cell (byteI (Int.tmod (wr ((wr (13 * s53.2)) + 4)) 16) : UInt8)) (splice_catI (o' := 0 + (s53.2).toNat * 1) (pre := [[(vI 285)], Flat.enc j5, Flat.enc j23]) (seg := Flat.enc s53.1) (post := [[(vI p0)]]) (cl1 (n := 1) (m := 272) rfl (cl1 (n := 256) (m := 16) (Flat.len _) (cl1 (n := 16) (m := 0) (Flat.len _) cl0))) (fit_vec (v := s53.1) (x := byteI (Int.tmod (wr ((wr (13 * s53.2)) + 4)) 16)) hi58.1) (splice_vec0 (v := s53.1) (x := byteI (Int.tmod (wr ((wr (13 * s53.2)) + 4)) 16)) hi58.1) (by first | omega | (simp only [Flat.n] <;> omega))) ?_; intro w a hM hE
          refine c_fin0 ?_
          refine c_nb ?_
          refine c_nx ?_
          refine wp_region_lit ?_
          refine s_int hE goes_none (by decide) rfl rfl rfl ?_; intro a hE
          refine s_move hE goes_none (by decide) rfl ?_; intro a hE
          refine c_fin0 ?_
          refine c_mid ?_
          exact ⟨_, (Option.some.inj hs54).symm, hE.sub ⟨rfl, rfl, rfl, trivial⟩, hM⟩
        · intro hb57
          have hs54 := ite_f hs54 hb57
          refine wp_exit (e_then (e_then (e_eq ?_)))
          have ht61 := hx55 _ (Option.some.inj hs54).symm
          subst ht61
          refine c_mid ?_
          exact ⟨hE.sub ⟨rfl, rfl, trivial⟩, hM⟩
      · skip
        rintro a w ⟨hE, hM⟩
        refine c_nx ?_
        refine c_region ?_
        refine s_loadA (cs := Flat.enc (⟨285, j5, j23, j50, p0⟩ : GCipher)) hE goes_none (by decide) rfl ty103 rfl (hM.rawAt (pre := [])) (cat_len (cl1 (n := 1) (m := 289) rfl (cl1 (n := 256) (m := 33) (Flat.len _) (cl1 (n := 16) (m := 17) (Flat.len _) (cl1 (n := 16) (m := 1) (Flat.len _) (cl1 (n := 1) (m := 0) rfl cl0)))))) ?_; intro a hE
        have hM := hM.pull (pre := [_])
        refine s_store (seg := cat [[(vI ((⟨285, j5, j23, j50, p0⟩ : GCipher).Field))], Flat.enc ((⟨285, j5, j23, j50, p0⟩ : GCipher).Box), Flat.enc ((⟨285, j5, j23, j50, p0⟩ : GCipher).Mix), Flat.enc ((⟨285, j5, j23, j50, p0⟩ : GCipher).Places), [(vI ((⟨285, j5, j23, j50, p0⟩ : GCipher).Rounds))]]) (cs' := cat [[(vI ((⟨285, j5, j23, j50, p0⟩ : GCipher).Field))], Flat.enc ((⟨285, j5, j23, j50, p0⟩ : GCipher).Box), Flat.enc ((⟨285, j5, j23, j50, p0⟩ : GCipher).Mix), Flat.enc ((⟨285, j5, j23, j50, p0⟩ : GCipher).Places), [(vI ((⟨285, j5, j23, j50, p0⟩ : GCipher).Rounds))]]) hE hM goes_none rfl rfl rfl ty103 (cat_len (cl1 (n := 1) (m := 289) rfl (cl1 (n := 256) (m := 33) (Flat.len _) (cl1 (n := 16) (m := 17) (Flat.len _) (cl1 (n := 16) (m := 1) (Flat.len _) (cl1 (n := 1) (m := 0) rfl cl0)))))) (Nat.le_of_eq ((Nat.zero_add _).trans (Eq.trans (cat_len (cl1 (n := 1) (m := 289) rfl (cl1 (n := 256) (m := 33) (Flat.len _) (cl1 (n := 16) (m := 17) (Flat.len _) (cl1 (n := 16) (m := 1) (Flat.len _) (cl1 (n := 1) (m := 0) rfl cl0)))))) (Eq.symm (cat_len (cl1 (n := 1) (m := 289) rfl (cl1 (n := 256) (m := 33) (Flat.len _) (cl1 (n := 16) (m := 17) (Flat.len _) (cl1 (n := 16) (m := 1) (Flat.len _) (cl1 (n := 1) (m := 0) rfl cl0)))))))))) (cat_cell (cc1 (Flat.cell ((⟨285, j5, j23, j50, p0⟩ : GCipher).Field : Int)) (cc1 (Flat.cell _) (cc1 (Flat.cell _) (cc1 (Flat.cell _) (cc1 (Flat.cell ((⟨285, j5, j23, j50, p0⟩ : GCipher).Rounds : Int)) cc0)))))) (splice_all (Eq.trans (cat_len (cl1 (n := 1) (m := 289) rfl (cl1 (n := 256) (m := 33) (Flat.len _) (cl1 (n := 16) (m := 17) (Flat.len _) (cl1 (n := 16) (m := 1) (Flat.len _) (cl1 (n := 1) (m := 0) rfl cl0)))))) (Eq.symm (cat_len (cl1 (n := 1) (m := 289) rfl (cl1 (n := 256) (m := 33) (Flat.len _) (cl1 (n := 16) (m := 17) (Flat.len _) (cl1 (n := 16) (m := 1) (Flat.len _) (cl1 (n := 1) (m := 0) rfl cl0))))))))) ?_; intro w a hM hE
        refine c_fin ?_
        have hr := Option.some.inj hF52
        subst hr
        have hq62 : ResIs Try.prog _ _ (.cell 2 103) _ := res_cell hE rfl ty103 rfl (hM.rawAt (pre := [])) (cat_len (cl1 (n := 1) (m := 289) rfl (cl1 (n := 256) (m := 33) (Flat.len _) (cl1 (n := 16) (m := 17) (Flat.len _) (cl1 (n := 16) (m := 1) (Flat.len _) (cl1 (n := 1) (m := 0) rfl cl0)))))) rfl
        have hM := M.fst (l := []) hM
        exact wp_ret (k_ret1 hE rfl hq62 ⟨_, rfl, rfl, hM.kept⟩)
noncomputable def L0_impl_UnitMatrix (s8 : (Vector (Vector UInt8 4) 4) × Int) : Option (Fl ((Vector (Vector UInt8 4) 4) × Int) (Vector (Vector UInt8 4) 4)) :=
  if (decide (s8.2 < 4)) = true then ((vidx s8.1 s8.2).bind fun (x14 : (Vector UInt8 4)) => (vidx x14 s8.2).bind fun (x17 : UInt8) => some (Fl.nx ((s8.1.setIfInBounds (s8.2).toNat (x14.setIfInBounds (s8.2).toNat 1)), wr (s8.2 + 1)))) else (some (Fl.ex s8.1))
noncomputable def F_impl_UnitMatrix : Option ((Vector (Vector UInt8 4) 4)) :=
  (iter (L0_impl_UnitMatrix) ((Vector.replicate 4 (Vector.replicate 4 (0 : UInt8))), 0) : Option ((Vector (Vector UInt8 4) 4))).bind fun (j5 : (Vector (Vector UInt8 4) 4)) => some j5
set_option maxRecDepth 20000 in
set_option maxHeartbeats 400000 in
theorem c_impl_UnitMatrix (w0 : World)  (r : (Vector (Vector UInt8 4) 4)) (hF : F_impl_UnitMatrix  = some r) :
    Calls Try.prog 126 [].toArray w0 (fun en w' => ∃ v, en = .returned v ∧ (v = (Value.agg (Flat.enc r).toArray) ∧ Kept (Old w0) w0 w')) := by
  refine c_enter (n := 13) Try.func126 rfl rfl (Nat.le_of_ble_eq_true rfl) rfl ?_
  intro a hE
  have hM := M.start w0
  unfold F_impl_UnitMatrix at hF
  refine c_region ?_
  refine s_alloc hE hM goes_none (by decide) ty100 ?_; intro b1 w a hM hE
  refine c_fin ?_
  refine c_region ?_
  refine s_buildA (parts := []) (vs := []) (cs := Flat.enc (Vector.replicate 4 (Vector.replicate 4 (0 : UInt8)))) hE goes_none (by decide) rfl rfl ty100 rfl ty98 filla_nil ?_; intro a hE
  refine s_alloc hE hM goes_none (by decide) ty100 ?_; intro b3 w a hM hE
  refine s_store (seg := Flat.enc (Vector.replicate 4 (Vector.replicate 4 (0 : UInt8)))) (cs' := Flat.enc (Vector.replicate 4 (Vector.replicate 4 (0 : UInt8)))) hE hM goes_none rfl rfl rfl ty100 (Flat.len _) (Nat.le_of_eq ((Nat.zero_add _).trans (Eq.trans (Flat.len _) (Eq.symm (Flat.len _))))) (Flat.cell _) (splice_all (Eq.trans (Flat.len _) (Eq.symm (Flat.len _)))) ?_; intro w a hM hE
  refine c_fin ?_
  refine wp_seq ?_
  refine c_region ?_
  refine s_move hE goes_none (by decide) rfl ?_; intro a hE
  refine c_fin ?_
  obtain ⟨j5, hl6, hF7⟩ := bind_some hF
  refine c_cut (fun a w => Env 13 a [(0, (ptr b1 0)), (1, (ptr b3 0))] ∧ M (Old w0) w0 w [raw b3 (Flat.enc j5), raw b1 (Flat.enc (Vector.replicate 4 (Vector.replicate 4 (0 : UInt8))))]) ?_ ?_
  · skip
    refine wp_block ?_
    refine c_loop (fun (s8 : (Vector (Vector UInt8 4) 4) × Int) a w => Env 13 a [(0, (ptr b1 0)), (1, (ptr b3 0)), (4, (vI s8.2))] ∧ M (Old w0) w0 w [raw b3 (Flat.enc s8.1), raw b1 (Flat.enc (Vector.replicate 4 (Vector.replicate 4 (0 : UInt8))))]) hl6 ⟨hE.sub ⟨rfl, rfl, rfl, trivial⟩, hM⟩ ?_
    rintro s8 a w ⟨hE, hM⟩ o11 hs9 hx10
    unfold L0_impl_UnitMatrix at hs9
    refine c_region ?_
    refine s_int hE goes_none (by decide) rfl rfl rfl ?_; intro a hE
    refine c_fin ?_
    refine wp_seq ?_
    refine c_cond hE rfl ?_ ?_
    · intro hb12
      have hs9 := ite_t hs9 hb12
      refine wp_skip ?_
      refine c_nx ?_
      refine wp_seq ?_
      refine wp_block ?_
      refine c_region ?_
      refine s_move hE goes_none (by decide) rfl ?_; intro a hE
      refine s_assign hE goes_none (by decide) rfl ?_; intro a hE
      refine c_fin ?_
      refine wp_region_lit ?_
      refine s_move hE goes_none (by decide) rfl ?_; intro a hE
      refine s_move hE goes_none (by decide) rfl ?_; intro a hE
      obtain ⟨x14, e15, hs9⟩ := bind_some hs9
      have hi13 := vidx_some e15
      refine s_indexA hE goes_none (by decide) rfl rfl Try.underlying100 ty98 hi13.1 ?_; intro a hE
      obtain ⟨x17, e18, hs9⟩ := bind_some hs9
      have hi16 := vidx_some e18
      refine s_indexA hE goes_none (by decide) rfl rfl Try.underlying98 ty5 hi16.1 ?_; intro a hE
      refine s_store (seg := [(vB 1)]) (cs' := Flat.enc (s8.1.setIfInBounds (s8.2).toNat (x14.setIfInBounds (s8.2).toNat 1))) hE hM goes_none rfl rfl rfl ty5 rfl (fit_vecI (o' := 0 + (s8.2).toNat * 1) hi13 (fit_vec (v := x14) (x := 1) hi16.1) (by first | omega | (simp only [Flat.n] <;> omega))) (Flat.cell (1 : UInt8)) (splice_vecI (o' := 0 + (s8.2).toNat * 1) hi13 (fit_vec (v := x14) (x := 1) hi16.1) (splice_vec0 (v := x14) (x := 1) hi16.1) (by first | omega | (simp only [Flat.n] <;> omega))) ?_; intro w a hM hE
      refine c_fin0 ?_
      refine c_nb ?_
      refine c_nx ?_
      refine wp_region_lit ?_
      refine s_int hE goes_none (by decide) rfl rfl rfl ?_; intro a hE
      refine s_move hE goes_none (by decide) rfl ?_; intro a hE
      refine c_fin0 ?_
      refine c_mid ?_
      exact ⟨_, (Option.some.inj hs9).symm, hE.sub ⟨rfl, rfl, rfl, trivial⟩, hM⟩
    · intro hb12
      have hs9 := ite_f hs9 hb12
      refine wp_exit (e_then (e_then (e_eq ?_)))
      have ht19 := hx10 _ (Option.some.inj hs9).symm
      subst ht19
      refine c_mid ?_
      exact ⟨hE.sub ⟨rfl, rfl, trivial⟩, hM⟩
  · skip
    rintro a w ⟨hE, hM⟩
    refine c_nx ?_
    refine c_region ?_
    refine s_loadA (cs := Flat.enc j5) hE goes_none (by decide) rfl ty100 rfl (hM.rawAt (pre := [])) (Flat.len _) ?_; intro a hE
    have hM := hM.pull (pre := [_])
    refine s_store (seg := Flat.enc j5) (cs' := Flat.enc j5) hE hM goes_none rfl rfl rfl ty100 (Flat.len _) (Nat.le_of_eq ((Nat.zero_add _).trans (Eq.trans (Flat.len _) (Eq.symm (Flat.len _))))) (Flat.cell _) (splice_all (Eq.trans (Flat.len _) (Eq.symm (Flat.len _)))) ?_; intro w a hM hE
    refine c_fin ?_
    have hr := Option.some.inj hF7
    subst hr
    have hq20 : ResIs Try.prog _ _ (.cell 0 100) _ := res_cell hE rfl ty100 rfl (hM.rawAt (pre := [])) (Flat.len _) rfl
    have hM := M.fst (l := []) hM
    exact wp_ret (k_ret1 hE rfl hq20 ⟨_, rfl, rfl, hM.kept⟩)
noncomputable def L1_impl_field_invert (s13 : (Vector (Vector UInt8 4) 4) × (Vector (Vector UInt8 4) 4) × Int × UInt8) (s21 : Int) : Option (Fl Int Int) :=
  (if (decide (s21 < 4)) = true then ((vidx s13.1 s21).bind fun (x30 : (Vector UInt8 4)) => (vidx x30 s13.2.2.1).bind fun (x33 : UInt8) => some (x33 == 0)) else (some false) : Option (Bool)).bind fun (j25 : Bool) => if j25 = true then (some (Fl.nx (wr (s21 + 1)))) else (some (Fl.ex s21))
noncomputable def L2_impl_field_invert (p0 : Int) (s13 : (Vector (Vector UInt8 4) 4) × (Vector (Vector UInt8 4) 4) × Int × UInt8) (r90 : UInt8) (s95 : (Vector (Vector UInt8 4) 4) × (Vector (Vector UInt8 4) 4) × Int) : Option (Fl ((Vector (Vector UInt8 4) 4) × (Vector (Vector UInt8 4) 4) × Int) ((Vector (Vector UInt8 4) 4) × (Vector (Vector UInt8 4) 4))) :=
  if (decide (s95.2.2 < 4)) = true then ((vidx s95.1 s13.2.2.1).bind fun (x102 : (Vector UInt8 4)) => (vidx x102 s95.2.2).bind fun (x105 : UInt8) => (F_impl_field_times p0 x105 r90).bind fun (r107 : UInt8) => (vidx s95.2.1 s13.2.2.1).bind fun (x110 : (Vector UInt8 4)) => (vidx x110 s95.2.2).bind fun (x113 : UInt8) => (F_impl_field_times p0 x113 r90).bind fun (r115 : UInt8) => (vidx s95.1 s13.2.2.1).bind fun (x118 : (Vector UInt8 4)) => (vidx x118 s95.2.2).bind fun (x121 : UInt8) => (vidx s95.2.1 s13.2.2.1).bind fun (x124 : (Vector UInt8 4)) => (vidx x124 s95.2.2).bind fun (x127 : UInt8) => some (Fl.nx ((s95.1.setIfInBounds (s13.2.2.1).toNat (x118.setIfInBounds (s95.2.2).toNat r107)), (s95.2.1.setIfInBounds (s13.2.2.1).toNat (x124.setIfInBounds (s95.2.2).toNat r115)), wr (s95.2.2 + 1)))) else (some (Fl.ex (s95.1, s95.2.1)))
noncomputable def L4_impl_field_invert (p0 : Int) (s13 : (Vector (Vector UInt8 4) 4) × (Vector (Vector UInt8 4) 4) × Int × UInt8) (s133 : (Vector (Vector UInt8 4) 4) × (Vector (Vector UInt8 4) 4) × Int) (x145 : UInt8) (s160 : (Vector (Vector UInt8 4) 4) × (Vector (Vector UInt8 4) 4) × Int) : Option (Fl ((Vector (Vector UInt8 4) 4) × (Vector (Vector UInt8 4) 4) × Int) ((Vector (Vector UInt8 4) 4) × (Vector (Vector UInt8 4) 4))) :=
  if (decide (s160.2.2 < 4)) = true then (((vidx s160.1 s133.2.2).bind fun (x170 : (Vector UInt8 4)) => (vidx x170 s160.2.2).bind fun (x173 : UInt8) => (vidx s160.1 s13.2.2.1).bind fun (x176 : (Vector UInt8 4)) => (vidx x176 s160.2.2).bind fun (x179 : UInt8) => (F_impl_field_times p0 x145 x179).bind fun (r181 : UInt8) => (vidx s160.1 s133.2.2).bind fun (x184 : (Vector UInt8 4)) => (vidx x184 s160.2.2).bind fun (x187 : UInt8) => some (s160.1.setIfInBounds (s133.2.2).toNat (x184.setIfInBounds (s160.2.2).toNat (x173 ^^^ r181))) : Option ((Vector (Vector UInt8 4) 4))).bind fun (j165 : (Vector (Vector UInt8 4) 4)) => (vidx s160.2.1 s133.2.2).bind fun (x192 : (Vector UInt8 4)) => (vidx x192 s160.2.2).bind fun (x195 : UInt8) => (vidx s160.2.1 s13.2.2.1).bind fun (x198 : (Vector UInt8 4)) => (vidx x198 s160.2.2).bind fun (x201 : UInt8) => (F_impl_field_times p0 x145 x201).bind fun (r203 : UInt8) => (vidx s160.2.1 s133.2.2).bind fun (x206 : (Vector UInt8 4)) => (vidx x206 s160.2.2).bind fun (x209 : UInt8) => some (Fl.nx (j165, (s160.2.1.setIfInBounds (s133.2.2).toNat (x206.setIfInBounds (s160.2.2).toNat (x195 ^^^ r203))), wr (s160.2.2 + 1)))) else (some (Fl.ex (s160.1, s160.2.1)))
noncomputable def L3_impl_field_invert (p0 : Int) (s13 : (Vector (Vector UInt8 4) 4) × (Vector (Vector UInt8 4) 4) × Int × UInt8) (s133 : (Vector (Vector UInt8 4) 4) × (Vector (Vector UInt8 4) 4) × Int) : Option (Fl ((Vector (Vector UInt8 4) 4) × (Vector (Vector UInt8 4) 4) × Int) ((Vector (Vector UInt8 4) 4) × (Vector (Vector UInt8 4) 4))) :=
  if (decide (s133.2.2 < 4)) = true then (((vidx s133.1 s133.2.2).bind fun (x142 : (Vector UInt8 4)) => (vidx x142 s13.2.2.1).bind fun (x145 : UInt8) => (if (s133.2.2 != s13.2.2.1) = true then (some (x145 != 0)) else (some false) : Option (Bool)).bind fun (j147 : Bool) => (if j147 = true then ((iter (L4_impl_field_invert p0 s13 s133 x145) (s133.1, s133.2.1, 0) : Option ((Vector (Vector UInt8 4) 4) × (Vector (Vector UInt8 4) 4))).bind fun (j157 : (Vector (Vector UInt8 4) 4) × (Vector (Vector UInt8 4) 4)) => some (j157.1, j157.2)) else (some (s133.1, s133.2.1)) : Option ((Vector (Vector UInt8 4) 4) × (Vector (Vector UInt8 4) 4))).bind fun (j153 : (Vector (Vector UInt8 4) 4) × (Vector (Vector UInt8 4) 4)) => some (j153.1, j153.2) : Option ((Vector (Vector UInt8 4) 4) × (Vector (Vector UInt8 4) 4))).bind fun (j138 : (Vector (Vector UInt8 4) 4) × (Vector (Vector UInt8 4) 4)) => some (Fl.nx (j138.1, j138.2, wr (s133.2.2 + 1)))) else (some (Fl.ex (s133.1, s133.2.1)))
noncomputable def L0_impl_field_invert (p0 : Int) (s13 : (Vector (Vector UInt8 4) 4) × (Vector (Vector UInt8 4) 4) × Int × UInt8) : Option (Fl ((Vector (Vector UInt8 4) 4) × (Vector (Vector UInt8 4) 4) × Int × UInt8) (Fl ((Vector (Vector UInt8 4) 4) × UInt8) (UInt8 × (Vector (Vector UInt8 4) 4)))) :=
  if (decide (s13.2.2.1 < 4)) = true then ((iter (L1_impl_field_invert s13) s13.2.2.1 : Option (Int)).bind fun (j18 : Int) => if (j18 == 4) = true then (some (Fl.ex (Fl.ex (0, (Vector.replicate 4 (Vector.replicate 4 (0 : UInt8))))))) else (((vidx s13.1 s13.2.2.1).bind fun (x47 : (Vector UInt8 4)) => (vidx s13.1 j18).bind fun (x50 : (Vector UInt8 4)) => (vidx s13.1 j18).bind fun (x53 : (Vector UInt8 4)) => (vidx (s13.1.setIfInBounds (j18).toNat x47) s13.2.2.1).bind fun (x56 : (Vector UInt8 4)) => some ((s13.1.setIfInBounds (j18).toNat x47).setIfInBounds (s13.2.2.1).toNat x50) : Option ((Vector (Vector UInt8 4) 4))).bind fun (j42 : (Vector (Vector UInt8 4) 4)) => ((vidx s13.2.1 s13.2.2.1).bind fun (x64 : (Vector UInt8 4)) => (vidx s13.2.1 j18).bind fun (x67 : (Vector UInt8 4)) => (vidx s13.2.1 j18).bind fun (x70 : (Vector UInt8 4)) => (vidx (s13.2.1.setIfInBounds (j18).toNat x64) s13.2.2.1).bind fun (x73 : (Vector UInt8 4)) => some ((s13.2.1.setIfInBounds (j18).toNat x64).setIfInBounds (s13.2.2.1).toNat x67) : Option ((Vector (Vector UInt8 4) 4))).bind fun (j59 : (Vector (Vector UInt8 4) 4)) => (vidx j42 s13.2.2.1).bind fun (x77 : (Vector UInt8 4)) => (vidx x77 s13.2.2.1).bind fun (x80 : UInt8) => (F_impl_field_times p0 s13.2.2.2 x80).bind fun (r82 : UInt8) => (vidx j42 s13.2.2.1).bind fun (x85 : (Vector UInt8 4)) => (vidx x85 s13.2.2.1).bind fun (x88 : UInt8) => (F_impl_field_inverse p0 x88).bind fun (r90 : UInt8) => (iter (L2_impl_field_invert p0 s13 r90) (j42, j59, 0) : Option ((Vector (Vector UInt8 4) 4) × (Vector (Vector UInt8 4) 4))).bind fun (j92 : (Vector (Vector UInt8 4) 4) × (Vector (Vector UInt8 4) 4)) => (iter (L3_impl_field_invert p0 s13) (j92.1, j92.2, 0) : Option ((Vector (Vector UInt8 4) 4) × (Vector (Vector UInt8 4) 4))).bind fun (j130 : (Vector (Vector UInt8 4) 4) × (Vector (Vector UInt8 4) 4)) => some (Fl.nx (j130.1, j130.2, wr (s13.2.2.1 + 1), r82)))) else (some (Fl.ex (Fl.nx (s13.2.1, s13.2.2.2))))
noncomputable def F_impl_field_invert (p0 : Int) (p1 : (Vector (Vector UInt8 4) 4)) : Option (UInt8 × (Vector (Vector UInt8 4) 4)) :=
  (F_impl_UnitMatrix).bind fun (r5 : (Vector (Vector UInt8 4) 4)) => (iter (L0_impl_field_invert p0) (p1, r5, 0, 1) : Option (Fl ((Vector (Vector UInt8 4) 4) × UInt8) (UInt8 × (Vector (Vector UInt8 4) 4)))).bind fun (j9 : Fl ((Vector (Vector UInt8 4) 4) × UInt8) (UInt8 × (Vector (Vector UInt8 4) 4))) => j9.el (fun (s12 : (Vector (Vector UInt8 4) 4) × UInt8) => (some (s12.1, s12.2) : Option ((Vector (Vector UInt8 4) 4) × UInt8)).bind fun (j217 : (Vector (Vector UInt8 4) 4) × UInt8) => some (j217.2, j217.1)) (fun r => some r)
end Go.Proofs.Ytifdeoikcebbjaa
